/-
  Texts that the proof rests on, joined: part 48.
-/
import Derived.LaidEql
import Derived.Stop.Asserts
import Derived.RowKitTokens
import Derived.LaidLaws
import Derived.LaidHandle
import Derived.Stop.Joined
import Derived.OwnWalk
import Derived.Lib.LaidTab
import Derived.LaidMore
import Derived.Lay
import Derived.SevenTiedAt
import Derived.Test.YtddkjbibjjehjaaGreatDoorSXr44
import Derived.Test.YtddkjbibjjehjaaGreatDoorSXr47
set_option maxHeartbeats 16000000
set_option maxRecDepth 100000
namespace Go.Proofs.YtddkjbibjjehjaaGreatDoor
open Go.RowKit Go.Extern.Stop Go.Stop Go.Extern
set_option linter.unusedVariables false
theorem ZH (t:Value)(w:World):
 Calls Tryz.prog 44 #[.nilIface,t] w fun e w'=>e=.returned (.bool false)/\w'=w:=by
 go_enter Tryz.func44,Tryz.ntmps44;go_wp2
 go_ret;exact⟨rfl,rfl⟩
theorem Jr (t:Addr)(w:World):(ReflectliteValue.unpack (.iface 83 (.pointer (some t)))).run Tryz.prog w
 =.ok (.agg #[.pointer (some ⟨7,83,none⟩),.pointer (some ⟨w.heap.size,0,none⟩),.int .u64 150]) (w.alloc (.cells #[.pointer (some t)] 83)):=by kernel_rfl
theorem Rq (a:Addr)(w:World):(ReflectliteValue.methodAny (ReflectliteValue.valueError "reflectlite.Value.Type" 0) (fun t _ _ _=>ReflectliteType.toType t) #[.agg #[.pointer (some ⟨7,83,none⟩),.pointer (some a),.int .u64 150]]).run Tryz.prog w
 =.ok (.iface 161 (.agg #[.pointer (some ⟨7,83,none⟩)])) w:=by kernel_rfl
theorem FN (h:Value)(w:World):(Go.method 364 161 (.agg #[h]) "Kind").run Tryz.prog w=.ok (222,h) w:=by kernel_rfl
theorem Rs (w:World):((ReflectliteType.abiMethod fun t=>(fun a:Nat=>Value.int IntKind.u8 (a:Int))<$>Rtype.kind t) #[.pointer (some ⟨7,83,none⟩)]).run Tryz.prog w=.ok (.int .u8 22) w:=by kernel_rfl
theorem Rt (w:World):((ReflectliteType.abiMethod fun t=>(fun a:Nat=>Value.int IntKind.u8 (a:Int))<$>Rtype.kind t) #[.pointer (some ⟨7,81,none⟩)]).run Tryz.prog w=.ok (.int .u8 22) w:=by kernel_rfl
theorem rlm (z:Sem Value)(f:TypeId->Addr->Nat->Nat->Sem Value)(v:Value):
 ReflectliteValue.method z f #[v] =(do match<-ReflectliteValue.parts v with|none=>z|some (t,a,fl)=>f t a fl (fl % 32)):=rfl
theorem EL (a:Addr)(w:World):(ReflectliteValue.parts (.agg #[.pointer (some ⟨7,83,none⟩),.pointer (some a),.int .u64 150])).run Tryz.prog w=.ok (some (83,a,150)) w:=by kernel_rfl
theorem NS (a p:Addr)(W:World)(ha:W.cell? a=some (.pointer (some p))):
 (ReflectliteValue.method (ReflectliteValue.valueError "reflectlite.Value.IsNil" 0) ReflectliteValue.isNil #[.agg #[.pointer (some ⟨7,83,none⟩),.pointer (some a),.int .u64 150]]).run Tryz.prog W=.ok (.bool false) W:=by
 rw[rlm];simp only[Sem.run_bind,EL,Result.andThen];simp[ReflectliteValue.isNil,loadVar,isAgg,underlying,Tryz.underlying83,ha,Result.andThen]
theorem FP (h:Value)(w:World):(Go.method 364 161 (.agg #[h]) "Elem").run Tryz.prog w=.ok (234,.agg #[h]) w:=by kernel_rfl
theorem wE (h:Value)(w:World):(Go.method 364 161 (.agg #[h]) "Implements").run Tryz.prog w=.ok (235,.agg #[h]) w:=by kernel_rfl
theorem tN (h:Value)(w:World):(Go.method 364 161 (.agg #[h]) "AssignableTo").run Tryz.prog w=.ok (232,.agg #[h]) w:=by kernel_rfl
theorem Ru (w:World):(ReflectliteType.method ReflectliteType.elem #[.agg #[.pointer (some ⟨7,83,none⟩)]]).run Tryz.prog w=.ok (.iface 161 (.agg #[.pointer (some ⟨7,81,none⟩)])) w:=by kernel_rfl
theorem BX (w:World):(ReflectliteType.relation "Implements" ReflectliteType.implements_ #[.agg #[.pointer (some ⟨7,81,none⟩)],.iface 161 (.agg #[.pointer (some ⟨7,37,none⟩)])]).run Tryz.prog w=.ok (.bool true) w:=by kernel_rfl
theorem Li (v:Value)(w:World):(ReflectliteType.typeOf #[.iface 81 v]).run Tryz.prog w=.ok (.iface 161 (.agg #[.pointer (some ⟨7,81,none⟩)])) w:=by kernel_rfl
theorem BZ (w:World):(ReflectliteType.relation "AssignableTo" ReflectliteType.assignableTo #[.agg #[.pointer (some ⟨7,81,none⟩)],.iface 161 (.agg #[.pointer (some ⟨7,81,none⟩)])]).run Tryz.prog w=.ok (.bool true) w:=by kernel_rfl
theorem Js (e:Addr)(w:World):(ReflectliteValue.unpack (.iface 81 (.pointer (some e)))).run Tryz.prog w
 =.ok (.agg #[.pointer (some ⟨7,81,none⟩),.pointer (some ⟨w.heap.size,0,none⟩),.int .u64 150]) (w.alloc (.cells #[.pointer (some e)] 81)):=by kernel_rfl
theorem Lj (w:World):(Rtype.elem? 83).run Tryz.prog w=.ok (some 81) w:=by kernel_rfl
theorem Xl (p:Addr)(w:World):(ReflectliteValue.mk 81 p ReflectliteValue.flagAddr).run Tryz.prog w=.ok (.agg #[.pointer (some ⟨7,81,none⟩),.pointer (some p),.int .u64 406]) w:=by kernel_rfl
theorem NT (a p:Addr)(W:World)(ha:W.cell? a=some (.pointer (some p))):
 (ReflectliteValue.method (ReflectliteValue.valueError "reflectlite.Value.Elem" 0) ReflectliteValue.elem #[.agg #[.pointer (some ⟨7,83,none⟩),.pointer (some a),.int .u64 150]]).run Tryz.prog W
  =.ok (.agg #[.pointer (some ⟨7,81,none⟩),.pointer (some p),.int .u64 406]) W:=by
 rw[rlm];simp only[Sem.run_bind,EL,Result.andThen];simp[ReflectliteValue.elem,loadVar,isAgg,underlying,Tryz.underlying83,ha,Result.andThen,Lj,Xl]
theorem rls (v x:Value):ReflectliteValue.set #[v,x] =(do
 let(some (dst,a,fl),some (src,b,_)):=(<-ReflectliteValue.parts v,<-ReflectliteValue.parts x)
  |unsupported (.noEntry "extern/(internal/reflectlite.Value).Set.zeroValue")
 if fl/ReflectliteValue.flagAddr % 2==0 then unsupported (.noEntry "extern/(internal/reflectlite.Value).Set.unaddressable")
 let val<-loadVar src b
 if<-Rtype.directlyAssignable dst src then storeVar dst a val
 else if<-Rtype.implements dst src then
  if(<-Rtype.kind src)==20 then
   match val with
   | .nilIface=>unsupported (.noEntry "extern/reflectlite: a nil value of one interface type handed on as a value of another")
   |_=>storeVar dst a val
  else storeVar dst a (.iface src val)
 else panicString ("reflectlite.Set: value of type " ++(<-Rtype.spelt src)++ " is not assignable to type " ++(<-Rtype.spelt dst))
 pure (.tuple #[])):=rfl
theorem Ll (a:Addr)(w:World):(ReflectliteValue.parts (.agg #[.pointer (some ⟨7,81,none⟩),.pointer (some a),.int .u64 406])).run Tryz.prog w=.ok (some (81,a,406)) w:=by kernel_rfl
theorem NU (a:Addr)(w:World):(ReflectliteValue.parts (.agg #[.pointer (some ⟨7,81,none⟩),.pointer (some a),.int .u64 150])).run Tryz.prog w=.ok (some (81,a,150)) w:=by kernel_rfl
theorem Lm (w:World):(Rtype.directlyAssignable 81 81).run Tryz.prog w=.ok true w:=by kernel_rfl
theorem U5 (ta b e:Addr)(old:Value)(W:World)(hb:W.cell? b=some (.pointer (some e)))(ht:W.cell? ta=some old)(hf:W.frozen? ta=false):
 (ReflectliteValue.set #[.agg #[.pointer (some ⟨7,81,none⟩),.pointer (some ta),.int .u64 406],.agg #[.pointer (some ⟨7,81,none⟩),.pointer (some b),.int .u64 150]]).run Tryz.prog W
  =.ok (.tuple #[]) (W.setCell ta (.pointer (some e))):=by
 rw[rls];simp only[Sem.run_bind,Ll,NU,Result.andThen];simp[ReflectliteValue.flagAddr,loadVar,isAgg,underlying,Tryz.underlying81,hb,Result.andThen,Lm,storeVar,Value.cells,storeCells,Addr.add];rw[run_store Tryz.prog W ta _ _ (by rfl)]
 simp[ht,hf]
theorem ZI (e t:Addr)(old:Value)(w:World)(hg:w.cell? ⟨0,0,none⟩=some (.iface 161 (.agg #[.pointer (some ⟨7,37,none⟩)])))(ht0:w.cell? t=some old)(hf0:w.frozen? t=false):
 Calls Tryz.prog 44 #[.iface 81 (.pointer (some e)),.iface 83 (.pointer (some t))] w fun ev w'=>ev=.returned (.bool true)/\w'=((((w.alloc (.cells #[.pointer (some t)] 83)).alloc (.cells #[.pointer (some ⟨7,83,none⟩),.pointer (some ⟨w.heap.size,0,none⟩),.int .u64 150] 122)).alloc (.cells #[.pointer (some ⟨7,83,none⟩),.pointer (some ⟨w.heap.size,0,none⟩),.int .u64 150] 122)).alloc (.cells #[.pointer (some e)] 81)).setCell t (.pointer (some e)):=by
 have h6:= @run_callFunc_extern Tryz.prog 83 _ (fun args=>ReflectliteValue.unpack (args.getD 0 (.tuple #[]))) Tryz.func83 (by kernel_rfl) (by kernel_rfl) (by kernel_rfl) (by kernel_rfl)
 have h7:= @run_callFunc_extern Tryz.prog 84 _ (ReflectliteValue.methodAny (ReflectliteValue.valueError "reflectlite.Value.Type" 0) (fun t _ _ _=>ReflectliteType.toType t)) Tryz.func84 (by kernel_rfl) (by kernel_rfl) (by kernel_rfl) (by kernel_rfl)
 have h8:= @run_callFunc_extern Tryz.prog 85 _ (ReflectliteValue.method (ReflectliteValue.valueError "reflectlite.Value.IsNil" 0) ReflectliteValue.isNil) Tryz.func85 (by kernel_rfl) (by kernel_rfl) (by kernel_rfl) (by kernel_rfl)
 have h27:= @run_callFunc_extern Tryz.prog 222 _ (ReflectliteType.abiMethod fun t=>do pure (.int .u8 (<-Rtype.kind t))) Tryz.func222 (by kernel_rfl) (by kernel_rfl) (by kernel_rfl) (by kernel_rfl)
 have h37:= @run_callFunc_extern Tryz.prog 234 _ (ReflectliteType.method ReflectliteType.elem) Tryz.func234 (by kernel_rfl) (by kernel_rfl) (by kernel_rfl) (by kernel_rfl)
 have h38:= @run_callFunc_extern Tryz.prog 235 _ (ReflectliteType.relation "Implements" ReflectliteType.implements_) Tryz.func235 (by kernel_rfl) (by kernel_rfl) (by kernel_rfl) (by kernel_rfl)
 have h10:= @run_callFunc_extern Tryz.prog 133 _ ReflectliteType.typeOf Tryz.func133 (by kernel_rfl) (by kernel_rfl) (by kernel_rfl) (by kernel_rfl)
 have h35:= @run_callFunc_extern Tryz.prog 232 _ (ReflectliteType.relation "AssignableTo" ReflectliteType.assignableTo) Tryz.func232 (by kernel_rfl) (by kernel_rfl) (by kernel_rfl) (by kernel_rfl)
 have h11:= @run_callFunc_extern Tryz.prog 134 _ (ReflectliteValue.method (ReflectliteValue.valueError "reflectlite.Value.Elem" 0) ReflectliteValue.elem) Tryz.func134 (by kernel_rfl) (by kernel_rfl) (by kernel_rfl) (by kernel_rfl)
 have h12:= @run_callFunc_extern Tryz.prog 135 _ ReflectliteValue.set Tryz.func135 (by kernel_rfl) (by kernel_rfl) (by kernel_rfl) (by kernel_rfl)
 have tO:=Li;have mA:=tN;have a25:=BZ;have v25:=Js;have f6:=Jr;have f7:=Rq;have mK:=FN;have mE:=FP;have mI:=wE;have k27:=Rs;have k25:=Rt;have e27:=Ru;have i25:=BX;have n8:=NS ⟨w.heap.size,0,none⟩ t ((w.alloc (.cells #[.pointer (some t)] 83)).alloc (.cells #[.pointer (some ⟨7,83,none⟩),.pointer (some ⟨w.heap.size,0,none⟩),.int .u64 150] 122)) (by simp)
 have hlt:0<w.heap.size:=by
  rcases Nat.eq_zero_or_pos w.heap.size with h0|h
  .simp[World.cell?,h0] at hg
  .exact h
 have hg2:((w.alloc (.cells #[.pointer (some t)] 83)).alloc (.cells #[.pointer (some ⟨7,83,none⟩),.pointer (some ⟨w.heap.size,0,none⟩),.int .u64 150] 122)).cell? ⟨0,0,none⟩=some (.iface 161 (.agg #[.pointer (some ⟨7,37,none⟩)])):=by
  rw[World.cell?_alloc_lt _ _ ⟨0,0,none⟩ (by simp),World.cell?_alloc_lt _ _ ⟨0,0,none⟩ hlt];exact hg
 have htl:t.block<w.heap.size:=by
  rcases Nat.lt_or_ge t.block w.heap.size with h|h
  .exact h
  .simp[World.cell?,Array.getElem?_eq_none h] at ht0
 have el:=NT ⟨w.heap.size,0,none⟩ t (((w.alloc (.cells #[.pointer (some t)] 83)).alloc (.cells #[.pointer (some ⟨7,83,none⟩),.pointer (some ⟨w.heap.size,0,none⟩),.int .u64 150] 122)).alloc (.cells #[.pointer (some ⟨7,83,none⟩),.pointer (some ⟨w.heap.size,0,none⟩),.int .u64 150] 122)) (by rw[World.cell?_alloc_lt _ _ ⟨w.heap.size,0,none⟩ (by simp;omega)];simp)
 have st:=U5 t ⟨w.heap.size+1+1+1,0,none⟩ e old ((((w.alloc (.cells #[.pointer (some t)] 83)).alloc (.cells #[.pointer (some ⟨7,83,none⟩),.pointer (some ⟨w.heap.size,0,none⟩),.int .u64 150] 122)).alloc (.cells #[.pointer (some ⟨7,83,none⟩),.pointer (some ⟨w.heap.size,0,none⟩),.int .u64 150] 122)).alloc (.cells #[.pointer (some e)] 81))
  (by rw[World.cell?_alloc_at _ _ _ _ (by simp)];rfl)
  (by rw[World.cell?_alloc_lt _ _ t (by simp;omega),World.cell?_alloc_lt _ _ t (by simp;omega),World.cell?_alloc_lt _ _ t (by simp;omega),World.cell?_alloc_lt _ _ t htl];exact ht0)
  (by rw[World.frozen?_alloc_old _ _ t (by simp;omega),World.frozen?_alloc_old _ _ t (by simp;omega),World.frozen?_alloc_old _ _ t (by simp;omega),World.frozen?_alloc_old _ _ t (Nat.ne_of_lt htl)];exact hf0)
 go_enter Tryz.func44,Tryz.ntmps44;go_wp2
 refine wp_loop_rounds 1 ?_;rw[rounds_succ];go_wp2
 go_ret;exact⟨rfl,rfl⟩
open Go.RowKit
def o8 (l:List UInt8)(c:UInt8):List UInt8:=if 0<=Lib.indexByte l c then l.take (Lib.indexByte l c).toNat else l
def qU (l:List UInt8)(c:UInt8):List UInt8:=if 0<=Lib.indexByte l c then l.drop ((Lib.indexByte l c).toNat+1) else []
theorem Lp (l:List UInt8)(c:UInt8)(w:World)(hl:l.length<=140737488355328):
 Calls Tryz.prog 64 #[.string ⟨⟨l⟩⟩,.string ⟨#[c]⟩] w fun e w'=>e=.returned (.tuple #[dw (o8 l c),dw (qU l c),.bool (decide (0<=Lib.indexByte l c))])/\Below w.heap.size w w':=by
 have hi:=(@rF c l).2;have HI:Hid (∀w,Calls Tryz.prog 99 #[.string ⟨⟨l⟩⟩,.string ⟨#[c]⟩] w fun e w'=>e=.returned (.int .i64 (Lib.indexByte l c))/\w'=w):=ah (fun w=>wX ⟨⟨l⟩⟩ c w)
 unfold o8 qU;obtain⟨s,hs⟩: ∃s:ByteArray,s=⟨⟨l⟩⟩:=⟨_,rfl⟩;have hsz:s.size=l.length:=by rw[hs];rfl
 rw[<-hs] at HI ⊢;by_cases hn:0<=Lib.indexByte l c
 .obtain⟨hlt,-⟩:=hi hn;rw[if_pos hn,if_pos hn,decide_eq_true hn];obtain⟨k,hk⟩: ∃k:Nat,Lib.indexByte l c=k:=⟨_,(Int.toNat_of_nonneg hn).symm⟩;rw[hk] at HI hlt ⊢;have hkl:k<l.length:=by simpa using hlt
  have HA:Hid (s.extract 0 k=⟨⟨l.take (k:Int).toNat⟩⟩):=by
   show _=_
   rw[hs,rH];simp
  have HB:Hid (s.extract (k+1) l.length=⟨⟨l.drop ((k:Int).toNat+1)⟩⟩):=by
   show _=_
   rw[hs,rH];simp only[Int.toNat_natCast];rw[List.take_of_length_le (by simp)]
  have h1:(k:Int)<=s.size:=by omega
  have h2:(k:Int)+1<=s.size:=by omega
  have hz:decide ((k:Int)<0)=false:=by simp
  have hz2:decide (0<=(k:Int))=true:=by simp
  clear hs hi hk hn hlt;go_enter Tryz.func64,Tryz.ntmps64;go_wp2_with (go_at_call 99;refine(HI.out _).mono ?_;rintro e w2 ⟨rfl,rfl⟩)
  refine aQ ?_;repeat(go_big_quiet_step (fail))
  refine wpQuiet_nil ?_;rintro _ ⟨u,rfl⟩;go_wp2_with fail
  go_ret3
  refine⟨?_,u.2⟩;show Ending.returned (.tuple #[.string (s.extract 0 k),.string (s.extract (k+1) l.length),.bool true])=_
  rw[HA.out,HB.out]
 .rw[if_neg hn,if_neg hn,decide_eq_false hn];show Calls _ _ _ _ fun e w'=>e=.returned (.tuple #[.string ⟨⟨l⟩⟩,dw [],.bool false])/\Below w.heap.size w w'
  rw[<-hs];generalize Lib.indexByte l c=i at*;have hz:decide (i<0)=true:=by simp;omega
  have hz2:decide (0<=i)=false:=by simp;omega
  clear hs hi;go_enter Tryz.func64,Tryz.ntmps64;go_wp2_with (go_at_call 99;refine(HI.out _).mono ?_;rintro e w2 ⟨rfl,rfl⟩)
  go_ret3
  exact⟨rfl,Below.refl _ _⟩
theorem CP (l:List UInt8)(c:UInt8)(w:World)(hl:l.length<=140737488355328):
 Calls Tryz.prog 40 #[.string ⟨⟨l⟩⟩,.string ⟨#[c]⟩] w fun e w'=>e=.returned (.tuple #[dw (o8 l c),dw (qU l c),.bool (decide (0<=Lib.indexByte l c))])/\Below w.heap.size w w':=by
 have HI:=ah (Lp l c w hl);generalize hA:o8 l c=A at*;generalize hB:qU l c=B at*;generalize decide (0<=Lib.indexByte l c)=b at*;go_enter Tryz.func40,Tryz.ntmps40;go_wp2_with (go_at_call 64;refine HI.out.mono ?_;rintro e w2 ⟨rfl,hb⟩)
 go_ret3
 exact⟨rfl,hb⟩
open Go.RowKit Go.BigFrame
structure Laid (w:World):Prop where
 et:w.cell? ⟨0,0,none⟩=some (.iface 161 (.agg #[.pointer (some ⟨7,37,none⟩)]))
 tab:yC w
theorem Laid.below {w w':World}(h:Laid w)(hb:Below w.heap.size w w'):Laid w':=⟨(hb.cell (p:=⟨0,0,none⟩) (block_lt_of_cell h.et)).trans h.et,h.tab.below hb⟩
theorem zo {gs:List Nat}(h:gs.length=5): ∃a b c d e,gs= [a,b,c,d,e] :=by
 match gs,h with
 | [a,b,c,d,e],_=>exact⟨a,b,c,d,e,rfl⟩
theorem zq {gs:List Nat}(h:gs.length=3): ∃a b c,gs= [a,b,c] :=by
 match gs,h with
 | [a,b,c],_=>exact⟨a,b,c,rfl⟩
theorem O4 {w:World}{b:Nat}{L:KV}(h:qE w b L)(u:List UInt8):(Instr.lookup 76 (.map (some b)) (dw u) true).run Tryz.prog w=.ok (.tuple #[(nV L u).getD (.agg #[.int .i64 0,.nilFunc]),.bool (nV L u).isSome]) w:=
 Rk Tryz.underlying76 Tryz.underlying9 h u (Tryz.zeroValue74 w)
def zu (x:List UInt8)(most:Nat)(f:List ay->List UInt8):Prop:= ∀ (l t:List UInt8) (w:World),l.length<=1073741824->o8 l 32=x->qU l 32=t->0<=Lib.indexByte l 32->Lib.indexByte t 32<0->Laid w->
 Calls Tryz.prog 14 #[.string ⟨⟨l⟩⟩] w (nA w (dL most f t))
def aa_ (w2:World)(L:KV)(x:List UInt8)(most:Nat)(f:List ay->List UInt8)(F:Nat):Prop:= ∃cs:Array Value,nV L x=some (.agg #[.int .i64 (most:Int),.func (.func F) #[] cs])/\
 ∀ (W:World) (A:Option Addr) (c:Nat) (s:List ay),Below w2.heap.size w2 W->Laid W->aC W A s.length s->s.length<=c->aF s=true->s.length<=most->Calls Tryz.prog F (#[.slice A s.length c] ++cs) W (nA W (f s))
theorem iU {x:List UInt8}{most F:Nat}{f:List ay->List UInt8}(ab9:most<=16)(hrun:Runs F)(Z7: ∀ (w w2:World) (b:Nat) (gs hs:List Nat),gs.length=5->hs.length=3->Ld w b (eD++List.zipWith dK bT gs++List.zipWith iL eU hs) (gs.zip bT++hs.zip eU) w2->aa_ w2 (eD++List.zipWith dK bT gs++List.zipWith iL eU hs) x most f F):zu x most f:=by
 intro l t w hl ha hb hsp hco hL;obtain⟨X,hX⟩: ∃X:ByteArray,(⟨⟨x⟩⟩:ByteArray)=X:=⟨_,rfl⟩;have RI:=ah hX;have ht:t.length<=1073741824:=by
  have h:(qU l 32).length<=l.length:=by unfold qU;split<;>simp
  rw[hb] at h;omega
 have Kr:Hid (Calls Tryz.prog 40 #[.string ⟨⟨l⟩⟩,.string ⟨#[32]⟩] w fun e w'=>e=.returned (.tuple #[.string X,.string ⟨⟨t⟩⟩,.bool true])/\Below w.heap.size w w'):=by
  have h:=CP l 32 w (by omega)
  rw[ha,hb,decide_eq_true hsp] at h;unfold dw at h;rw[hX] at h;exact h
 have HCO:Hid (∀w,Calls Tryz.prog 42 #[.string ⟨⟨t⟩⟩,.string ⟨#[32]⟩] w fun e w'=>e=.returned (.bool false)/\w'=w):=ah (fun w=>by
  have h:=zm ⟨⟨t⟩⟩ 32 w;rw[show decide (0<=Lib.indexByte (⟨⟨t⟩⟩:ByteArray).data.toList 32)=false from decide_eq_false (by show ¬ 0<=Lib.indexByte t 32;omega)] at h
  exact h)
 have RV:Hid (∀w,Calls Tryz.prog 43 #[.string ⟨⟨t⟩⟩,.int .i64 (most:Int)] w (O3 w most (aX t))):=ah (fun w=>EK t most w ht ab9)
 have HGT:Hid (aF (aX t)=true->(aX t).length<=most->dL most f t=f (aX t)):=ah (fun h h2=>oF h h2)
 have HGF:Hid (¬(aF (aX t)=true/\(aX t).length<=most)->dL most f t=xA):=ah (fun h=>by
  cases hv:aF (aX t)
  .exact gH hv
  .exact pJ (fun h2=>h ⟨hv,h2⟩))
 generalize dL most f t=R at*;generalize hT:(⟨⟨t⟩⟩:ByteArray)=T at*;generalize hxs:aX t=xs at*;clear hT hxs ht ha hb hsp hco hl hX;unfold Runs at hrun;have HL:=ah hL;clear hL;go_enter Tryz.func14,Tryz.ntmps14;go_wp2_with fail
 refine Kr.out.mono ?_;rintro e w1 ⟨rfl,hb1⟩;go_wp2_with fail
 refine(mR w1).mono ?_;rintro e w2 ⟨b,gs,hs,rfl,hg5,hh3,hq⟩;obtain⟨cs,hgq,htl⟩:=Z7 _ _ _ _ _ hg5 hh3 hq;have HTQ:=ah htl;have hlk:(Instr.lookup 76 (.map (some b)) (.string X) true).run Tryz.prog w2=.ok (.tuple #[.agg #[.int .i64 (most:Int),.func (.func F) #[] cs],.bool true]) w2:=by
  have h:=O4 hq.map x;rw[hgq] at h;unfold dw at h;rw[RI.out] at h;exact h
 have HB2:=ah (hb1.trans (hq.Bw.mono hb1.size));clear hq hg5 hh3 hb1 hgq htl Z7;obtain⟨W,hW⟩: ∃W:World,w2.alloc (.cells #[.int .i64 (most:Int),.func (.func F) #[] cs] 74)=W:=⟨_,rfl⟩;have x0:W.cell? ⟨w2.heap.size,0,none⟩=some (.int .i64 (most:Int)):=by rw[<-hW];exact aV _ _ _ _ _ rfl
 have X1:Hid (W.cell? ⟨w2.heap.size,1,none⟩=some (.func (.func F) #[] cs)):=by show _=_;rw[<-hW];exact aV _ _ _ _ _ rfl
 have nD:Hid (Below w2.heap.size w2 W):=by rw[<-hW];exact aG.alloc aj _
 have Bh:Hid (w2.heap.size<W.heap.size):=ah (by rw[<-hW];simp)
 go_wp2_with fail
 refine(HCO.out W).mono ?_;rintro e w3 ⟨rfl,rfl⟩;have HY1:=ah (And.intro x0 X1.out);go_wp2_with fail
 refine(RV.out w3).mono ?_;rintro e w4 ⟨hb4,hcase⟩;have tT:=ah ((HB2.out.trans (nD.out.mono HB2.out.size)).trans (hb4.mono (HB2.out.trans (nD.out.mono HB2.out.size)).size));have HL4:=ah (HL.out.below tT.out);have Y1:=ah ((hb4.cell (p:=⟨w2.heap.size,1,none⟩) Bh.out).trans HY1.out.2);obtain⟨W6,hW6⟩: ∃W6:World,w4.alloc (.cells #[.pointer none] 81)=W6:=⟨_,rfl⟩;have hb6:Below w4.heap.size w4 W6:=by rw[<-hW6];exact aG.alloc aj _
 have Fp:=ah (tT.out.trans (hb6.mono tT.out.size));have HL6:=ah (HL4.out.below hb6);have P0:Hid (W6.cell? ⟨w4.heap.size,0,none⟩=some (.pointer none)/\W6.frozen? ⟨w4.heap.size,0,none⟩=false):=by
  show _/\_
  rw[<-hW6];exact⟨aV _ _ _ _ _ rfl,World.frozen?_alloc_new _ _ _ _⟩
 rcases hcase with⟨⟨hvv,h12⟩,A5,n5,c5,rfl,rfl,ab_,hx5⟩|⟨hno,g,rfl⟩
 .have hRR:=HGT.out hvv h12;have hbt:Below w2.heap.size w2 W6:=nD.out.trans ((hb4.trans (hb6.mono hb4.size)).mono nD.out.size);have hx6:aC W6 A5 xs.length xs:=hx5.below hb6 aj;have HTL:=ah (HTQ.out W6 A5 c5 xs hbt HL6.out hx6 ab_ hvv h12);have z1:=(hb6.cell (p:=⟨w2.heap.size,1,none⟩) (Nat.lt_of_lt_of_le Bh.out hb4.size)).trans Y1.out;clear x0 hx5 hb4 hb6 hbt;go_wp2_with fail
  refine(ZH _ _).mono ?_;rintro e w7 ⟨rfl,rfl⟩;go_wp2_with fail
  refine HTL.out.mono ?_;rintro e w8 ⟨rfl,hb8⟩;go_wp2_with fail
  go_ret;exact⟨by rw[hRR];rfl,Fp.out.trans (hb8.mono Fp.out.size)⟩
 .have hRR:=HGF.out hno;clear hb4 hb6;go_wp2_with fail
  refine(ZI g ⟨w4.heap.size,0,none⟩ (.pointer none) W6 HL6.out.et P0.out.1 P0.out.2).mono ?_;rintro e w7 ⟨rfl,hw7⟩;have EP:Below w.heap.size w w7:=by
   rw[hw7];have a1:=Fp.out.alloc Fp.out.size (.cells #[.pointer (some ⟨w4.heap.size,0,none⟩)] 83);have a2:=a1.alloc a1.size (.cells #[.pointer (some ⟨7,83,none⟩),.pointer (some ⟨W6.heap.size,0,none⟩),.int .u64 150] 122);have a3:=a2.alloc a2.size (.cells #[.pointer (some ⟨7,83,none⟩),.pointer (some ⟨W6.heap.size,0,none⟩),.int .u64 150] 122);have a4:=a3.alloc a3.size (.cells #[.pointer (some g)] 81);exact a4.setCell (p:=⟨w4.heap.size,0,none⟩) (by have:=tT.out.size;simp;omega) _
  clear hw7;go_wp2_with fail
  go_ret;exact⟨by rw[hRR];rfl,EP⟩
theorem Lr:zu ([115,101,114,105,97,108] :List UInt8) 16 (fun s=>rR (jk s)):=
 iU (F:=65) (by omega) (dG Tryz.func65 (by kernel_rfl) rfl) fun w w2 b gs hs hg hh hq=>by
  obtain⟨g0,g1,g2,g3,g4,rfl⟩:=zo hg;obtain⟨h0,h1,h2,rfl⟩:=zq hh;exact⟨#[],rfl,fun W A c s hb hL hx hc hv h12=>Le A _ c _ _ hx hc hv⟩
theorem NV:zu ([111,114,100,101,114] :List UInt8) 16 (fun s=>Ie (jY s)):=
 iU (F:=67) (by omega) (dG Tryz.func67 (by kernel_rfl) rfl) fun w w2 b gs hs hg hh hq=>by
  obtain⟨g0,g1,g2,g3,g4,rfl⟩:=zo hg;obtain⟨h0,h1,h2,rfl⟩:=zq hh;exact⟨#[],rfl,fun W A c s hb hL hx hc hv h12=>NN A _ c _ _ hx hc hv⟩
theorem NW:zu ([99,121,99,108,101] :List UInt8) 16 (fun s=>fO (pq s)):=
 iU (F:=70) (by omega) (dG Tryz.func70 (by kernel_rfl) rfl) fun w w2 b gs hs hg hh hq=>by
  obtain⟨g0,g1,g2,g3,g4,rfl⟩:=zo hg;obtain⟨h0,h1,h2,rfl⟩:=zq hh;exact⟨#[],rfl,fun W A c s hb hL hx hc hv h12=>NM A _ c _ _ hx hc hv⟩
theorem FQ:zu ([115,110,97,112,115,104,111,116] :List UInt8) 16 (fun s=>fO (lT s)):=
 iU (F:=72) (by omega) (dG Tryz.func72 (by kernel_rfl) rfl) fun w w2 b gs hs hg hh hq=>by
  obtain⟨g0,g1,g2,g3,g4,rfl⟩:=zo hg;obtain⟨h0,h1,h2,rfl⟩:=zq hh;exact⟨#[],rfl,fun W A c s hb hL hx hc hv h12=>FL A _ c _ _ hx hc hv⟩
theorem AJ:zu ([114,101,99,111,118,101,114,97,98,108,101] :List UInt8) 16 (fun s=>Lib.itoa (aY (wB s) s.length)):=
 iU (F:=75) (by omega) (dG Tryz.func75 (by kernel_rfl) rfl) fun w w2 b gs hs hg hh hq=>by
  obtain⟨g0,g1,g2,g3,g4,rfl⟩:=zo hg;obtain⟨h0,h1,h2,rfl⟩:=zq hh;have hb0:=(hq.box (g0,([114,101,99,111,118,101,114,97,98,108,101] :List UInt8)) (by simp[bT,eU])).1
  exact⟨#[.pointer (some ⟨g0,0,none⟩)],rfl,fun W A c s hb hL hx hc hv h12=>qR (B:=y8) (B':=wB) (fun A n c s w hx hc=>I7 A n c s w hx hc) A _ c g0 _ _ hx hc hv (funext fun i=>(WW hv i).symm) (by have hbx:FM W g0 ([114,101,99,111,118,101,114,97,98,108,101] :List UInt8):=(hb.cell (p:=⟨g0,0,none⟩) (block_lt_of_cell hb0)).trans hb0;exact hbx) hL.tab⟩
theorem FR:zu ([99,97,115,99,97,100,101,115] :List UInt8) 16 (fun s=>Lib.itoa (aY (wC s) s.length)):=
 iU (F:=75) (by omega) (dG Tryz.func75 (by kernel_rfl) rfl) fun w w2 b gs hs hg hh hq=>by
  obtain⟨g0,g1,g2,g3,g4,rfl⟩:=zo hg;obtain⟨h0,h1,h2,rfl⟩:=zq hh;have hb0:=(hq.box (g1,([99,97,115,99,97,100,101,115] :List UInt8)) (by simp[bT,eU])).1
  exact⟨#[.pointer (some ⟨g1,0,none⟩)],rfl,fun W A c s hb hL hx hc hv h12=>qR (B:=Aq) (B':=wC) (fun A n c s w hx hc=>I8 A n c s w hx hc) A _ c g1 _ _ hx hc hv (funext fun i=>(WX hv i).symm) (by have hbx:FM W g1 ([99,97,115,99,97,100,101,115] :List UInt8):=(hb.cell (p:=⟨g1,0,none⟩) (block_lt_of_cell hb0)).trans hb0;exact hbx) hL.tab⟩
theorem Ls:zu ([115,116,114,105,99,116] :List UInt8) 16 (fun s=>Lib.itoa (aY (kU false s) s.length)):=
 iU (F:=75) (by omega) (dG Tryz.func75 (by kernel_rfl) rfl) fun w w2 b gs hs hg hh hq=>by
  obtain⟨g0,g1,g2,g3,g4,rfl⟩:=zo hg;obtain⟨h0,h1,h2,rfl⟩:=zq hh;have hb0:=(hq.box (g2,([115,116,114,105,99,116] :List UInt8)) (by simp[bT,eU])).1
  exact⟨#[.pointer (some ⟨g2,0,none⟩)],rfl,fun W A c s hb hL hx hc hv h12=>qR (B:=uR sP) (B':=kU false) (fun A n c s w hx hc=>BS A n c s w hx hc) A _ c g2 _ _ hx hc hv (funext fun i=>(OV hv false i).symm) (by have hbx:FM W g2 ([115,116,114,105,99,116] :List UInt8):=(hb.cell (p:=⟨g2,0,none⟩) (block_lt_of_cell hb0)).trans hb0;exact hbx) hL.tab⟩
theorem FT:zu ([114,105,103,111,114,111,117,115] :List UInt8) 16 (fun s=>Lib.itoa (aY (kU true s) s.length)):=
 iU (F:=75) (by omega) (dG Tryz.func75 (by kernel_rfl) rfl) fun w w2 b gs hs hg hh hq=>by
  obtain⟨g0,g1,g2,g3,g4,rfl⟩:=zo hg;obtain⟨h0,h1,h2,rfl⟩:=zq hh;have hb0:=(hq.box (g3,([114,105,103,111,114,111,117,115] :List UInt8)) (by simp[bT,eU])).1
  exact⟨#[.pointer (some ⟨g3,0,none⟩)],rfl,fun W A c s hb hL hx hc hv h12=>qR (B:=lN bU) (B':=kU true) (fun A n c s w hx hc=>Eu A n c s w hx hc) A _ c g3 _ _ hx hc hv (funext fun i=>(OV hv true i).symm) (by have hbx:FM W g3 ([114,105,103,111,114,111,117,115] :List UInt8):=(hb.cell (p:=⟨g3,0,none⟩) (block_lt_of_cell hb0)).trans hb0;exact hbx) hL.tab⟩
theorem Jt:zu ([99,111,109,109,105,116,115] :List UInt8) 16 (fun s=>Lib.itoa (aY (wD s) s.length)):=
 iU (F:=75) (by omega) (dG Tryz.func75 (by kernel_rfl) rfl) fun w w2 b gs hs hg hh hq=>by
  obtain⟨g0,g1,g2,g3,g4,rfl⟩:=zo hg;obtain⟨h0,h1,h2,rfl⟩:=zq hh;have hb0:=(hq.box (g4,([99,111,109,109,105,116,115] :List UInt8)) (by simp[bT,eU])).1
  exact⟨#[.pointer (some ⟨g4,0,none⟩)],rfl,fun W A c s hb hL hx hc hv h12=>qR (B:=nM) (B':=wD) (fun A n c s w hx hc=>Am A n c s w hx hc) A _ c g4 _ _ hx hc hv (funext fun i=>(WY hv i).symm) (by have hbx:FM W g4 ([99,111,109,109,105,116,115] :List UInt8):=(hb.cell (p:=⟨g4,0,none⟩) (block_lt_of_cell hb0)).trans hb0;exact hbx) hL.tab⟩
theorem Rv:zu ([119,97,105,116] :List UInt8) 12 (fun s=>bX (dO dQ.wait s).done):=
 iU (F:=78) (by omega) (dG Tryz.func78 (by kernel_rfl) rfl) fun w w2 b gs hs hg hh hq=>by
  obtain⟨g0,g1,g2,g3,g4,rfl⟩:=zo hg;obtain⟨h0,h1,h2,rfl⟩:=zq hh;have hb0:=(hq.box (h0,([119,97,105,116] :List UInt8)) (by simp[bT,eU])).1
  exact⟨#[.pointer (some ⟨h0,0,none⟩)],rfl,fun W A c s hb hL hx hc hv h12=>AA (r:=dQ.wait) rfl A _ c h0 _ _ hx hc hv h12 (by have hbx:FM W h0 ([119,97,105,116] :List UInt8):=(hb.cell (p:=⟨h0,0,none⟩) (block_lt_of_cell hb0)).trans hb0;exact hbx)⟩
theorem U6:zu ([100,105,101] :List UInt8) 12 (fun s=>bX (dO dQ.die s).done):=
 iU (F:=78) (by omega) (dG Tryz.func78 (by kernel_rfl) rfl) fun w w2 b gs hs hg hh hq=>by
  obtain⟨g0,g1,g2,g3,g4,rfl⟩:=zo hg;obtain⟨h0,h1,h2,rfl⟩:=zq hh;have hb0:=(hq.box (h1,([100,105,101] :List UInt8)) (by simp[bT,eU])).1
  exact⟨#[.pointer (some ⟨h1,0,none⟩)],rfl,fun W A c s hb hL hx hc hv h12=>AA (r:=dQ.die) rfl A _ c h1 _ _ hx hc hv h12 (by have hbx:FM W h1 ([100,105,101] :List UInt8):=(hb.cell (p:=⟨h1,0,none⟩) (block_lt_of_cell hb0)).trans hb0;exact hbx)⟩
theorem NY:zu ([119,111,117,110,100] :List UInt8) 12 (fun s=>bX (dO dQ.bA s).done):=
 iU (F:=78) (by omega) (dG Tryz.func78 (by kernel_rfl) rfl) fun w w2 b gs hs hg hh hq=>by
  obtain⟨g0,g1,g2,g3,g4,rfl⟩:=zo hg;obtain⟨h0,h1,h2,rfl⟩:=zq hh;have hb0:=(hq.box (h2,([119,111,117,110,100] :List UInt8)) (by simp[bT,eU])).1
  exact⟨#[.pointer (some ⟨h2,0,none⟩)],rfl,fun W A c s hb hL hx hc hv h12=>AA (r:=dQ.bA) rfl A _ c h2 _ _ hx hc hv h12 (by have hbx:FM W h2 ([119,111,117,110,100] :List UInt8):=(hb.cell (p:=⟨h2,0,none⟩) (block_lt_of_cell hb0)).trans hb0;exact hbx)⟩
theorem abb:Tryz.prog.globalNamed "errors.errorType" =some 0:=by kernel_rfl
theorem abd:(Tryz.prog.cutTypes.find? (·.1== "internal/reflectlite.rtype")).map (·.2)=some 161:=by kernel_rfl
theorem Xm:Tryz.prog.types.size=264:=by kernel_rfl
theorem ZJ:((List.range 264).filter fun t=>Tryz.prog.rowNamed t [101,114,114,111,114])= [37] :=by kernel_rfl
theorem Xn {W:World}{l:List (String×DataW Unit)}(h5:handlesMet Tryz.prog l W)(hm:("errors.errorType",Rows.laid_errors_errorType)∈l):W.cell? ⟨0,0,none⟩=some (.iface 161 (.agg #[.pointer (some ⟨7,37,none⟩)])):=by
 obtain⟨name,u,ty,e1,e2,e3,e4,e5⟩:=h5 _ hm;have en:name= [101,114,114,111,114] :=(Option.some.inj e1).symm;subst en;obtain rfl:=Option.some.inj (abd.symm.trans e2);have hmm:ty∈(List.range 264).filter fun t=>Tryz.prog.rowNamed t [101,114,114,111,114] :=List.mem_filter.2 ⟨List.mem_range.2 (by rw[<-Xm];exact e3),e4⟩
 rw[ZJ] at hmm;obtain rfl:=List.mem_singleton.1 hmm;have hh:typeHandle Tryz.prog 37=.pointer (some ⟨7,37,none⟩):=by kernel_rfl
 rw[hh] at e5;simpa using World.var?_cell abb e5 0
theorem abe:Tryz.prog.globalNamed "internal/strconv.uint64pow10" =some 2:=by kernel_rfl
theorem abf:(Tryz.prog.globals[2]?).map (·.type)=some 225:=by kernel_rfl
theorem Lu {W:World}(h:laidMetH Tryz.prog [("math/bits.deBruijn32tab",Rows.laid_math_bits_deBruijn32tab),("math/bits.deBruijn64tab",Rows.laid_math_bits_deBruijn64tab),("internal/strconv.uint64pow10",Rows.laid_internal_strconv_uint64pow10),("unicode/utf8.acceptRanges",Rows.laid_unicode_utf8_acceptRanges),("errors.errorType",Rows.laid_errors_errorType),("unicode/utf8.first",Rows.laid_unicode_utf8_first)] W):Laid W:=by
 have h':laidMet Tryz.prog [("math/bits.deBruijn32tab",Rows.laid_math_bits_deBruijn32tab),("math/bits.deBruijn64tab",Rows.laid_math_bits_deBruijn64tab),("internal/strconv.uint64pow10",Rows.laid_internal_strconv_uint64pow10),("unicode/utf8.acceptRanges",Rows.laid_unicode_utf8_acceptRanges),("unicode/utf8.first",Rows.laid_unicode_utf8_first)] W/\handlesMet Tryz.prog [("errors.errorType",Rows.laid_errors_errorType)] W:=h
 refine⟨Xn h'.2 (List.mem_singleton.2 rfl),?_⟩;obtain⟨ps,⟨_,_,_,_,_,_,_,_,_,_,⟨_,_,_,_,_,_,_,_,_,_,⟨g',t',cs,fuel,p,q,hg',ht',hvar,hd,_,_⟩,_⟩,_⟩,_⟩:=h'.1;obtain rfl:=Option.some.inj (abe.symm.trans hg');obtain rfl:=Option.some.inj (abf.symm.trans ht');have hd2:DataW.trod (fun _=>()) Tryz.prog W 0 (fun _=>true) false fuel 225 cs.toList=some (Lib.tabData .u64 Lib.pow10Tab,p):=hd
 unfold yC Lib.TabIs;rw[hvar,<-Lib.cells_of_tab Tryz.underlying225 Tryz.underlying204 (by kernel_rfl) (by kernel_rfl) hd2]
abbrev sV:List (String×DataW Unit):= [("math/bits.deBruijn32tab",Rows.laid_math_bits_deBruijn32tab),("math/bits.deBruijn64tab",Rows.laid_math_bits_deBruijn64tab),("internal/strconv.uint64pow10",Rows.laid_internal_strconv_uint64pow10),("unicode/utf8.acceptRanges",Rows.laid_unicode_utf8_acceptRanges),("unicode/utf8.first",Rows.laid_unicode_utf8_first)]
noncomputable def BA (os:Os):World:=
 let w0:=World.holding Tryz.prog os ⟨#[],#[],[]⟩
 { w0 with heap:=w0.heap.modify 0 fun
  | .cells _ t frozen=>.cells #[.iface 161 (.agg #[.pointer (some ⟨7,37,none⟩)])] t frozen
  |o=>o }
noncomputable def og (os:Os):World:=(BA os).layVars Tryz.prog sV
theorem zw (os:Os):(og os).os=os:=World.layVars_os _ _ _
theorem Rw (os:Os)(args:Array Value):laidMet Tryz.prog sV ((og os).forCall (fun _ _=>0) ⟨#[],args,[]⟩).memory:=by
 have e1:(sV.filter fun x=>(sV.map (·.1)).contains x.1)=sV:=List.filter_eq_self.2 fun x hx=>List.contains_iff_mem.2 (List.mem_map.2 ⟨x,hx,rfl⟩)
 have e2:(sV.filter fun x=> !(sV.map (·.1)).contains x.1)= [] :=List.filter_eq_nil_iff.2 fun x hx=>by rw[List.contains_iff_mem.2 (List.mem_map.2 ⟨x,hx,rfl⟩)];simp
 have h:laidMet Tryz.prog sV (og os):=laidMet_layVars (w0:=BA os) (sV.map (·.1)) [] (by rw[e1];rfl) (by rw[e1];kernel_rfl) (by rw[e1];kernel_rfl) (by rw[e2];exact LaidIn.none)
 exact h.of_heap (by simp[World.memory,World.forCall,Input.heap])
theorem wY (os:Os)(args:Array Value):laidMetH Tryz.prog [("math/bits.deBruijn32tab",Rows.laid_math_bits_deBruijn32tab),("math/bits.deBruijn64tab",Rows.laid_math_bits_deBruijn64tab),("internal/strconv.uint64pow10",Rows.laid_internal_strconv_uint64pow10),("unicode/utf8.acceptRanges",Rows.laid_unicode_utf8_acceptRanges),("errors.errorType",Rows.laid_errors_errorType),("unicode/utf8.first",Rows.laid_unicode_utf8_first)] ((og os).forCall (fun _ _=>0) ⟨#[],args,[]⟩).memory:=
 laidMetH_of_parts (Rw os args) (by kernel_rfl)
end Go.Proofs.YtddkjbibjjehjaaGreatDoor
