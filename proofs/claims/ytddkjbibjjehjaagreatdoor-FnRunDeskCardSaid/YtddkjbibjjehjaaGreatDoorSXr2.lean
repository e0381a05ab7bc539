/-
  Texts that the proof rests on, joined: part 2.
-/
import Derived.Deep.MidRow
import Derived.Test.YtddkjbibjjehjaaGreatDoorSXr1
set_option maxHeartbeats 16000000
set_option maxRecDepth 100000
namespace Go.Proofs.YtddkjbibjjehjaaGreatDoor
open Go.RowKit Go.BigFrame
set_option linter.unusedVariables false
def sW (s:List ay)(t:Int):Bool:=s.all fun o=> !(o.tx==t&&aK o)
def kY (s:List ay)(i:Nat):Bool:=match s[i]? with|some o=>aJ o&&sW (s.take i) o.tx|none=>true
def aF (s:List ay):Bool:=decide (s.length<=16) && (List.range s.length).all (kY s)
theorem LV {o:ay}(h:aK o=true):o.kind=2\/o.kind=3:=by simpa[aK] using h
theorem JB (s:List ay)(t:Int):(dz s t= -1/\sW s t=true)\/((dz s t=2\/dz s t=3)/\sW s t=false):=by
 unfold dz sW;cases h:s.find? (fun o=>o.tx==t&&aK o) with
 |none=>
  refine .inl ⟨rfl,?_⟩;rw[List.find?_eq_none] at h;rw[List.all_eq_true];intro o ho;have:=h o ho;by_cases h1:o.tx=t<;>simp_all
 |some o=>
  have h1:=List.find?_some h;have h2:=List.mem_of_find?_eq_some h;refine .inr ⟨?_,?_⟩
  .simp only[Bool.and_eq_true] at h1;simpa using LV h1.2
  .rw[List.all_eq_false];exact⟨o,h2,by simpa using h1⟩
theorem uY (s:List ay)(t:Int)(k:Nat)(o:ay)(ho:s[k]? =some o)(hno: ∀j,j<k-> ∀o,s[j]? =some o->(o.tx==t&&aK o)=false)(h:(o.tx==t&&aK o)=true):dz s t=o.kind:=by
 have e:s.find? (fun o=>o.tx==t&&aK o)=some o:=by
  rw[List.find?_eq_some_iff_getElem];obtain⟨hk,he⟩:=List.getElem?_eq_some_iff.1 ho;refine⟨h,k,hk,he,fun j hj=>?_⟩
  have:=hno j hj _ (List.getElem?_eq_getElem (by omega))
  rw[this];rfl
 unfold dz;rw[e];rfl
theorem CW (s:List ay)(t:Int)(hno: ∀j,j<s.length-> ∀o,s[j]? =some o->(o.tx==t&&aK o)=false):dz s t= -1:=by
 have e:s.find? (fun o=>o.tx==t&&aK o)=none:=by
  rw[List.find?_eq_none];intro o ho;obtain⟨j,hj⟩:=List.mem_iff_getElem?.1 ho;have hl:j<s.length:=by
   rcases Nat.lt_or_ge j s.length with h|h
   .exact h
   .rw[List.getElem?_eq_none h] at hj;cases hj
  rw[hno j hl o hj];simp
 unfold dz;rw[e];rfl
theorem mh {α:Type}{s:List α}{p:α->Bool}{k:Nat}{o:α}(ho:s[k]? =some o)(hno: ∀j,j<k-> ∀o,s[j]? =some o->p o=false)(h:p o=false):
 ∀j,j<k+1-> ∀o,s[j]? =some o->p o=false:=by
 intro j hj o' ho';by_cases e:j=k
 .subst e;rw[ho] at ho';cases ho';exact h
 .exact hno j (by omega) o' ho'
theorem lW (A:Option Addr)(n c:Nat)(s:List ay)(t:Int)(w:World)(hx:aC w A n s):
 Calls Tryz.prog 124 #[.slice A n c,.int .i64 t] w fun e w'=>e=.returned (.int .i64 (dz s t))/\Below w.heap.size w w':=by
 have hn:=hx.2.1;have hl:=hx.1;have HX:=ah hx;clear hx;go_enter Tryz.func124,Tryz.ntmps124;go_wp2
 go_loopw [9] (fun i wr=> ∃k:Nat,k<=n/\i=.int .i64 k/\Below w.heap.size w wr/\(∀j,j<k-> ∀o,s[j]? =some o->(o.tx==t&&aK o)=false)) (fun i _=>n- (intOf i).toNat)
 case atStart=>exact⟨0,Nat.zero_le _,rfl,Below.refl _ _,by omega⟩
 case round=>
  obtain⟨k,hk,rfl,hb,hno⟩:=hrel;by_cases hlt:k<n
  .obtain⟨b,off,o,rfl,hbl,ho,c0,c1,c2⟩:=(HX.out.below hb aj).at_ hlt;have HT:Hid ((o.tx==t&&aK o)=true->dz s t=o.kind):=fun h=>uY s t k o ho hno h
   have HN:Hid ((o.tx==t&&aK o)=false-> ∀j,j<k+1-> ∀o,s[j]? =some o->(o.tx==t&&aK o)=false):=fun h=>mh ho hno h
   clear hno ho;obtain⟨tx,kd,it⟩:=o;by_cases h1:tx=t
   .subst h1;cases h2:aK ⟨tx,kd,it⟩
    all_goals
     go_wp2_with (go_at_call 161;refine(CV ⟨tx,kd,it⟩ _).mono ?_;rintro e w' ⟨rfl,hb2⟩;obtain⟨bc2,bf2⟩:=Od hb2;have hsz:wr.heap.size<w'.heap.size:=by(have:=hb2.size; (try simp at this);omega))
    .go_roundw
     case rel=>exact⟨k+1,by omega,by go_num,hb.trans ((by(repeat(first|exact Below.refl _ _|assumption|refine aZ ?_ aj _|refine Below.drew ?_|refine bE ?_ _|refine bD (by assumption) ?_|(refine dF ?_ ?_;rotate_left; (first|exact Nat.le_refl _|(simp;done)|(simp at*;omega))))):Below wr.heap.size wr _).mono hb.size),HN.out (by simp[h2])⟩
     case measure=>simp[intOf];omega
    .go_ret;exact⟨gW (HT.out (by simp[h2])).symm,hb.trans ((by(repeat(first|exact Below.refl _ _|assumption|refine aZ ?_ aj _|refine Below.drew ?_|refine bE ?_ _|refine bD (by assumption) ?_|(refine dF ?_ ?_;rotate_left; (first|exact Nat.le_refl _|(simp;done)|(simp at*;omega))))):Below wr.heap.size wr _).mono hb.size)⟩
   .go_wp2_with fail
    go_roundw
    case rel=>exact⟨k+1,by omega,by go_num,hb.trans ((by(repeat(first|exact Below.refl _ _|assumption|refine aZ ?_ aj _|refine Below.drew ?_|refine bE ?_ _|refine bD (by assumption) ?_|(refine dF ?_ ?_;rotate_left; (first|exact Nat.le_refl _|(simp;done)|(simp at*;omega))))):Below wr.heap.size wr _).mono hb.size),HN.out (by simp[h1])⟩
    case measure=>simp[intOf];omega
  .have HE:=ah (CW s t (fun j hj=>hno j (by omega)))
   clear hno;go_wp2_with fail
   go_ret;exact⟨gW HE.out.symm,hb⟩
theorem JC {p:Nat->Bool}{k:Nat}(h: ∀j,j<k->p j=true)(hk:p k=true): ∀j,j<k+1->p j=true:=fun j hj=>by
 by_cases e:j=k
 .subst e;exact hk
 .exact h j (by omega)
theorem rA {s:List ay}{k:Nat}(hk:k<s.length)(h:kY s k=false):aF s=false:=by
 unfold aF;have:(List.range s.length).all (kY s)=false:=by
  rw[List.all_eq_false];exact⟨k,List.mem_range.2 hk,by simp[h]⟩
 rw[this,Bool.and_false]
theorem CX {s:List ay}(h: ∀j,j<s.length->kY s j=true):aF s=decide (s.length<=16):=by
 unfold aF;have:(List.range s.length).all (kY s)=true:=by
  rw[List.all_eq_true];intro j hj;exact h j (List.mem_range.1 hj)
 rw[this,Bool.and_true]
theorem dx (A:Option Addr)(n c:Nat)(s:List ay)(w:World)(hx:aC w A n s)(hnc:n<=c):
 Calls Tryz.prog 102 #[.slice A n c] w fun e w'=>e=.returned (.bool (aF s))/\Below w.heap.size w w':=by
 have hn:=hx.2.1;have hl:=hx.1;have HX:=ah hx;clear hx;go_enter Tryz.func102,Tryz.ntmps102;go_wp2
 go_loopw [7] (fun i wr=> ∃k:Nat,k<=n/\i=.int .i64 k/\Below w.heap.size w wr/\(∀j,j<k->kY s j=true)) (fun i _=>n- (intOf i).toNat)
 case atStart=>exact⟨0,Nat.zero_le _,rfl,Below.refl _ _,by omega⟩
 case round=>
  obtain⟨k,hk,rfl,hb,hno⟩:=hrel;by_cases hlt:k<n
  .have iM:=HX.out.below hb aj;obtain⟨b,off,o,rfl,hbl,ho,c0,c1,c2⟩:=iM.at_ hlt;have LD:=ah iM;have hg:kY s k=(aJ o&&sW (s.take k) o.tx):=by unfold kY;rw[ho]
   have hec:=JB (s.take k) o.tx;obtain⟨ev,he⟩: ∃ev,dz (s.take k) o.tx=ev:=⟨_,rfl⟩;rw[he] at hec;have HE:=ah he;clear he ho iM;cases hv:aJ o
   .have HB:=ah (rA (s:=s) (k:=k) (by omega) (by rw[hg,hv];rfl))
    clear hg hec;obtain⟨tx,kd,it⟩:=o;have hv': ∀W:World,Calls Tryz.prog 145 #[.agg #[.int .i64 tx,.int .i64 kd,.int .i64 it]] W fun e w'=>e=.returned (.bool false)/\Below W.heap.size W w':=fun W=>by
     have:=uX ⟨tx,kd,it⟩ W;rw[hv] at this;exact this
    have HV:=ah hv';clear hv hv';go_wp2_with fail
    obtain⟨W,hW⟩: ∃W:World,W=wr.alloc (.cells #[.int .i64 tx,.int .i64 kd,.int .i64 it] 89):=⟨_,rfl⟩;rw[<-hW];obtain⟨L0,L1,L2,hbW,hWs⟩:=kC hW;clear hW;refine aQ ?_;repeat(go_big_quiet_step ((go_at_call 145;exact aA _ (HV.out _))))
    refine wpQuiet_nil ?_;rintro _ ⟨u,rfl⟩;go_wp2_with fail
    go_ret;exact⟨aI HB.out.symm,Later.trans hb hbW u⟩
   .obtain⟨tx,kd,it⟩:=o;have hv': ∀W:World,Calls Tryz.prog 145 #[.agg #[.int .i64 tx,.int .i64 kd,.int .i64 it]] W fun e w'=>e=.returned (.bool true)/\Below W.heap.size W w':=fun W=>by
     have:=uX ⟨tx,kd,it⟩ W;rw[hv] at this;exact this
    have HV:=ah hv';have hE': ∀ (W:World),aC W (some ⟨b,off,none⟩) k (s.take k)->Calls Tryz.prog 124 #[.slice (some ⟨b,off,none⟩) k c,.int .i64 tx] W fun e w'=>e=.returned (.int .i64 ev)/\Below W.heap.size W w':=fun W h=>by
     have:=lW _ k c _ tx W h;rw[HE.out] at this;exact this
    have HE2:=ah hE';rw[hv,Bool.true_and] at hg;have HG:=ah hg;have HN:=ah hno;clear hv hv' hE' hg hno;have hkc:k<=c:=by omega
    by_cases h0:0<=ev
    .have hq:sW (s.take k) tx=false:=by
      rcases hec with h|h
      .omega
      .exact h.2
     have HQ:=ah hq;clear hq;go_wp2_with fail
     obtain⟨W,hW⟩: ∃W:World,W=wr.alloc (.cells #[.int .i64 tx,.int .i64 kd,.int .i64 it] 89):=⟨_,rfl⟩;rw[<-hW];obtain⟨L0,L1,L2,hbW,hWs⟩:=kC hW;clear hW;refine aQ ?_;repeat(go_big_quiet_step ((first|(go_at_call 145;exact aA _ (HV.out _))|(go_at_call 124;exact aA _ (HE2.out _ (((LD.out.take (by omega)).below hbW aj).later _))))))
     refine wpQuiet_nil ?_;rintro _ ⟨u,rfl⟩;go_wp2_with fail
     go_ret;exact⟨aI (rA (k:=k) (by omega) (by rw[HG.out];exact HQ.out)).symm,Later.trans hb hbW u⟩
    .have hq:sW (s.take k) tx=true:=by
      rcases hec with h|h
      .exact h.2
      .omega
     have HQ:=ah hq;clear hq;go_wp2_with fail
     obtain⟨W,hW⟩: ∃W:World,W=wr.alloc (.cells #[.int .i64 tx,.int .i64 kd,.int .i64 it] 89):=⟨_,rfl⟩;rw[<-hW];obtain⟨L0,L1,L2,hbW,hWs⟩:=kC hW;clear hW;refine aQ ?_;repeat(go_big_quiet_step ((first|(go_at_call 145;exact aA _ (HV.out _))|(go_at_call 124;exact aA _ (HE2.out _ (((LD.out.take (by omega)).below hbW aj).later _))))))
     refine wpQuiet_nil ?_;rintro _ ⟨u,rfl⟩;go_wp2_with fail
     go_roundw
     case rel=>exact⟨k+1,by omega,by go_num,Later.trans hb hbW u,JC HN.out (by rw[HG.out];exact HQ.out)⟩
     case measure=>simp[intOf];omega
  .have HE:=ah (CX (s:=s) (fun j hj=>hno j (by omega)))
   clear hno;go_wp2_with fail
   go_ret;exact⟨aI (by rw[HE.out,hl];exact decide_eq_decide.2 ⟨fun h=>by omega,fun h=>by omega⟩),hb⟩
def Runs (F:FuncId):Prop:= ∀args w,(callFunc F args).run Tryz.prog w=.ok (.enter F args) w
theorem dG {f:FuncId}{fn:Func}{c:Code}(hf:Tryz.prog.funcs[f]? =some fn)(hname:(fn.name== "runtime.NumGoroutine")=false)(hb:fn.body=some c):Runs f:=
 by
 intro args w;have h1:fn.name≠ "runtime.NumGoroutine" :=by simpa using hname
 simp[callFunc,hf,h1,hb]
def rC (w:World)(F:FuncId)(caps:Array Value)(s:List ay)(p:ay->Bool):Prop:=Runs F/\
 ∀ (W:World) (o:ay),Below w.heap.size w W->o∈s->Calls Tryz.prog F (#[o.val] ++caps) W fun e w'=>e=.returned (.bool (p o))/\Below W.heap.size W w'
def Hq (w:World)(F:FuncId)(caps:Array Value)(s:List Int)(p:Int->Bool):Prop:=Runs F/\
 ∀ (W:World) (x:Int),Below w.heap.size w W->x∈s->Calls Tryz.prog F (#[.int .i64 x] ++caps) W fun e w'=>e=.returned (.bool (p x))/\Below W.heap.size W w'
theorem mo {α:Type}{s:List α}{p:α->Bool}(h: ∀j,j<s.length-> ∀o,s[j]? =some o->p o=false):s.any p=false:=by
 rw[List.any_eq_false];intro o ho;obtain⟨j,hj⟩:=List.mem_iff_getElem?.1 ho;have hl:j<s.length:=by
  rcases Nat.lt_or_ge j s.length with h|h
  .exact h
  .rw[List.getElem?_eq_none h] at hj;cases hj
 simp[h j hl o hj]
def Ca {α:Type}(s:List α)(p:α->Bool)(w:World)(e:Ending)(w':World):Prop:=
 Below w.heap.size w w'/\((s.any p=false/\e=.returned (.int .i64 (-1)))\/(s.any p=true/\ ∃k:Nat,k<s.length/\(∃o,s[k]? =some o/\p o=true)/\(∀j,j<k-> ∀o,s[j]? =some o->p o=false)/\e=.returned (.int .i64 k)))
theorem sZ (A:Option Addr)(n c:Nat)(s:List ay)(F:FuncId)(caps:Array Value)(p:ay->Bool)(w:World)(hx:aC w A n s)(hf:rC w F caps s p):
 Calls Tryz.prog 144 #[.slice A n c,.func (.func F) #[] caps] w (Ca s p w):=by
 have hn:=hx.2.1;have hl:=hx.1;have HX:=ah hx;have HF:=ah hf;clear hx hf;go_enter Tryz.func144,Tryz.ntmps144;go_wp2_with fail
 go_loopw [8] (fun i wr=> ∃k:Nat,k<=n/\i=.int .i64 k/\Below w.heap.size w wr/\(∀j,j<k-> ∀o,s[j]? =some o->p o=false)) (fun i _=>n- (intOf i).toNat)
 case atStart=>exact⟨0,Nat.zero_le _,rfl,Below.refl _ _,by omega⟩
 case round=>
  obtain⟨k,hk,rfl,hb,hno⟩:=hrel;by_cases hlt:k<n
  .obtain⟨b,off,o,rfl,hbl,ho,c0,c1,c2⟩:=(HX.out.below hb aj).at_ hlt;have hcl:=HF.out.2 wr o hb (List.mem_of_getElem? ho);have hrun:=HF.out.1;unfold Runs at hrun;unfold ay.val at hcl;have HN:Hid (p o=false-> ∀j,j<k+1-> ∀o,s[j]? =some o->p o=false):=fun h=>mh ho hno h
   have HT:Hid (p o=true-> ∀w',Below w.heap.size w w'->Ca s p w (.returned (.int .i64 k)) w'):=fun h w' hb'=>
    ⟨hb',.inr ⟨List.any_eq_true.2 ⟨o,List.mem_of_getElem? ho,h⟩,k,by omega,⟨o,ho,h⟩,hno,rfl⟩⟩
   have HC:=ah hcl;clear hno ho hcl;cases hp:p o
   .rw[hp] at HC;go_wp2_with fail
    refine(HC.out).mono ?_;rintro e w1 ⟨rfl,hb1⟩;go_wp2_with fail
    go_roundw
    case rel=>exact⟨k+1,by omega,by go_num,hb.trans (hb1.mono hb.size),HN.out hp⟩
    case measure=>simp[intOf];omega
   .rw[hp] at HC;go_wp2_with fail
    refine(HC.out).mono ?_;rintro e w1 ⟨rfl,hb1⟩;go_wp2_with fail
    go_ret;exact HT.out hp _ (hb.trans (hb1.mono hb.size))
  .have HE:=ah (mo (s:=s) (p:=p) (fun j hj=>hno j (by omega)))
   clear hno;go_wp2_with fail
   go_ret;exact⟨hb,.inl ⟨HE.out,rfl⟩⟩
theorem CY (A:Option Addr)(n c:Nat)(s:List Int)(F:FuncId)(caps:Array Value)(p:Int->Bool)(w:World)(hx:aM w A n s)(hf:Hq w F caps s p):
 Calls Tryz.prog 158 #[.slice A n c,.func (.func F) #[] caps] w (Ca s p w):=by
 have hn:=hx.2.1;have hl:=hx.1;have HX:=ah hx;have HF:=ah hf;clear hx hf;go_enter Tryz.func158,Tryz.ntmps158;go_wp2_with fail
 go_loopw [8] (fun i wr=> ∃k:Nat,k<=n/\i=.int .i64 k/\Below w.heap.size w wr/\(∀j,j<k-> ∀o,s[j]? =some o->p o=false)) (fun i _=>n- (intOf i).toNat)
 case atStart=>exact⟨0,Nat.zero_le _,rfl,Below.refl _ _,by omega⟩
 case round=>
  obtain⟨k,hk,rfl,hb,hno⟩:=hrel;by_cases hlt:k<n
  .obtain⟨b,off,o,rfl,hbl,ho,c0⟩:=(HX.out.below hb aj).at_ hlt;have hcl:=HF.out.2 wr o hb (List.mem_of_getElem? ho);have hrun:=HF.out.1;unfold Runs at hrun;skip;have HN:Hid (p o=false-> ∀j,j<k+1-> ∀o,s[j]? =some o->p o=false):=fun h=>mh ho hno h
   have HT:Hid (p o=true-> ∀w',Below w.heap.size w w'->Ca s p w (.returned (.int .i64 k)) w'):=fun h w' hb'=>
    ⟨hb',.inr ⟨List.any_eq_true.2 ⟨o,List.mem_of_getElem? ho,h⟩,k,by omega,⟨o,ho,h⟩,hno,rfl⟩⟩
   have HC:=ah hcl;clear hno ho hcl;cases hp:p o
   .rw[hp] at HC;go_wp2_with fail
    refine(HC.out).mono ?_;rintro e w1 ⟨rfl,hb1⟩;go_wp2_with fail
    go_roundw
    case rel=>exact⟨k+1,by omega,by go_num,hb.trans (hb1.mono hb.size),HN.out hp⟩
    case measure=>simp[intOf];omega
   .rw[hp] at HC;go_wp2_with fail
    refine(HC.out).mono ?_;rintro e w1 ⟨rfl,hb1⟩;go_wp2_with fail
    go_ret;exact HT.out hp _ (hb.trans (hb1.mono hb.size))
  .have HE:=ah (mo (s:=s) (p:=p) (fun j hj=>hno j (by omega)))
   clear hno;go_wp2_with fail
   go_ret;exact⟨hb,.inl ⟨HE.out,rfl⟩⟩
theorem gJ (A:Option Addr)(n c:Nat)(s:List ay)(F:FuncId)(caps:Array Value)(p:ay->Bool)(w:World)(hx:aC w A n s)(hf:rC w F caps s p):
 Calls Tryz.prog 100 #[.slice A n c,.func (.func F) #[] caps] w fun e w'=>e=.returned (.bool (s.any p))/\Below w.heap.size w w':=by
 have HI:=ah (sZ A n c s F caps p w hx hf);clear hx hf;go_enter Tryz.func100,Tryz.ntmps100;go_wp2_with fail
 refine(HI.out).mono ?_;rintro e w1 ⟨hb,⟨ha,rfl⟩|⟨ha,k,hk,_,_,rfl⟩⟩
 .have HA:=ah ha;clear ha;go_wp2_with fail
  go_ret;exact⟨aI HA.out.symm,hb⟩
 .have HA:=ah ha;clear ha;go_wp2_with fail
  go_ret;exact⟨aI HA.out.symm,hb⟩
theorem yg (A:Option Addr)(n c:Nat)(s:List Int)(F:FuncId)(caps:Array Value)(p:Int->Bool)(w:World)(hx:aM w A n s)(hf:Hq w F caps s p):
 Calls Tryz.prog 113 #[.slice A n c,.func (.func F) #[] caps] w fun e w'=>e=.returned (.bool (s.any p))/\Below w.heap.size w w':=by
 have HI:=ah (CY A n c s F caps p w hx hf);clear hx hf;go_enter Tryz.func113,Tryz.ntmps113;go_wp2_with fail
 refine(HI.out).mono ?_;rintro e w1 ⟨hb,⟨ha,rfl⟩|⟨ha,k,hk,_,_,rfl⟩⟩
 .have HA:=ah ha;clear ha;go_wp2_with fail
  go_ret;exact⟨aI HA.out.symm,hb⟩
 .have HA:=ah ha;clear ha;go_wp2_with fail
  go_ret;exact⟨aI HA.out.symm,hb⟩
def bR (w0 w:World)(A:Option Addr)(n:Nat)(xs:List ay):Prop:=
 aC w A n xs/\ ∀ad,A=some ad-> ∃b cur,ad=⟨b,0,none⟩/\w0.heap.size<=b/\w.heap[b]? =some (.cells cur 89 (0,0))/\n*3<=cur.size
def aN (w0 w:World)(A:Option Addr)(n:Nat)(xs:List Int):Prop:=
 aM w A n xs/\ ∀ad,A=some ad-> ∃b cur,ad=⟨b,0,none⟩/\w0.heap.size<=b/\w.heap[b]? =some (.cells cur 3 (0,0))/\n<=cur.size
def kD (w0:World)(xs:List ay)(e:Ending)(w:World):Prop:=
 ∃A c,e=.returned (.slice A xs.length c)/\xs.length<=c/\bR w0 w A xs.length xs/\Below w0.heap.size w0 w
def aT (w0:World)(xs:List Int)(e:Ending)(w:World):Prop:=
 ∃A c,e=.returned (.slice A xs.length c)/\xs.length<=c/\aN w0 w A xs.length xs/\Below w0.heap.size w0 w
theorem bR.none_ {w0 w:World} :bR w0 w none 0 [] :=⟨aC.nil,fun ad h=>by cases h⟩
theorem aN.none_ {w0 w:World} :aN w0 w none 0 [] :=⟨aM.nil,fun ad h=>by cases h⟩
theorem kD.nil {w0 w:World}(h:Below w0.heap.size w0 w):kD w0 [] (.returned (.slice none 0 0)) w:=⟨none,0,rfl,Nat.le_refl _,bR.none_,h⟩
theorem aT.nil {w0 w:World}(h:Below w0.heap.size w0 w):aT w0 [] (.returned (.slice none 0 0)) w:=⟨none,0,rfl,Nat.le_refl _,aN.none_,h⟩
theorem bR.aH {w0 w:World}{base n c:Nat}{A:Option Addr}{xs:List ay}(h:w.ownsRow base 89 3 (.slice A n c) n (aB xs))(hb:w0.heap.size<=base)(hn:n<=1099511627776):bR w0 w A n xs:=by
 refine⟨aC.aH h hn,fun ad had=>?_⟩
 subst had;rcases h.2 with⟨h1,h2⟩|⟨g,cap,cur,h1,h2,h3,h4,h5,h6,h7⟩
 .cases h1
 .injection h1 with ha _ hc;injection ha with ha;subst ha;exact⟨g,cur,rfl,by omega,h3,by rw[h6];omega⟩
theorem aN.aH {w0 w:World}{base n c:Nat}{A:Option Addr}{xs:List Int}(h:w.ownsRow base 3 1 (.slice A n c) n (intCells xs))(hb:w0.heap.size<=base)(hn:n<=1099511627776):aN w0 w A n xs:=by
 refine⟨aM.aH h hn,fun ad had=>?_⟩
 subst had;rcases h.2 with⟨h1,h2⟩|⟨g,cap,cur,h1,h2,h3,h4,h5,h6,h7⟩
 .cases h1
 .injection h1 with ha _ hc;injection ha with ha;subst ha;exact⟨g,cur,rfl,by omega,h3,by rw[h6];omega⟩
theorem kD.mk {w0 w:World}{xs:List ay}{A:Option Addr}{n c:Nat}(hn:xs.length=n)(hc:n<=c)(h:bR w0 w A n xs)(hb:Below w0.heap.size w0 w):kD w0 xs (.returned (.slice A n c)) w:=by
 subst hn;exact⟨A,c,rfl,hc,h,hb⟩
theorem aT.mk {w0 w:World}{xs:List Int}{A:Option Addr}{n c:Nat}(hn:xs.length=n)(hc:n<=c)(h:aN w0 w A n xs)(hb:Below w0.heap.size w0 w):aT w0 xs (.returned (.slice A n c)) w:=by
 subst hn;exact⟨A,c,rfl,hc,h,hb⟩
theorem own_below {w w':World}{base:Nat}{e:TypeId}{size n:Nat}{v:Value}{xs:List Value}(h:w.ownsRow base e size v n xs)(hb:Below w.heap.size w w'):w'.ownsRow base e size v n xs:=
 World.ownsRow.kept h (row:=none) ⟨hb.os,hb.tape,hb.output,hb.size,fun k hk _=>hb.block k hk⟩ (by cases v.ownBlock<;>simp)
theorem Below.own {w0 w w':World}{base:Nat}{e:TypeId}{size n:Nat}{v:Value}{xs:List Value}(h:Below w0.heap.size w0 w)(hown:w.ownsRow base e size v n xs)(hb:w0.heap.size<=base)(hg:w.grownBy w' v.ownBlock):Below w0.heap.size w0 w':=
 h.grown hg h.size fun k hk=>Nat.le_trans hb (World.ownsRow.lt hown k hk).1
theorem g_ {w:World}{base n:Nat}{e:TypeId}{v:Value}{xs:List ay}(h:w.ownsRow base e 3 v n (aB xs)):xs.length=n:=by
 have:=h.1;rw[bQ] at this;omega
theorem gY {w:World}{base n:Nat}{e:TypeId}{v:Value}{xs:List Int}(h:w.ownsRow base e 1 v n (intCells xs)):xs.length=n:=by
 have:=h.1;simp only[intCells,List.length_map] at this;omega
theorem aD {w:World}{base:Nat}{e:TypeId}{size n:Nat}{v:Value}{xs:List Value}(h:w.ownsRow base e size v n xs): ∃A c,v=.slice A n c/\n<=c:=by
 rcases h.2 with⟨h1,h2⟩|⟨g,cap,cur,h1,_,_,h4,_⟩
 .exact⟨none,0,by rw[h1,h2],by omega⟩
 .exact⟨_,_,h1,h4⟩
theorem aR {α:Type}{s:List α}{k:Nat}{o:α}(h:s[k]? =some o):s.take (k+1)=s.take k++ [o] :=by
 rw[List.take_add_one,h];rfl
theorem R3 (A:Option Addr)(n c:Nat)(s:List ay)(F:FuncId)(caps:Array Value)(p:ay->Bool)(w:World)(hx:aC w A n s)(hf:rC w F caps s p):
 Calls Tryz.prog 149 #[.slice A n c,.func (.func F) #[] caps] w (kD w (s.filter p)):=by
 have hn:=hx.2.1;have hl:=hx.1;have HX:=ah hx;have HF:=ah hf;clear hx hf;obtain⟨i0,hi,hz0,hz1,hz2⟩:=info_parts CU;go_enter Tryz.func149,Tryz.ntmps149;go_wp2_with (at_make;refine wpList_make_own _ rfl _ _ 47 rfl w.heap.size 89 i0 _ 3 Tryz.underlying47 hi hz0 hz1 .i64 .i64 _ n rfl rfl rfl (by rw[hz2];omega) (by unfold maxLen;omega) aj ?_;intro w1 hown1 hg1)
 have hb1:Below w.heap.size w w1:=⟨hg1.os,hg1.tape,hg1.output,hg1.size,fun k hk=>hg1.block k hk (by simp)⟩
 have HST:=ah (And.intro hown1 hb1);clear hown1 hb1 hg1 hi hz0 hz1 hz2;go_loopw [5,13] (fun ov i wr=> ∃ (k m:Nat),k<=n/\m<=k/\i=.int .i64 k/\Below w.heap.size w wr/\wr.ownsRow w.heap.size 89 3 ov m (aB ((s.take k).filter p))) (fun _ i _=>n- (intOf i).toNat)
 case atStart=>exact⟨0,0,Nat.zero_le _,Nat.le_refl _,rfl,HST.out.2,by simpa[aB] using HST.out.1⟩
 case round=>
  clear HST;obtain⟨k,m,hk,hmk,rfl,hb,hown⟩:=hrel;by_cases hlt:k<n
  .obtain⟨b,off,o,rfl,hbl,ho,c0,c1,c2⟩:=(HX.out.below hb aj).at_ hlt;have hs:=hb.size;have hcl:=HF.out.2 (wr.alloc (.cells #[.int .i64 o.tx,.int .i64 o.kind,.int .i64 o.item] 89)) o (hb.trans ((by(repeat(first|exact Below.refl _ _|assumption|refine aZ ?_ aj _|refine Below.drew ?_|refine bE ?_ _|refine bD (by assumption) ?_|(refine dF ?_ ?_;rotate_left; (first|exact Nat.le_refl _|(simp;done)|(simp at*;omega))))):Below wr.heap.size wr _).mono hb.size)) (List.mem_of_getElem? ho)
   have hrun:=HF.out.1;unfold Runs at hrun;have HT:Hid ((s.take (k+1)).filter p=(s.take k).filter p++if p o=true then [o] else []):=by
    show _=_
    rw[aR ho,List.filter_append];simp[List.filter_cons]
   unfold ay.val at hcl;have HC:=ah hcl;clear ho hcl;obtain⟨tx,kd,it⟩:=o;go_wp2_with fail
   refine(HC.out).mono ?_;rintro e w2 ⟨rfl,hb2⟩;obtain⟨bc2,bf2⟩:=Od hb2;have hsz:wr.heap.size<w2.heap.size:=by(have:=hb2.size; (try simp at this);omega)
   have hbw:Below w.heap.size w w2:=hb.trans (((by(repeat(first|exact Below.refl _ _|assumption|refine aZ ?_ aj _|refine Below.drew ?_|refine bE ?_ _|refine bD (by assumption) ?_|(refine dF ?_ ?_;rotate_left; (first|exact Nat.le_refl _|(simp;done)|(simp at*;omega))))):Below wr.heap.size wr w2)).mono hb.size)
   have hown2:=own_below (hown.alloc _) hb2;cases hp:p ⟨tx,kd,it⟩
   .rw[hp] at HT;go_wp2_with fail
    go_roundw
    case rel=>exact⟨k+1,m,by omega,by omega,by go_num,hbw,by rw[HT.out];simpa using hown2⟩
    case measure=>simp[intOf];omega
   .rw[hp] at HT;go_wp2_with (at_builtin;refine gX (.tmp 20) (.tmp 22) (hown2.alloc _) (by simp;omega) (aC.dB _ ⟨_,_,_⟩ _) (by omega) rfl rfl rfl rfl ?_;intro v3 w3 hown3 hg3 aU)
    have hb3:=Below.own hbw hown2 aj (World.grownBy.trans (World.grownBy_alloc w2 _ _) hg3);go_wp2_with fail
    go_roundw
    case rel=>exact⟨k+1,m+1,by omega,by omega,by go_num,hb3,by rw[HT.out];simpa using hown3⟩
    case measure=>simp[intOf];omega
  .obtain⟨Ao,co,rfl,hmc⟩:=aD hown;have e:s.take k=s:=List.take_of_length_le (by omega)
   rw[e] at hown;have HO:=ah (kD.mk (c:=m) (g_ hown) aj (bR.aH hown aj (by omega)) hb)
   clear hown e;go_wp2_with fail
   go_ret;exact HO.out
def au (w:World)(g:Nat)(T:TypeId)(vs:List Value):Prop:=w.heap[g]? =some (.cells vs.toArray T (0,0))
section
variable {w:World} {g:Nat} {T:TypeId} {vs:List Value}
theorem au.lt (h:au w g T vs):g<w.heap.size:=lt_of_block h
theorem au.cell (h:au w g T vs){i:Nat}{v:Value}(hv:vs[i]? =some v):w.cell? ⟨g,i,none⟩=some v:=by
 rw[cell_of_row w g i _ T (0,0) h];simpa using hv
theorem au.frozen (h:au w g T vs)(i:Nat):w.frozen? ⟨g,i,none⟩=false:=frozen_of_row w g i _ T h
theorem au.set (h:au w g T vs)(i:Nat)(v:Value):au (w.setCell ⟨g,i,none⟩ v) g T (vs.set i v):=by
 unfold au;rw[heap_setCell_same w g i _ T v h];simp
theorem au.alloc (h:au w g T vs)(o:Obj):au (w.alloc o) g T vs:=(Below.heap_alloc w o g h.lt).trans h
theorem au.below {w':World}{B:Nat}(h:au w g T vs)(hb:Below B w w')(hg:w.heap.size<=B):au w' g T vs:=(hb.block g (by have:=h.lt;omega)).trans h
end
theorem JD (ys:List ay): ∀ (i:Nat) (o:ay),aB (ys.set i o)=(((aB ys).set (i*3) (.int .i64 o.tx)).set (i*3+1) (.int .i64 o.kind)).set (i*3+2) (.int .i64 o.item):=by
 induction ys with
 |nil=>intro i o;simp[aB]
 |cons y r ih=>
  intro i o;cases i with
  |zero=>simp[aB]
  |succ i=>
   have e:(i+1)*3=i*3+1+1+1:=by omega
   rw[e];simp only[List.set_cons_succ,aB,ih]
theorem R4 {α:Type}(xs:List α)(k:Nat)(z x:α)(m:Nat)(hk:xs[k]? =some x):
 (xs.take k++List.replicate (m+1) z).set k x=xs.take (k+1)++List.replicate m z:=by
 obtain⟨hl,he⟩:=List.getElem?_eq_some_iff.1 hk;have hlen:(xs.take k).length=k:=by simp;omega
 rw[List.set_append_right _ _ (by omega),hlen,Nat.sub_self,List.replicate_succ,List.set_cons_zero,aR hk,List.append_assoc];rfl
theorem au.ops {w:World}{g n:Nat}{T:TypeId}{ys:List ay}{rest:List Value}(h:au w g T (aB ys++rest))(hn:ys.length=n)(hm:n<=1099511627776):aC w (some ⟨g,0,none⟩) n ys:=by
 refine⟨hn,hm,fun _=>⟨g,0,rfl,h.lt,fun i o ho=>?_⟩⟩
 obtain⟨c0,c1,c2⟩:=CR ys i o ho;have hc: ∀j u,(aB ys)[j]? =some u->w.cell? ⟨g,0+j,none⟩=some u:=fun j u hu=>by
  rw[Nat.zero_add];refine h.cell ?_;obtain⟨hl,_⟩:=List.getElem?_eq_some_iff.1 hu;rw[List.getElem?_append_left hl];exact hu
 exact⟨hc _ _ c0,by have:=hc _ _ c1;simpa[Nat.add_assoc] using this,by have:=hc _ _ c2;simpa[Nat.add_assoc] using this⟩
theorem au.ints {w:World}{g n:Nat}{T:TypeId}{ys:List Int}{rest:List Value}(h:au w g T (intCells ys++rest))(hn:ys.length=n)(hm:n<=1099511627776):aM w (some ⟨g,0,none⟩) n ys:=by
 refine⟨hn,hm,fun _=>⟨g,0,rfl,h.lt,fun i o ho=>?_⟩⟩
 rw[Nat.zero_add];refine h.cell ?_;have:(intCells ys)[i]? =some (.int .i64 o):=by simp[intCells,ho]
 obtain⟨hl,_⟩:=List.getElem?_eq_some_iff.1 this;rw[List.getElem?_append_left hl];exact this
theorem bR.row {w0 w:World}{A:Option Addr}{n:Nat}{xs:List ay}(h:bR w0 w A n xs)(h0:0<n): ∃g rest,A=some ⟨g,0,none⟩/\w0.heap.size<=g/\au w g 89 (aB xs++rest):=by
 obtain⟨⟨hl,hm,hr⟩,hf⟩:=h;obtain⟨b,off,hA,hlt,hc⟩:=hr h0;obtain⟨b',cur,had,hge,hh,hsz⟩:=hf _ hA;injection had with h1 h2 h3;subst h1;subst h2;refine⟨b,cur.toList.drop (n*3),hA,hge,?_⟩;unfold au;rw[hh];congr 2
 apply Array.ext'
 simp only;have e:aB xs=cur.toList.take (n*3):=by
  apply List.ext_getElem?
  intro j;rcases Nat.lt_or_ge j (n*3) with hj|hj
  .rw[List.getElem?_take_of_lt hj];obtain⟨v,hv⟩: ∃v,(aB xs)[j]? =some v:=⟨_,List.getElem?_eq_getElem (by rw[bQ];omega)⟩
   rw[hv];obtain⟨i,o,ho,h⟩:=yc xs j v hv;obtain⟨c0,c1,c2⟩:=hc i o ho;have hcell: ∀q,w.cell? ⟨b,q,none⟩=cur[q]? :=fun q=>cell_of_row w b q _ _ (0,0) hh
   rw[hcell] at c0 c1 c2;simp only[Nat.zero_add] at c0 c1 c2;rcases h with⟨rfl,rfl⟩|⟨rfl,rfl⟩|⟨rfl,rfl⟩
   .simpa using c0.symm
   .simpa using c1.symm
   .simpa using c2.symm
  .rw[List.getElem?_eq_none (by rw[bQ];omega),List.getElem?_eq_none (by simp;omega)]
 rw[e,List.take_append_drop]
theorem aN.row {w0 w:World}{A:Option Addr}{n:Nat}{xs:List Int}(h:aN w0 w A n xs)(h0:0<n): ∃g rest,A=some ⟨g,0,none⟩/\w0.heap.size<=g/\au w g 3 (intCells xs++rest):=by
 obtain⟨⟨hl,hm,hr⟩,hf⟩:=h;obtain⟨b,off,hA,hlt,hc⟩:=hr h0;obtain⟨b',cur,had,hge,hh,hsz⟩:=hf _ hA;injection had with h1 h2 h3;subst h1;subst h2;refine⟨b,cur.toList.drop n,hA,hge,?_⟩;unfold au;rw[hh];congr 2
 apply Array.ext'
 simp only;have e:intCells xs=cur.toList.take n:=by
  apply List.ext_getElem?
  intro j;rcases Nat.lt_or_ge j n with hj|hj
  .rw[List.getElem?_take_of_lt hj];have hx:xs[j]? =some (xs[j]'(by omega)):=List.getElem?_eq_getElem (by omega)
   have c0:=hc j _ hx;rw[cell_of_row w b _ _ _ (0,0) hh] at c0;simp only[Nat.zero_add] at c0;simp only[intCells,List.getElem?_map,hx];simpa using c0.symm
  .rw[List.getElem?_eq_none (by simp[intCells];omega),List.getElem?_eq_none (by simp;omega)]
 rw[e,List.take_append_drop]
theorem aC.grown {w w':World}{B:Option Addr}{n:Nat}{ys:List ay}{row:Option Nat}(h:aC w B n ys)(hg:w.grownBy w' row)(hne: ∀b,B=some b->row≠some b.block):aC w' B n ys:=by
 obtain⟨h1,h2,h3⟩:=h;refine⟨h1,h2,fun hn=>?_⟩
 obtain⟨b,off,hA,hlt,hc⟩:=h3 hn;have hs:=hg.size;have hb:=hg.block b hlt (fun e=>hne _ hA e.symm)
 refine⟨b,off,hA,by omega,fun i o ho=>?_⟩
 obtain⟨c0,c1,c2⟩:=hc i o ho;exact⟨(World.cell?_of_block (w:=w) (a:=⟨b,_,none⟩) hb).trans c0,(World.cell?_of_block (w:=w) (a:=⟨b,_,none⟩) hb).trans c1,(World.cell?_of_block (w:=w) (a:=⟨b,_,none⟩) hb).trans c2⟩
theorem aM.grown {w w':World}{B:Option Addr}{n:Nat}{ys:List Int}{row:Option Nat}(h:aM w B n ys)(hg:w.grownBy w' row)(hne: ∀b,B=some b->row≠some b.block):aM w' B n ys:=by
 obtain⟨h1,h2,h3⟩:=h;refine⟨h1,h2,fun hn=>?_⟩
 obtain⟨b,off,hA,hlt,hc⟩:=h3 hn;have hs:=hg.size;have hb:=hg.block b hlt (fun e=>hne _ hA e.symm)
 exact⟨b,off,hA,by omega,fun i o ho=>(World.cell?_of_block (w:=w) (a:=⟨b,_,none⟩) hb).trans (hc i o ho)⟩
theorem fA {w:World}{g i:Nat}{v:Value} :w.grownBy (w.setCell ⟨g,i,none⟩ v) (some g):=
 ⟨rfl,rfl,rfl,by simp[World.setCell],fun k hk hne=>Below.heap_setCell w ⟨g,i,none⟩ v k (fun e=>hne (by rw[e]))⟩
theorem fq {w w':World}{row:Option Nat}(h:Below w.heap.size w w'):w.grownBy w' row:=⟨h.os,h.tape,h.output,h.size,fun i hi _=>h.block i hi⟩
theorem R6 {w:World}{ops:Array Oper}{rest:List Oper}{o:Oper}{a:Act}{Q:Exit->Act->World->Prop}(x y:Operand){g:Nat}{T:TypeId}{ys:List ay}{more:List Value}(p:ay){k:Nat}(hrow:au w g T (aB ys++more))(hk:k<ys.length)
 (hgd:o.guard=none) (ho:o.op=.store 89 x y) (hx:a.eval x=.pointer (some ⟨g,k*3,none⟩)) (hy:a.eval y=.agg #[.int .i64 p.tx,.int .i64 p.kind,.int .i64 p.item])
 (h: ∀w',au w' g T (aB (ys.set k p)++more)->w.grownBy w' (some g)->wpList Tryz.prog ops Q rest (a.put o.dst undef) w'):wpList Tryz.prog ops Q (o::rest) a w:=by
 have hlen:=bQ ys;refine wpList_store_mid hgd _ x y ho g (k*3) #[.int .i64 p.tx,.int .i64 p.kind,.int .i64 p.item] hx hy ?_ (by kernel_rfl) (by simp[Value.oneCell']) ?_
 .intro j hj;have hj:j<3:=hj;have:k*3+j< (aB ys++more).length:=by rw[List.length_append];omega
  exact⟨by rw[hrow.cell (List.getElem?_eq_getElem this)];rfl,hrow.frozen _⟩
 .refine h _ ?_ ?_
  .have:=((hrow.set (k*3) (.int .i64 p.tx)).set (k*3+1) (.int .i64 p.kind)).set (k*3+2) (.int .i64 p.item);rw[List.set_append_left _ _ (by omega),List.set_append_left _ _ (by simp;omega),List.set_append_left _ _ (by simp;omega),<-JD] at this
   exact this
  .exact World.grownBy.trans (World.grownBy.trans fA fA) fA
theorem uZ (n:Nat):(madeCells (Value.int .i64 0).cells (n*1)).toList=intCells (List.replicate n 0):=by
 apply List.ext_getElem?
 intro j;simp only[intCells,List.map_replicate,List.getElem?_replicate];split
 .rename_i hj
  rw[List.getElem?_eq_getElem (by simpa[size_madeCells] using hj)]
  simp only[madeCells,Array.getElem_toList,Array.getElem_map,Array.getElem_range];congr 1
  show(#[Value.int .i64 0] :Array Value)[j % 1]! =_
  rw[Nat.mod_one];rfl
 .rename_i hj
  rw[List.getElem?_eq_none (by simpa[size_madeCells] using hj)]
theorem CZ {w:World}{g k:Nat}{T:TypeId}{ys:List Int}{more:List Value}{v:Int}(hrow:au w g T (intCells ys++more))(hk:k<ys.length):au (w.setCell ⟨g,k,none⟩ (.int .i64 v)) g T (intCells (ys.set k v)++more):=by
 have:=hrow.set k (.int .i64 v);rw[List.set_append_left _ _ (by simpa[intCells] using hk)] at this
 have e:(intCells ys).set k (.int .i64 v)=intCells (ys.set k v):=by simp[intCells,List.map_set]
 rw[e] at this;exact this
def opsOf (s:List ay)(t:Int):List ay:=s.filter fun o=>o.tx==t
def committed (s:List ay):List ay:=s.filter fun o=>dz s o.tx==2
def lQ (s:List ay)(t:Int):Bool:=s.any fun o=>o.tx==t
def ji (s:List ay):List Int:= [0,1,2,3].filter fun t=>lQ s t
theorem LW (o:ay)(t:Int)(b:Nat)(w:World)(hc:w.cell? ⟨b,0,none⟩=some (.int .i64 t)):
 Calls Tryz.prog 148 #[o.val,.pointer (some ⟨b,0,none⟩)] w fun e w'=>e=.returned (.bool (o.tx==t))/\Below w.heap.size w w':=by
 obtain⟨x,k,i⟩:=o;unfold ay.val;have hbl:b<w.heap.size:=block_lt_of_cell hc;go_enter Tryz.func148,Tryz.ntmps148;go_wp2_with fail
 go_ret;exact⟨rfl,aG.alloc aj _⟩
theorem JE:Runs 148:=dG Tryz.func148 (by kernel_rfl) rfl
theorem yh:Runs 150:=dG Tryz.func150 (by kernel_rfl) rfl
theorem zA (o:ay)(A:Option Addr)(n c b:Nat)(s:List ay)(w:World)(hc:w.cell? ⟨b,0,none⟩=some (.slice A n c))(hx:aC w A n s):
 Calls Tryz.prog 150 #[o.val,.pointer (some ⟨b,0,none⟩)] w fun e w'=>e=.returned (.bool (dz s o.tx==2))/\Below w.heap.size w w':=by
 obtain⟨t,k,x⟩:=o;unfold ay.val;have hbl:b<w.heap.size:=block_lt_of_cell hc;have HX:=ah hx;clear hx;go_enter Tryz.func150,Tryz.ntmps150;go_wp2_with fail
 refine(lW A n c s t _ (HX.out.below (aG.alloc aj _) aj)).mono ?_;rintro e w' ⟨rfl,hb⟩;go_wp2_with fail
 go_ret;exact⟨rfl,by(repeat(first|exact Below.refl _ _|assumption|refine aZ ?_ aj _|refine Below.drew ?_|refine bE ?_ _|refine bD (by assumption) ?_|(refine dF ?_ ?_;rotate_left; (first|exact Nat.le_refl _|(simp;done)|(simp at*;omega)))))⟩
theorem tq (A:Option Addr)(n c:Nat)(s:List ay)(w:World)(hx:aC w A n s):
 Calls Tryz.prog 105 #[.slice A n c] w (kD w (committed s)):=by
 have hcl: ∀W:World,W=w.alloc (.cells #[.slice A n c] 47)->aC W A n s/\rC W 150 #[.pointer (some ⟨w.heap.size,0,none⟩)] s (fun o=>dz s o.tx==2)/\Below w.heap.size w W:=by
  intro W hW;have hc:W.cell? ⟨w.heap.size,0,none⟩=some (.slice A n c):=by rw[hW];exact aV _ _ _ _ _ rfl
  have hb:Below w.heap.size w W:=by rw[hW];exact aG.alloc aj _
  have hx':=hx.below hb aj;exact⟨hx',⟨yh,fun W' o hb' ho=>zA o A n c _ s W' ((Later.cell hc ⟨W',hb'⟩)) (hx'.below hb' aj)⟩,hb⟩
 have HC:=ah hcl;clear hcl hx;go_enter Tryz.func105,Tryz.ntmps105;go_wp2_with fail
 obtain⟨W,hW⟩: ∃W:World,W=w.alloc (.cells #[.slice A n c] 47):=⟨_,rfl⟩;rw[<-hW];obtain⟨hr,hf,hb⟩:=HC.out W hW;refine(R3 A n c s _ _ _ W hr hf).mono ?_;rintro e w' ⟨A',c',rfl,hc',⟨h1,h2⟩,hb'⟩;clear hW;go_wp2_with fail
 go_ret;have hs:=hb.size;exact⟨A',c',rfl,hc',⟨h1,fun ad had=>by obtain⟨b,cur,h3,h4,h5⟩:=h2 ad had;exact⟨b,cur,h3,by omega,h5⟩⟩,hb.trans (hb'.mono hs)⟩
end Go.Proofs.YtddkjbibjjehjaaGreatDoor
