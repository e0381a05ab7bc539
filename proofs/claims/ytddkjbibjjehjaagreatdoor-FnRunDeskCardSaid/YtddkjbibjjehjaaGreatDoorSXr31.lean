/-
  Texts that the proof rests on, joined: part 31.
-/
import Derived.Deep.RegionHeld
import Derived.Outline
import Derived.Test.YtddkjbibjjehjaaGreatDoorSXr30
set_option maxHeartbeats 16000000
set_option maxRecDepth 100000
namespace Go.Proofs.YtddkjbibjjehjaaGreatDoor
open Go.RowKit Go.BigFrame
set_option linter.unusedVariables false
def Eo (s:List ay)(t u x:Int):Bool:=jm s s.length t 1 x&&jm s s.length u 1 x
def uQ (s:List ay)(t u:Int)(k:Nat):Bool:=((List.range k).map fun i:Nat=>(i:Int)).any fun x=>Eo s t u x
theorem yZ (s:List ay)(t u:Int):uQ s t u 3=tX s t u:=rfl
theorem kR (s:List ay)(t u:Int)(k:Nat):uQ s t u (k+1)=(uQ s t u k||Eo s t u k):=by
 unfold uQ;rw[List.range_succ,List.map_append,List.any_append];simp
theorem Nb {s:List ay}{t u:Int}{k:Nat}(hk:k<3)(h:Eo s t u k=true):tX s t u=true:=by
 rw[<-yZ];have h1:uQ s t u (k+1)=true:=by rw[kR,h,Bool.or_true]
 rcases(by omega:k=0\/k=1\/k=2) with rfl|rfl|rfl
 .rw[kR,kR,h1];rfl
 .rw[kR,h1];rfl
 .exact h1
theorem QN (A:Option Addr)(n c:Nat)(s:List ay)(t u:Int)(w:World)(hx:aC w A n s):
 Calls Tryz.prog 58 #[.slice A n c,.int .i64 t,.int .i64 u] w fun e w'=>e=.returned (.bool (tX s t u))/\Below w.heap.size w w':=by
 have hn:=hx.2.1;have hl:=hx.1;have HX:=ah hx;clear hx;go_enter Tryz.func58,Tryz.ntmps58;go_wp2_with fail
 go_loopw [7] (fun i wr=> ∃k:Nat,k<=3/\i=.int .i64 k/\Below w.heap.size w wr/\uQ s t u k=false) (fun i _=>3- (intOf i).toNat)
 case atStart=>exact⟨0,by omega,rfl,Below.refl _ _,rfl⟩
 case round=>
  obtain⟨k,hk,rfl,hb,hno⟩:=hrel;by_cases hlt:k<3
  .obtain⟨b1,hb1⟩: ∃b1,jm s n t 1 (k:Int)=b1:=⟨_,rfl⟩;obtain⟨b2,hb2⟩: ∃b2,jm s n u 1 (k:Int)=b2:=⟨_,rfl⟩;have hm:Eo s t u k=(b1&&b2):=by unfold Eo;rw[hl,hb1,hb2]
   have hT: ∀W:World,Below w.heap.size w W->Calls Tryz.prog 93 #[.slice A n c,.int .i64 (n:Int),.int .i64 t,.int .i64 1,.int .i64 (k:Int)] W fun e w'=>e=.returned (.bool b1)/\Below W.heap.size W w':=fun W h=>by
    have:=AZ A n c n s t 1 k W (HX.out.below h aj) aj;rw[hb1] at this;exact this
   have hU: ∀W:World,Below w.heap.size w W->Calls Tryz.prog 93 #[.slice A n c,.int .i64 (n:Int),.int .i64 u,.int .i64 1,.int .i64 (k:Int)] W fun e w'=>e=.returned (.bool b2)/\Below W.heap.size W w':=fun W h=>by
    have:=AZ A n c n s u 1 k W (HX.out.below h aj) aj;rw[hb2] at this;exact this
   have HT:=ah hT;have HU:=ah hU;have HM:=ah hm;have HN:=ah hno;clear hT hU hm hb1 hb2 hno;go_wp2_with fail
   refine(HT.out _ hb).mono ?_;rintro e w1 ⟨rfl,hb1⟩;have uf:=hb.trans (hb1.mono hb.size);cases b1
   .have hz:Hid (uQ s t u (k+1)=false):=by show _=_;rw[kR,HN.out,HM.out];rfl
    go_wp2_with fail
    go_roundw
    case rel=>exact⟨k+1,by omega,by go_num,uf,hz.out⟩
    case measure=>simp[intOf];omega
   .go_wp2_with fail
    refine(HU.out _ uf).mono ?_;rintro e w2 ⟨rfl,hb2⟩;have hbw2:=uf.trans (hb2.mono uf.size);cases b2
    .have hz:Hid (uQ s t u (k+1)=false):=by show _=_;rw[kR,HN.out,HM.out];rfl
     go_wp2_with fail
     go_roundw
     case rel=>exact⟨k+1,by omega,by go_num,hbw2,hz.out⟩
     case measure=>simp[intOf];omega
    .have hz:=ah (Nb hlt HM.out);go_wp2_with fail
     go_ret;exact⟨aI hz.out.symm,hbw2⟩
  .obtain rfl:k=3:=by omega
   rw[yZ] at hno;have HN:=ah hno;clear hno;go_wp2_with fail
   go_ret;exact⟨aI HN.out.symm,hb⟩
def fS (s:List ay)(t u:Int):Bool:=decide (kZ s u<fG s t)|| !tX s t u
def qP (s:List ay)(out:List Int)(o:ay):List Int:=if o.kind==2&&out.all (fS s o.tx) then out++ [o.tx] else out
def LP (s:List ay)(k:Nat):List Int:=(s.take k).foldl (qP s) []
def lT (s:List ay):List Int:=s.foldl (qP s) []
theorem Ep {s:List ay}{k:Nat}{o:ay}(h:s[k]? =some o):LP s (k+1)=qP s (LP s k) o:=by
 unfold LP;rw[aR h,List.foldl_append];rfl
theorem I6 {s:List ay}{k:Nat}(h:s.length<=k):LP s k=lT s:=by
 unfold LP lT;rw[List.take_of_length_le h]
theorem Fy {xs:List Int}{f:Int->Bool}{k:Nat}{x:Int}(h:xs[k]? =some x):(xs.take (k+1)).all f=((xs.take k).all f&&f x):=by
 rw[aR h,List.all_append];simp
theorem y5 {xs:List Int}{f:Int->Bool}{k:Nat}(h:(xs.take k).all f=false):xs.all f=false:=by
 rw[List.all_eq_false] at*;obtain⟨x,hx,h1⟩:=h;exact⟨x,List.mem_of_mem_take hx,h1⟩
theorem Fz (A:Option Addr)(n c:Nat)(s:List ay)(w:World)(hx:aC w A n s):
 Calls Tryz.prog 35 #[.slice A n c] w (aT w (lT s)):=by
 have hn:=hx.2.1;have hl:=hx.1;have HX:=ah hx;clear hx;have HST:Hid ((w.alloc (.cells #[] 3)).ownsRow w.heap.size 3 1 (.slice (some ⟨w.heap.size,0,none⟩) 0 0) 0 (intCells (LP s 0))):=
  World.ownsRow_made w #[] 0 aj (by decide) rfl
 go_enter Tryz.func35,Tryz.ntmps35;go_wp2_with fail
 go_loopw [3,4] (fun ov i wr=> ∃ (k m:Nat),k<=n/\m<=k/\i=.int .i64 k/\Below w.heap.size w wr/\wr.ownsRow w.heap.size 3 1 ov m (intCells (LP s k))) (fun _ i _=>n- (intOf i).toNat)
 case atStart=>exact⟨0,0,Nat.zero_le _,Nat.le_refl _,rfl,aG.alloc aj _,HST.out⟩
 case round=>
  clear HST;obtain⟨wo,rfl⟩: ∃wo:World,wo=wr:=⟨_,rfl⟩;obtain⟨i,m,hi,OL,rfl,hb,hown⟩:=hrel;by_cases hlt:i<n
  .have iM:=HX.out.below hb aj;obtain⟨b,off,o,rfl,hbl,ho,c0,c1,c2⟩:=iM.at_ hlt;have LD:=ah iM;have hs:=hb.size;have hstep:=ah (Ep ho);obtain⟨Ao,co,rfl,hmc⟩:=aD hown;have Fg:=aM.aH hown (by omega)
   have hml:=gY hown;have HRI:=ah Fg;clear iM ho Fg;obtain⟨tx,kd,it⟩:=o;simp only at hstep c0 c1 c2;generalize hO:LP s i=out at*;have HO:=ah hO;clear hO;obtain⟨bk,hbk⟩: ∃bk,(kd==2)=bk:=⟨_,rfl⟩;go_wp2_with fail
   go_loopw [5,6] (fun okv j wr=> ∃ (k:Nat) (ok:Bool),k<=m/\j=.int .i64 k/\okv=.bool ok/\ok=(bk&& (out.take k).all (fS s tx))/\Below wo.heap.size wo wr) (fun _ j _=>m- (intOf j).toNat)
   case atStart=>exact⟨0,bk,Nat.zero_le _,rfl,by first|rfl|rw[hbk] |rw[<-hbk],by simp,Below.refl _ _⟩
   case round=>
    obtain⟨k,ok,hk,rfl,rfl,hok,hb1⟩:=hrel;have xw:=ah hok;clear hok;have hsz:=hb1.size;by_cases hcont:k<m/\ok=true
    .obtain⟨hlt2,rfl⟩:=hcont;obtain⟨bo,ab2,x,hA,nE,hxx,hcx⟩:=HRI.out.at_ hlt2;subst hA;have hall:=ah (Fy (f:=fS s tx) hxx);have iM:=LD.out.below hb1 aj;have L0:=Later.cell ((hb1.cell (p:=⟨b,off+i*3,none⟩) (by simpa using hbl)).trans c0)
     have L1:=Later.cell ((hb1.cell (p:=⟨bo,ab2+k,none⟩) (by simpa using nE)).trans hcx)
     have hC: ∀u:Later wr,Calls Tryz.prog 56 #[.slice (some ⟨b,off,none⟩) n c,.int .i64 x] u.1 fun e w'=>e=.returned (.int .i64 (kZ s x:Nat))/\Below u.1.heap.size u.1 w':=fun u=>H_ _ n c s x u.1 (iM.later u)
     have hF: ∀u:Later wr,Calls Tryz.prog 57 #[.slice (some ⟨b,off,none⟩) n c,.int .i64 tx] u.1 fun e w'=>e=.returned (.int .i64 (fG s tx:Nat))/\Below u.1.heap.size u.1 w':=fun u=>JM _ n c s tx u.1 (iM.later u)
     obtain⟨bm,hbm⟩: ∃bm,tX s tx x=bm:=⟨_,rfl⟩;have hM: ∀u:Later wr,Calls Tryz.prog 58 #[.slice (some ⟨b,off,none⟩) n c,.int .i64 tx,.int .i64 x] u.1 fun e w'=>e=.returned (.bool bm)/\Below u.1.heap.size u.1 w':=fun u=>by
      have:=QN _ n c s tx x u.1 (iM.later u);rw[hbm] at this;exact this
     have HC:=ah hC;have HF:=ah hF;have HM:=ah hM;have hfS:fS s tx x=(decide (kZ s x<fG s tx)|| !bm):=by unfold fS;rw[hbm]
     obtain⟨cx,aa2⟩: ∃cx,kZ s x=cx:=⟨_,rfl⟩;obtain⟨st,hst⟩: ∃st,fG s tx=st:=⟨_,rfl⟩;rw[aa2] at HC hfS;rw[hst] at HF hfS;have HFS:=ah hfS;clear hC hF hM iM hxx hcx hbm hfS aa2 hst hbk;have hki:(k:Int)< (m:Int):=by omega
     have hii:(i:Int)< (n:Int):=by omega
     by_cases hlt3:cx<st
     .have hd:decide (cx<st)=true:=by simpa using hlt3
      go_wp2_with fail
      refine aQ ?_;repeat(go_big_quiet_step ((first|(go_at_call 56;exact aA _ (HC.out _))|(go_at_call 57;exact aA _ (HF.out _)))))
      refine wpQuiet_nil ?_;rintro _ ⟨u,rfl⟩;have hbu:=hb1.trans (u.2.mono hb1.size);go_wp2_with fail
      go_roundw
      case rel=>exact⟨k+1,true,by omega,by go_num,rfl,by rw[hall.out,HFS.out,hd,<-Bool.and_assoc,<-xw.out];rfl,hbu⟩
      case measure=>simp[intOf];omega
     .have hd:decide (cx<st)=false:=by simpa using hlt3
      go_wp2_with fail
      refine aQ ?_;repeat(go_big_quiet_step ((first|(go_at_call 56;exact aA _ (HC.out _))|(go_at_call 57;exact aA _ (HF.out _))|(go_at_call 58;exact aA _ (HM.out _)))))
      refine wpQuiet_nil ?_;rintro _ ⟨u,rfl⟩;have hbu:=hb1.trans (u.2.mono hb1.size);go_wp2_with fail
      go_roundw
      case rel=>exact⟨k+1,!bm,by omega,by go_num,rfl,by rw[hall.out,HFS.out,hd,<-Bool.and_assoc,<-xw.out];rfl,hbu⟩
      case measure=>simp[intOf];omega
    .have Ux:=own_below hown hb1;have hbw:=hb.trans (hb1.mono hs);have iM:=LD.out.below hb1 aj;have hcr:=(hb1.cell (p:=⟨b,off+i*3,none⟩) (by simpa using hbl)).trans c0
     have CB:=ah hbk;clear hbk;cases ok
     .have hfin:Hid (LP s (i+1)=out):=by
       show _=_
       rw[hstep.out];unfold qP;have h1:=xw.out;have:(kd==2&&out.all (fS s tx))=false:=by
        rw[CB.out];cases bk with
        |false=>rfl
        |true=>exact y5 (k:=k) (by simpa using h1.symm)
       rw[this];rfl
      go_wp2_with fail
      all_goals
       go_roundw
       case rel=>exact⟨i+1,m,by omega,by omega,by go_num,hbw,by rw[hfin.out];exact Ux⟩
       case measure=>simp[intOf];omega
     .have hkm: ¬ k<m:=fun h=>hcont ⟨h,rfl⟩
      obtain rfl:k=m:=by omega
      have hfin:Hid (LP s (i+1)=out++ [tx]):=by
       show _=_
       rw[hstep.out];unfold qP;have h1:=xw.out;rw[List.take_of_length_le (by omega)] at h1
       rw[CB.out,<-h1];rfl
      go_wp2_with (at_builtin;refine gI (.tmp 58) (.tmp 64) (Ux.alloc _) (by simp;omega) (dB rfl _) (by omega) rfl rfl rfl rfl ?_;intro v3 w3 hown3 hg3 aU)
      have hb3:=Below.own hbw Ux aj (World.grownBy.trans (World.grownBy_alloc wr _ _) hg3);go_roundw
      case rel=>exact⟨i+1,k+1,by omega,by omega,by go_num,hb3,by rw[hfin.out];exact hown3⟩
      case measure=>simp[intOf];omega
  .obtain⟨Ao,co,rfl,hmc⟩:=aD hown;rw[I6 (by omega)] at hown
   have HO:=ah (aT.mk (c:=co) (gY hown) hmc (aN.aH hown aj (by omega)) hb)
   clear hown;go_wp2_with fail
   go_ret;exact HO.out
theorem QO {s:List ay}(h:aF s=true): ∀u∈lT s,0<=u/\u<=3:=by
 have key: ∀k,∀u∈LP s k,0<=u/\u<=3:=by
  intro k;induction k with
  |zero=>simp[LP]
  |succ k ih=>
   intro u hu;cases he:s[k]? with
   |none=>
    have hl:s.length<=k:=by
     rcases Nat.lt_or_ge k s.length with h'|h'
     .rw[List.getElem?_eq_getElem h'] at he;cases he
     .exact h'
    refine ih u ?_;unfold LP at*;rw[List.take_of_length_le (by omega)] at hu
    rw[List.take_of_length_le hl];exact hu
   |some o=>
    rw[Ep he] at hu;unfold qP at hu;split at hu
    .rcases List.mem_append.1 hu with hu|hu
     .exact ih u hu
     .have:=List.mem_singleton.1 hu;subst this;exact rD h (List.mem_of_getElem? he)
    .exact ih u hu
 intro u hu;rw[<-I6 aj] at hu;exact key _ u hu
def aY (B:Nat->Bool)(n:Nat):Int:=match(List.range n).find? B with|some i=>(i:Int)|none=> -1
theorem l8 {B:Nat->Bool}{n k:Nat}(hk:k<n)(h:B k=true)(hno: ∀j,j<k->B j=false):aY B n=(k:Int):=by
 have:(List.range n).find? B=some k:=by
  rw[List.find?_eq_some_iff_getElem];exact⟨h,k,by simpa using hk,by simp,fun j hj=>by simp[hno j hj]⟩
 unfold aY;rw[this]
theorem kS {B:Nat->Bool}{n:Nat}(hno: ∀j,j<n->B j=false):aY B n= -1:=by
 have:(List.range n).find? B=none:=by
  rw[List.find?_eq_none];intro x hx;rw[hno x (List.mem_range.1 hx)];simp
 unfold aY;rw[this]
def eF (s:List ay)(w:World)(z:Int)(e:Ending)(w':World):Prop:=e=.returned (.tuple #[.int .i64 (if aF s then z else-1),.bool (aF s)])/\Below w.heap.size w w'
theorem eF.no {s:List ay}{w w':World}{z:Int}(hv:aF s=false)(hb:Below w.heap.size w w'):eF s w z (.returned (.tuple #[.int .i64 (-1),.bool false])) w':=⟨by rw[hv];rfl,hb⟩
theorem eF.yes {s:List ay}{w w':World}{z i:Int}(hv:aF s=true)(hz:z=i)(hb:Below w.heap.size w w'):eF s w z (.returned (.tuple #[.int .i64 i,.bool true])) w':=⟨by rw[hv,hz];rfl,hb⟩
theorem n_ (w:World):Calls Tryz.prog 74 #[] w fun e w'=>e=.returned (.slice (some ⟨w.heap.size,0,none⟩) 5 5)/\w'=w.alloc (.cells #[.string { data:= #[114,101,99,111,118,101,114,97,98,108,101] },.func (.func 114) #[] #[],.string { data:= #[99,97,115,99,97,100,101,115] },.func (.func 116) #[] #[],.string { data:= #[115,116,114,105,99,116] },.func (.func 117) #[] #[],.string { data:= #[114,105,103,111,114,111,117,115] },.func (.func 120) #[] #[],.string { data:= #[99,111,109,109,105,116,115] },.func (.func 122) #[] #[]] 114):=by
 go_enter Tryz.func74,Tryz.ntmps74;go_wp2_with fail
 go_ret;exact⟨rfl,rfl⟩
theorem xR {s:List ay}(h:aF s=true):Small (lT s):=fun x hx=>by
 have:=QO h x hx;omega
theorem Ai {s:List ay}(h:aF s=true): ∀o∈jY s,Small o:=fun o ho x hx=>by
 rw[<-Ch h] at ho;unfold JY Ih at ho;have h1:=(List.mem_filter.1 ho).1;rcases Gz _ _ _ h1 x hx with h2|h2
 .cases h2
 .have:=rW _ x h2;omega
theorem y7 {s:List ay}(h:aF s=true):dA (qA (committed s))/\(dD (qA (committed s))).length=4:=by
 have h4:dA (qA (committed s)):=Ig fun o ho=>rD h (yI ho)
 exact⟨h4,by unfold dD;rw[List.length_map];exact h4.1⟩
theorem Aj {s:List ay}(h:aF s=true):Small (pq s):=fun x hx=>by
 have h4:=(y7 h).1;unfold pq at hx;have hne:fI (qA (committed s))≠ [] :=fun e=>by rw[e] at hx;cases hx
 have hr:=Gh h4 (yP h) hne;obtain⟨i,hi⟩:=List.mem_iff_getElem?.1 hx;obtain⟨hl,he⟩:=List.getElem?_eq_some_iff.1 hi;unfold Ii at hr;simp only[Bool.and_eq_true,List.all_eq_true,decide_eq_true_eq] at hr;have:=hr.2 i (List.mem_range.2 hl);have e:(fI (qA (committed s))).getD i 0=x:=by simp[List.getD,hi]
 rw[e] at this;omega
theorem xS {s:List ay}(h:aF s=true)(hl:s.length<=12)(r:dQ):(dO r s).done.length<=1000/\fF (dO r s).done:=by
 have hd:=(bn _).1 (yY (r:=r) h hl);exact⟨by omega,hd.2.1⟩
theorem p9 {s:List ay}(h:aF s=true):bZ s:=kQ ((bn s).1 h).2.1
theorem kF (B:Nat->Bool)(n:Nat): -1<=aY B n/\aY B n<=n:=by
 unfold aY;cases h:(List.range n).find? B with
 |none=>simp
 |some i=>
  have:=List.mem_range.1 (List.mem_of_find?_eq_some h);simp only;omega
theorem Er {w0 w:World}{A:Option Addr}{rv:List Value}{o:List Int}{r:List (List Int)}(ho:uF w0 w A (o::r).length rv)(hr:eG w0 w rv (o::r)):
 ∃b off A6 n6 c6,A=some ⟨b,off,none⟩/\w.cell? ⟨b,off,none⟩=some (.slice A6 n6 c6)/\b<w.heap.size/\aM w A6 n6 o:=by
 obtain⟨ad,rfl,hc⟩:=ho.1.2.2 (by simp)
 obtain⟨b,cur,e2,h1,h2⟩:=ho.2 ad rfl;subst e2;obtain⟨C,c,e,hmc,hf⟩:=hr.2 0 o rfl;have:=hc 0 _ e;rw[addr_add] at this;exact⟨b,0,C,_,c,rfl,this,lt_of_block h2,hf.1⟩
theorem Nc (s:List ay)(t:Int)(k:Nat)(hk:k<=s.length):je s t k=if fG s t<k then(fG s t:Int) else-1:=by
 induction k with
 |zero=>simp[je]
 |succ k ih=>
  have ih:=ih (by omega)
  have hat:Pm s k t=((s[k]'(by omega)).tx==t):=by unfold Pm;rw[List.getElem?_eq_getElem (by omega)]
  simp only[je,ih,hat];unfold fG at*;obtain⟨f,hf⟩: ∃f,(s.findIdx fun o=>o.tx==t)=f:=⟨_,rfl⟩
  have hget: ∀q,s[f]? =some q->(q.tx==t)=true:=by
   intro q hq;obtain⟨hl,he⟩:=List.getElem?_eq_some_iff.1 hq;subst hf;rw[<-he];exact @List.findIdx_getElem _ (fun o:ay=>o.tx==t) s hl
  have hnot:k<f->((s[k]'(by omega)).tx==t)=false:=by
   intro hkf;subst hf;exact List.not_of_lt_findIdx (p:=fun o:ay=>o.tx==t) hkf
  rw[hf];clear ih hf;rcases Nat.lt_trichotomy f k with h|h|h
  .have e2:f<k+1:=by omega
   rw[if_pos h,if_pos e2,if_neg (fun h=>by omega)]
  .subst h;have e2:f<f+1:=by omega
   have hh:=hget _ (List.getElem?_eq_getElem (by omega))
   rw[if_neg (Nat.lt_irrefl f),if_pos e2,if_pos ⟨by omega,hh⟩]
  .have e1: ¬ f<k:=by omega
   have e2: ¬ f<k+1:=by omega
   have hh:=hnot h;rw[if_neg e1,if_neg e2,if_neg];rintro⟨_,h2⟩;rw[hh] at h2;cases h2
theorem QS {s:List ay}{o:ay}(ho:o∈s):qg s o.tx=(fG s o.tx:Int):=by
 unfold qg;have:fG s o.tx<s.length:=List.findIdx_lt_length.2 ⟨o,ho,by simp⟩
 rw[Nc s _ _ aj,if_pos this]
theorem Nf {s:List ay}(h:aF s=true){o:ay}(ho:o∈s)(hk:o.kind=2):rO s o.tx=(kZ s o.tx:Int):=by
 have hi:=AV h ho (.inl hk);have hmem:(⟨o.tx,2,0⟩:ay)∈s:=by
  have:(⟨o.tx,2,0⟩:ay)=o:=by obtain⟨t,k,i⟩:=o;simp only at hk hi;subst hk;subst hi;rfl
  rw[this];exact ho
 unfold rO JJ kZ;have h1:s.any (fun q=>q==⟨o.tx,2,0⟩)=true:=List.any_eq_true.2 ⟨_,hmem,by simp⟩
 rw[h1,if_pos rfl];congr 1
 have: ∀q∈s,(q==(⟨o.tx,2,0⟩:ay))=(q.tx==o.tx&&q.kind==2):=by
  intro q hq;rw[Bool.eq_iff_iff];simp only[beq_iff_eq,Bool.and_eq_true];constructor
  .rintro rfl;exact⟨rfl,rfl⟩
  .rintro⟨h1,h2⟩;have:=AV h hq (.inl h2);obtain⟨t,k,i⟩:=q;simp only at h1 h2 this;subst h1;subst h2;subst this;rfl
 exact EU this
theorem vT (s:List ay)(t:Int)(x:Nat)(h:rP s)(k:Nat)(hk:k<=s.length):(JL s t k).testBit x=jm s k t 1 (x:Int):=by
 induction k with
 |zero=>simp[JL,jm]
 |succ k ih=>
  have ih:=ih (by omega)
  have e:s[k]? =some (s[k]'(by omega)):=List.getElem?_eq_getElem (by omega)
  have hst:jm s (k+1) t 1 x=(jm s k t 1 x||((s[k]'(by omega)).tx==t&& (s[k]'(by omega)).kind==1&& (s[k]'(by omega)).item==x)):=by
   unfold jm;rw[aR e,List.any_append];simp
  simp only[JL,e];rw[hst,<-ih];cases hc:((s[k]'(by omega)).tx==t&& (s[k]'(by omega)).kind==1)
  .simp
  .simp only[Bool.and_eq_true,beq_iff_eq] at hc;have hi:=h _ (List.getElem_mem (by omega)) hc.2
   simp only[if_true,Nat.testBit_or,Nat.one_shiftLeft,Nat.testBit_two_pow,Bool.true_and];congr 1
   rw[Bool.eq_iff_iff];simp only[decide_eq_true_eq,beq_iff_eq];omega
theorem KT {a b:Nat}(ha:a<8)(hb:b<8):((a&&&b) !=0)=((a.testBit 0&&b.testBit 0)||(a.testBit 1&&b.testBit 1)||(a.testBit 2&&b.testBit 2)):=by
 have: ∀x:Fin 8,∀y:Fin 8,(((x:Nat) &&& (y:Nat)) !=0)=(((x:Nat).testBit 0&& (y:Nat).testBit 0)||((x:Nat).testBit 1&& (y:Nat).testBit 1)||((x:Nat).testBit 2&& (y:Nat).testBit 2)):=by decide
 exact this ⟨a,ha⟩ ⟨b,hb⟩
theorem Uy {s:List ay}(h:rP s)(t u:Int):((wI s u&&&wI s t) !=0)=tX s t u:=by
 unfold wI;rw[KT (Dn s u h _) (Dn s t h _)];rw[vT s u 0 h _ aj,vT s u 1 h _ aj,vT s u 2 h _ aj,vT s t 0 h _ aj,vT s t 1 h _ aj,vT s t 2 h _ aj];unfold tX;simp only[List.any_cons,List.any_nil,Bool.or_false];rw[Bool.and_comm (jm s s.length u 1 _),Bool.and_comm (jm s s.length u 1 _),Bool.and_comm (jm s s.length u 1 _),Bool.or_assoc];rfl
def QT (s:List ay)(k:Nat)(out:List Int):Prop:=(∀u∈out,∃j o,j<k/\s[j]? =some o/\o.tx=u/\o.kind=2)/\out.Nodup
theorem Es {s:List ay}(h:aF s=true){k:Nat}{o:ay}(ho:s[k]? =some o)(hk:o.kind=2){out:List Int}(hs:QT s k out){u:Int}(hu:u∈out):
 Xu s o.tx u= !fS s o.tx u:=by
 obtain⟨j,q,hj,hq,rfl,hqk⟩:=hs.1 u hu;have hom:=List.mem_of_getElem? ho;have hqm:=List.mem_of_getElem? hq;have hi:=H9 h;unfold Xu fS;rw[Uy hi,QS hom,Nf h hqm hqk];have hne:kZ s q.tx≠fG s o.tx:=by
  intro e;obtain⟨p,h1,h1',_⟩:=LX hqm hqk;obtain⟨p',h2,h2'⟩:=vg hom;rw[e,h2] at h1;injection h1 with h1;subst h1;have:=lg h hq ho (zC hqk) (h1'.symm.trans h2');omega
 cases hm:tX s o.tx q.tx
 .simp
 .simp only[Bool.and_true,Bool.not_true,Bool.or_false];rw[Bool.eq_iff_iff];simp;omega
theorem QU {s:List ay}(h:aF s=true){k:Nat}{o:ay}(ho:s[k]? =some o){out:List Int}(hs:QT s k out):
 mU s out o=qP s out o/\QT s (k+1) (qP s out o):=by
 have hw:QT s (k+1) out:=⟨fun u hu=>by obtain⟨j,q,hj,r⟩:=hs.1 u hu;exact⟨j,q,by omega,r⟩,hs.2⟩
 unfold mU qP;by_cases hk:o.kind=2
 .have e:out.any (Xu s o.tx)= !out.all (fS s o.tx):=by
   rw[List.not_all_eq_any_not];rw[Bool.eq_iff_iff,List.any_eq_true,List.any_eq_true];constructor
   .rintro⟨u,hu,hx⟩;exact⟨u,hu,by rw[<-Es h ho hk hs hu];exact hx⟩
   .rintro⟨u,hu,hx⟩;exact⟨u,hu,by rw[Es h ho hk hs hu];exact hx⟩
  rw[e,Bool.not_not];refine⟨rfl,?_⟩;split
  .refine⟨?_,?_⟩
   .intro u hu;simp only[List.mem_append,List.mem_singleton] at hu;rcases hu with hu|rfl
    .exact hw.1 u hu
    .exact⟨k,o,by omega,ho,rfl,hk⟩
   .rw[List.nodup_append];refine⟨hs.2,by simp,?_⟩
    intro a ha b hb;simp only[List.mem_singleton] at hb;subst hb;rintro rfl;obtain⟨j,q,hj,hq,Z7,hqk⟩:=hs.1 _ ha;have:=lg h hq ho (zC hqk) Z7;omega
  .exact hw
 .have hk':(o.kind==2)=false:=by simpa using hk
  rw[hk'];exact⟨rfl,hw⟩
theorem QV {s:List ay}(h:aF s=true)(k:Nat)(hk:k<=s.length):qh s k=LP s k/\QT s k (LP s k):=by
 induction k with
 |zero=>exact⟨rfl,by unfold QT LP;simp⟩
 |succ k ih=>
  obtain⟨ih1,ih2⟩:=ih (by omega)
  have e:s[k]? =some (s[k]'(by omega)):=List.getElem?_eq_getElem (by omega)
  rw[AY e,Ep e,ih1];exact QU h e ih2
theorem WR {s:List ay}(h:aF s=true):Oe s=lT s:=by
 rw[<-Dq aj,<-I6 aj];exact(QV h _ aj).1
def sP (o:ay):Bool:=o.kind==1
theorem KU (o:ay)(w:World):
 Calls Tryz.prog 119 #[o.val] w fun e w'=>e=.returned (.bool (sP o))/\Below w.heap.size w w':=by
 obtain⟨t,k,x⟩:=o;unfold ay.val sP;go_enter Tryz.func119,Tryz.ntmps119;go_wp2_with fail
 go_ret;exact⟨rfl,aG.alloc aj _⟩
theorem Ng:Runs 119:=dG Tryz.func119 (by kernel_rfl) rfl
theorem QW (o q:ay)(A:Option Addr)(n c b5 b3 b4 k:Nat)(s:List ay)(w:World)(h5:w.cell? ⟨b5,0,none⟩=some (.func (.func 119) #[] #[]))(h3:w.cell? ⟨b3,0,none⟩=some (.slice A n c))(h4:w.cell? ⟨b4,0,none⟩=some (.int .i64 (k:Int)))(hx:aC w A n s)(hk:k<n)(hnc:n<=c)(hq:s[k]? =some q):
 Calls Tryz.prog 160 #[o.val,.pointer (some ⟨b5,0,none⟩),.pointer (some ⟨b3,0,none⟩),.pointer (some ⟨b4,0,none⟩)] w fun e w'=>e=.returned (.bool (sP o&&fH o q&&decide (dz (s.take k) o.tx<0)))/\Below w.heap.size w w':=by
 have hn:=hx.2.1;obtain⟨b,off,q',rfl,hbl,ho,c0,c1,c2⟩:=hx.at_ hk;rw[hq] at ho;injection ho with ho;subst ho;obtain⟨r1,hr1⟩: ∃z,sP o=z:=⟨_,rfl⟩;obtain⟨r2,hr2⟩: ∃z,fH o q=z:=⟨_,rfl⟩;obtain⟨E,hE⟩: ∃z,dz (s.take k) o.tx=z:=⟨_,rfl⟩;obtain⟨r3,hr3⟩: ∃z,decide (E<0)=z:=⟨_,rfl⟩;rw[hr1,hr2,hE,hr3];obtain⟨t,kd,x⟩:=o;obtain⟨W,hW⟩: ∃W:World,W=w.alloc (.cells #[.int .i64 t,.int .i64 kd,.int .i64 x] 89):=⟨_,rfl⟩;obtain⟨L0,L1,L2,hbW,hWs⟩:=kC hW;have QX:=hx.below hbW aj;have hT: ∀u:Later W,Calls Tryz.prog 119 #[.agg #[.int .i64 t,.int .i64 kd,.int .i64 x]] u.1 fun e w'=>e=.returned (.bool r1)/\Below u.1.heap.size u.1 w':=fun u=>by
  have:=KU ⟨t,kd,x⟩ u.1;rw[hr1] at this;exact this
 have hC: ∀u:Later W,Calls Tryz.prog 123 #[.agg #[.int .i64 t,.int .i64 kd,.int .i64 x],.agg #[.int .i64 q.tx,.int .i64 q.kind,.int .i64 q.item]] u.1 fun e w'=>e=.returned (.bool r2)/\Below u.1.heap.size u.1 w':=fun u=>by
  have:=mq ⟨t,kd,x⟩ q u.1;rw[hr2] at this;exact this
 have WS: ∀u:Later W,Calls Tryz.prog 124 #[.slice (some ⟨b,off,none⟩) k c,.int .i64 t] u.1 fun e w'=>e=.returned (.int .i64 E)/\Below u.1.heap.size u.1 w':=fun u=>by
  have:=lW (some ⟨b,off,none⟩) k c (s.take k) t u.1 ((QX.take (by omega)).later u);simp only at hE;rw[hE] at this;exact this
 have HT:=ah hT;have HC:=ah hC;have HE:=ah WS;have HW:=ah hW;have M5: ∀u:Later W,u.1.cell? ⟨b5,0,none⟩=some (.func (.func 119) #[] #[]):=fun u=>Later.cell h5 ⟨u.1,hbW.trans (u.2.mono hbW.size)⟩
 have M3: ∀u:Later W,u.1.cell? ⟨b3,0,none⟩=some (.slice (some ⟨b,off,none⟩) n c):=fun u=>Later.cell h3 ⟨u.1,hbW.trans (u.2.mono hbW.size)⟩
 have M4: ∀u:Later W,u.1.cell? ⟨b4,0,none⟩=some (.int .i64 (k:Int)):=fun u=>Later.cell h4 ⟨u.1,hbW.trans (u.2.mono hbW.size)⟩
 have N0: ∀u:Later W,u.1.cell? ⟨b,off+k*3,none⟩=some (.int .i64 q.tx):=fun u=>Later.cell c0 ⟨u.1,hbW.trans (u.2.mono hbW.size)⟩
 have N1: ∀u:Later W,u.1.cell? ⟨b,off+k*3+1,none⟩=some (.int .i64 q.kind):=fun u=>Later.cell c1 ⟨u.1,hbW.trans (u.2.mono hbW.size)⟩
 have N2: ∀u:Later W,u.1.cell? ⟨b,off+k*3+2,none⟩=some (.int .i64 q.item):=fun u=>Later.cell c2 ⟨u.1,hbW.trans (u.2.mono hbW.size)⟩
 have hki:(k:Int)< (n:Int):=by omega
 have hk0:(0:Int)<=(k:Int):=by omega
 have hkc:(k:Int)<=(c:Int):=by omega
 have hrun:=Ng;unfold Runs at hrun;unfold ay.val;clear hT hC WS hW h5 h3 h4 c0 c1 c2 hx QX hr1 hr2 hE hq;obtain⟨q0,q1,q2⟩:=q;simp only at N0 N1 N2 HC;go_enter Tryz.func160,Tryz.ntmps160;go_wp2_with fail
 rw[<-HW.out];cases r1
 .refine aQ ?_;repeat(go_big_quiet_step ((first|(go_at_call 119;exact aA _ (HT.out _))|(go_at_call 123;exact aA _ (HC.out _))|(go_at_call 124;exact aA _ (HE.out _)))))
  refine wpQuiet_nil ?_;rintro _ ⟨u,rfl⟩;go_wp2_with fail
  go_ret;exact⟨aI (by first|rfl|simp),hbW.trans (u.2.mono hbW.size)⟩
 .cases r2
  .refine aQ ?_;repeat(go_big_quiet_step ((first|(go_at_call 119;exact aA _ (HT.out _))|(go_at_call 123;exact aA _ (HC.out _))|(go_at_call 124;exact aA _ (HE.out _)))))
   refine wpQuiet_nil ?_;rintro _ ⟨u,rfl⟩;go_wp2_with fail
   go_ret;exact⟨aI (by first|rfl|simp),hbW.trans (u.2.mono hbW.size)⟩
  .cases r3
   .refine aQ ?_;repeat(go_big_quiet_step ((first|(go_at_call 119;exact aA _ (HT.out _))|(go_at_call 123;exact aA _ (HC.out _))|(go_at_call 124;exact aA _ (HE.out _)))))
    refine wpQuiet_nil ?_;rintro _ ⟨u,rfl⟩;go_wp2_with fail
    go_ret;exact⟨aI (by first|rfl|simp),hbW.trans (u.2.mono hbW.size)⟩
   .refine aQ ?_;repeat(go_big_quiet_step ((first|(go_at_call 119;exact aA _ (HT.out _))|(go_at_call 123;exact aA _ (HC.out _))|(go_at_call 124;exact aA _ (HE.out _)))))
    refine wpQuiet_nil ?_;rintro _ ⟨u,rfl⟩;go_wp2_with fail
    go_ret;exact⟨aI (by first|rfl|simp),hbW.trans (u.2.mono hbW.size)⟩
def uR (P:ay->Bool)(s:List ay)(k:Nat):Bool:=match s[k]? with|some q=>(s.take k).any fun o=>P o&&fH o q&&decide (dz (s.take k) o.tx<0)|none=>false
theorem Et:Runs 160:=dG Tryz.func160 (by kernel_rfl) rfl
theorem Nh (A:Option Addr)(n c k:Nat)(s:List ay)(w:World)(hx:aC w A n s)(hnc:n<=c)(hk:k<n):
 Calls Tryz.prog 118 #[.slice A n c,.int .i64 (k:Int),.func (.func 119) #[] #[]] w fun e w'=>e=.returned (.bool (uR sP s k))/\Below w.heap.size w w':=by
 have hl:=hx.1;have e:s[k]? =some (s[k]'(by omega)):=List.getElem?_eq_getElem (by omega)
 have hO:uR sP s k=(s.take k).any fun o=>sP o&&fH o (s[k]'(by omega)) &&decide (dz (s.take k) o.tx<0):=by unfold uR;rw[e]
 generalize s[k]'(by omega)=q at*
 obtain⟨W1,hW1⟩: ∃W:World,W=w.alloc (.cells #[.slice A n c] 47):=⟨_,rfl⟩;obtain⟨W2,hW2⟩: ∃W:World,W=W1.alloc (.cells #[.int .i64 (k:Int)] 3):=⟨_,rfl⟩;obtain⟨W,hW⟩: ∃W:World,W=W2.alloc (.cells #[.func (.func 119) #[] #[]] 132):=⟨_,rfl⟩;have s1:W1.heap.size=w.heap.size+1:=by rw[hW1];simp
 have s2:W2.heap.size=w.heap.size+2:=by rw[hW2];simp[s1]
 have b1:Below w.heap.size w W1:=by rw[hW1];exact aG.alloc aj _
 have b2:Below W1.heap.size W1 W2:=by rw[hW2];exact aG.alloc aj _
 have b3:Below W2.heap.size W2 W:=by rw[hW];exact aG.alloc aj _
 have x1:W1.cell? ⟨w.heap.size,0,none⟩=some (.slice A n c):=by rw[hW1];exact aV _ _ _ _ _ rfl
 have x2:W2.cell? ⟨w.heap.size+1,0,none⟩=some (.int .i64 (k:Int)):=by rw[hW2,<-s1];exact aV _ _ _ _ _ rfl
 have x3:W.cell? ⟨w.heap.size+2,0,none⟩=some (.func (.func 119) #[] #[]):=by rw[hW,<-s2];exact aV _ _ _ _ _ rfl
 have Zj:=b2.trans (b3.mono b2.size);have Ni:=b1.trans (Zj.mono b1.size);have y1:W.cell? ⟨w.heap.size,0,none⟩=some (.slice A n c):=(Zj.cell (p:=⟨w.heap.size,0,none⟩) (block_lt_of_cell x1)).trans x1;have y2:W.cell? ⟨w.heap.size+1,0,none⟩=some (.int .i64 (k:Int)):=(b3.cell (p:=⟨w.heap.size+1,0,none⟩) (block_lt_of_cell x2)).trans x2;have QX:=hx.below Ni aj;have KM:rC W 160 #[.pointer (some ⟨w.heap.size+2,0,none⟩),.pointer (some ⟨w.heap.size,0,none⟩),.pointer (some ⟨w.heap.size+1,0,none⟩)] (s.take k) (fun o=>sP o&&fH o q&&decide (dz (s.take k) o.tx<0)):=by
  refine⟨Et,fun W' o hb' ho=>?_⟩
  exact QW o q A n c _ _ _ k s W' ((hb'.cell (p:=⟨w.heap.size+2,0,none⟩) (block_lt_of_cell x3)).trans x3) ((hb'.cell (p:=⟨w.heap.size,0,none⟩) (block_lt_of_cell y1)).trans y1) ((hb'.cell (p:=⟨w.heap.size+1,0,none⟩) (block_lt_of_cell y2)).trans y2) (QX.below hb' aj) hk hnc e
 have HC:=ah (gJ A k c (s.take k) _ _ _ W (QX.take (by omega)) KM)
 have HW:Hid (((w.alloc (.cells #[.slice A n c] 47)).alloc (.cells #[.int .i64 (k:Int)] 3)).alloc (.cells #[.func (.func 119) #[] #[]] 132)=W):=by show _=_;rw[hW,hW2,hW1]
 have HO:=ah hO;have hkc:(k:Int)<=(c:Int):=by omega
 have hk0:(0:Int)<=(k:Int):=by omega
 have hrun:=Et;unfold Runs at hrun;clear KM hO hW hW2 hW1 x1 x2 x3 y1 y2 s1 s2 b1 b2 b3 Zj hx QX;go_enter Tryz.func118,Tryz.ntmps118;go_wp2_with fail
 rw[HW.out];refine HC.out.mono ?_;rintro e w1 ⟨rfl,hb1⟩;go_wp2_with fail
 go_ret;exact⟨aI HO.out.symm,Ni.trans (hb1.mono Ni.size)⟩
theorem Nj (A:Option Addr)(n c k:Nat)(s:List ay)(w:World)(hx:aC w A n s)(hnc:n<=c)(hk:k<n):
 Calls Tryz.prog 117 #[.slice A n c,.int .i64 (k:Int)] w fun e w'=>e=.returned (.bool (uR sP s k))/\Below w.heap.size w w':=by
 have HC:=ah (Nh A n c k s w hx hnc hk);clear hx;go_enter Tryz.func117,Tryz.ntmps117;go_wp2_with fail
 refine HC.out.mono ?_;rintro e w1 ⟨rfl,hb1⟩;go_wp2_with fail
 go_ret;exact⟨rfl,hb1⟩
end Go.Proofs.YtddkjbibjjehjaaGreatDoor
