/-
  Texts that the proof rests on, joined: part 14.
-/
import Derived.StillTailTactics
import Derived.IntWalk
import Derived.Test.YtddkjbibjjehjaaGreatDoorSXr13
set_option maxHeartbeats 16000000
set_option maxRecDepth 100000
namespace Go.Proofs.YtddkjbibjjehjaaGreatDoor
open Go.RowKit Go.BigFrame
set_option linter.unusedVariables false
def J9 (s:List ay)(t:Int)(i:Nat):Bool:=(s.take i).any fun o=>o.tx==t&&o.kind==3
theorem Tj {s:List ay}{t:Int}{k:Nat}{o:ay}(h:s[k]? =some o):J9 s t (k+1)=(J9 s t k||(o.tx==t&&o.kind==3)):=by
 unfold J9;rw[aR h,List.any_append];simp
theorem YB {s:List ay}{t:Int}{k i:Nat}(hk:k<=i)(h:J9 s t k=true):J9 s t i=true:=by
 unfold J9 at*;rw[List.any_eq_true] at*;obtain⟨o,ho,e⟩:=h;refine⟨o,?_,e⟩;have:s.take k=(s.take i).take k:=by rw[List.take_take,Nat.min_eq_left hk]
 rw[this] at ho;exact List.mem_of_mem_take ho
theorem Fb (A:Option Addr)(n c:Nat)(s:List ay)(t:Int)(i:Nat)(w:World)(hx:aC w A n s)(hi:i<=n):
 Calls Tryz.prog 137 #[.slice A n c,.int .i64 t,.int .i64 (i:Int)] w fun e w'=>e=.returned (.bool (J9 s t i))/\Below w.heap.size w w':=by
 have hn:=hx.2.1;have hl:=hx.1;have HX:=ah hx;clear hx;go_enter Tryz.func137,Tryz.ntmps137;go_wp2_with fail
 go_loopw [7] (fun x wr=> ∃k:Nat,k<=i/\x=.int .i64 k/\J9 s t k=false/\Below w.heap.size w wr) (fun x _=>i- (intOf x).toNat)
 case atStart=>exact⟨0,Nat.zero_le _,rfl,by simp[J9],Below.refl _ _⟩
 case round=>
  obtain⟨k,hk,rfl,hno,hb⟩:=hrel;by_cases hlt:k<i
  .obtain⟨b,off,o,rfl,hbl,ho,c0,c1,c2⟩:=(HX.out.below hb aj).at_ (k:=k) (by omega)
   have HS:=ah (Tj (t:=t) ho);rw[hno,Bool.false_or] at HS;have HT:Hid (J9 s t (k+1)=true->J9 s t i=true):=fun h=>YB (by omega) h
   clear hno ho;obtain⟨tx,kd,it⟩:=o;simp only at HS c0 c1 c2;have hki:(k:Int)< (i:Int):=by omega
   have hkn:(k:Int)< (n:Int):=by omega
   have L0:=Later.cell c0;have L1:=Later.cell c1;by_cases h1:tx=t
   .by_cases h2:kd=3
    .have hs:=ah (HT.out (by rw[HS.out];simp[h1,h2]))
     subst h1;subst h2;go_wp2_with fail
     go_ret;exact⟨aI hs.out.symm,hb⟩
    .have h2':(kd==3)=false:=by simpa using h2
     rw[h2',Bool.and_false] at HS;subst h1;go_wp2_with fail
     go_roundw
     case rel=>exact⟨k+1,by omega,by go_num,HS.out,hb⟩
     case measure=>simp[intOf];omega
   .have h1':(tx==t)=false:=by simpa using h1
    rw[h1',Bool.false_and] at HS;go_wp2_with fail
    go_roundw
    case rel=>exact⟨k+1,by omega,by go_num,HS.out,hb⟩
    case measure=>simp[intOf];omega
  .obtain rfl:k=i:=by omega
   have HN:=ah hno;clear hno;go_wp2_with fail
   go_ret;exact⟨aI HN.out.symm,hb⟩
def sfB (s:List ay)(i:Nat)(x:Int)(q:ay):Bool:=q.kind==1&&q.item==x&& !J9 s q.tx i
def vZ (s:List ay)(i:Nat)(x:Int):Nat->Int
 |0=> -1
 |k+1=>match s[k]? with|some q=>if sfB s i x q then q.tx else vZ s i x k|none=>vZ s i x k
theorem Gs {s:List ay}{i:Nat}{x:Int}{k:Nat}{q:ay}(h:s[k]? =some q):vZ s i x (k+1)=if sfB s i x q then q.tx else vZ s i x k:=by simp only[vZ,h]
theorem Wj {s:List ay}(hv:aF s=true)(t:Int)(i:Nat):J9 s t i=(dz (s.take i) t==3):=by
 have hvt:aF (s.take i)=true:=xq hv (List.take_sublist i s);cases h:J9 s t i
 .symm
  rw[beq_eq_false_iff_ne];intro he;unfold dz at he;cases hf:(s.take i).find? (fun o=>o.tx==t&&aK o) with
  |none=>rw[hf] at he;simp at he
  |some o=>
   rw[hf] at he;have h1:=List.find?_some hf;simp only[Bool.and_eq_true,beq_iff_eq] at h1;unfold J9 at h;rw[List.any_eq_false] at h;refine h o (List.mem_of_find?_eq_some hf) ?_;simp only[Bool.and_eq_true,beq_iff_eq];exact⟨h1.1,by simpa using he⟩
 .symm
  unfold J9 at h;rw[List.any_eq_true] at h;obtain⟨o,ho,h⟩:=h;simp only[Bool.and_eq_true,beq_iff_eq] at h;obtain⟨k,hk⟩:=List.mem_iff_getElem?.1 ho;rw[<-h.1];have:=uY (s.take i) o.tx k o hk (fun j hj q hq=>by
   cases hq2:(q.tx==o.tx&&aK q)
   .rfl
   .simp only[Bool.and_eq_true,beq_iff_eq] at hq2;have:=lg hvt hq hk hq2.2 hq2.1;omega) (by simp[aK,h.2])
  rw[this,h.2];rfl
theorem aat {s:List ay}(hv:aF s=true)(i:Nat)(x:Int)(k:Nat):vZ s i x k=yK s i x k:=by
 induction k with
 |zero=>rfl
 |succ k ih=>
  cases e:s[k]? with
  |none=>simp only[vZ,yK,e];exact ih
  |some q=>
   rw[Gs e,Gq e,ih];unfold sfB rfB;rw[Wj hv];rfl
theorem DY (A:Option Addr)(n c k:Nat)(s:List ay)(o:ay)(w:World)(hx:aC w A n s)(ho:s[k]? =some o):
 Calls Tryz.prog 89 #[.slice A n c,.int .i64 (k:Int)] w fun e w'=>e=.returned (.int .i64 (vZ s k o.item k))/\Below w.heap.size w w':=by
 have hn:=hx.2.1;have hl:=hx.1;have hk:k<n:=by have:=(List.getElem?_eq_some_iff.1 ho).1;omega
 have HX:=ah hx;have HO:=ah ho;clear hx ho;have hkn:(k:Int)< (n:Int):=by omega
 have hk0:(0:Int)<=(k:Int):=by omega
 go_enter Tryz.func89,Tryz.ntmps89;go_wp2_with fail
 go_loopw [5] (fun i wr=> ∃j:Nat,j<=k/\i=.int .i64 ((j:Int) -1)/\Below w.heap.size w wr/\vZ s k o.item k=vZ s k o.item j) (fun i _=>(intOf i+1).toNat)
 case atStart=>exact⟨k,Nat.le_refl _,by go_num,Below.refl _ _,rfl⟩
 case round=>
  obtain⟨j,hj,rfl,hb,he⟩:=hrel;by_cases hz:0<j
  .obtain⟨q,rfl⟩: ∃q,j=q+1:=⟨j-1,by omega⟩
   have e1:(((q+1:Nat):Int) -1)=(q:Int):=by omega
   rw[e1];have iM:=HX.out.below hb aj;obtain⟨b,off,p,hA,hbl,hp,c0,c1,c2⟩:=iM.at_ (k:=q) (by omega)
   obtain⟨b',off',o',hA',_,ho',d0,d1,d2⟩:=iM.at_ hk;subst hA;injection hA' with hA';injection hA' with q1 q2 _;subst q1;subst q2;rw[HO.out] at ho';injection ho' with ho';subst ho';obtain⟨E,hE⟩: ∃E,J9 s p.tx k=E:=⟨_,rfl⟩;have hC: ∀u:Later wr,Calls Tryz.prog 137 #[.slice (some ⟨b,off,none⟩) n c,.int .i64 p.tx,.int .i64 (k:Int)] u.1 fun e w'=>e=.returned (.bool E)/\Below u.1.heap.size u.1 w':=fun u=>by
    have:=Fb (some ⟨b,off,none⟩) n c s p.tx k u.1 (iM.later u) (by omega);rw[hE] at this;exact this
   have hrs:=Gs (i:=k) (x:=o.item) hp;unfold sfB at hrs;rw[hE] at hrs;obtain⟨ptx,pk,RL⟩:=p;simp only at c0 c1 c2 hC hrs;obtain⟨b1,hb1⟩: ∃z,(pk==1)=z:=⟨_,rfl⟩;obtain⟨b2,hb2⟩: ∃z,(RL==o.item)=z:=⟨_,rfl⟩;obtain⟨b3,rfl⟩: ∃z,E=z:=⟨_,rfl⟩;rw[hb1,hb2] at hrs;have HC:=ah hC;have Wi:=ah hrs;have HE:=ah he;have L0:=Later.cell c0;have L1:=Later.cell c1;have L2:=Later.cell c2;have M2:=Later.cell d2;have hqn:(q:Int)< (n:Int):=by omega
   have hq0:(0:Int)<=(q:Int):=by omega
   clear hC hrs he hp c0 c1 c2 d0 d1 d2 iM e1 hE;cases b1
   .go_wp2_with fail
    refine aQ ?_;repeat(go_big_quiet_step ((go_at_call 137;exact aA _ (HC.out _))))
    refine wpQuiet_nil ?_;rintro _ ⟨u,rfl⟩;have hbu:=hb.trans (u.2.mono hb.size);go_wp2_with fail
    go_roundw
    case rel=>exact⟨q,by omega,by go_num,hbu,by rw[HE.out,Wi.out];rfl⟩
    case measure=>simp[intOf] <;>omega
   .cases b2
    .go_wp2_with fail
     refine aQ ?_;repeat(go_big_quiet_step ((go_at_call 137;exact aA _ (HC.out _))))
     refine wpQuiet_nil ?_;rintro _ ⟨u,rfl⟩;have hbu:=hb.trans (u.2.mono hb.size);go_wp2_with fail
     go_roundw
     case rel=>exact⟨q,by omega,by go_num,hbu,by rw[HE.out,Wi.out];rfl⟩
     case measure=>simp[intOf] <;>omega
    .cases E
     .go_wp2_with fail
      refine aQ ?_;repeat(go_big_quiet_step ((go_at_call 137;exact aA _ (HC.out _))))
      refine wpQuiet_nil ?_;rintro _ ⟨u,rfl⟩;have hbu:=hb.trans (u.2.mono hb.size);have l0:=L0 u;go_wp2_with fail
      go_ret;exact⟨gW (by rw[HE.out,Wi.out];rfl),hbu⟩
     .go_wp2_with fail
      refine aQ ?_;repeat(go_big_quiet_step ((go_at_call 137;exact aA _ (HC.out _))))
      refine wpQuiet_nil ?_;rintro _ ⟨u,rfl⟩;have hbu:=hb.trans (u.2.mono hb.size);go_wp2_with fail
      go_roundw
      case rel=>exact⟨q,by omega,by go_num,hbu,by rw[HE.out,Wi.out];rfl⟩
      case measure=>simp[intOf] <;>omega
  .obtain rfl:j=0:=by omega
   have HE:=ah he;clear he;go_wp2_with fail
   go_ret;exact⟨gW (by rw[HE.out];rfl),hb⟩
theorem Mw (A:Option Addr)(n c:Nat)(s:List ay)(t:Int)(w:World)(hx:aC w A n s):
 Calls Tryz.prog 55 #[.slice A n c,.int .i64 t] w fun e w'=>e=.returned (.int .i64 (dz s t))/\Below w.heap.size w w':=by
 have hn:=hx.2.1;have hl:=hx.1;have HX:=ah hx;clear hx;go_enter Tryz.func55,Tryz.ntmps55;go_wp2_with fail
 go_loopw [5] (fun x wr=> ∃k:Nat,k<=n/\x=.int .i64 k/\(∀j,j<k-> ∀o,s[j]? =some o->(o.tx==t&&aK o)=false)/\Below w.heap.size w wr) (fun x _=>n- (intOf x).toNat)
 case atStart=>exact⟨0,Nat.zero_le _,rfl,by omega,Below.refl _ _⟩
 case round=>
  obtain⟨k,hk,rfl,hno,hb⟩:=hrel;by_cases hlt:k<n
  .obtain⟨b,off,o,rfl,hbl,ho,c0,c1,c2⟩:=(HX.out.below hb aj).at_ hlt;have HN:Hid ((o.tx==t&&aK o)=false-> ∀j,j<k+1-> ∀o,s[j]? =some o->(o.tx==t&&aK o)=false):=fun h=>mh (p:=fun o=>o.tx==t&&aK o) ho hno h
   have HT:Hid ((o.tx==t&&aK o)=true->dz s t=o.kind):=fun h=>uY s t k o ho hno h
   clear hno ho;obtain⟨be,hbe⟩: ∃be,aK o=be:=⟨_,rfl⟩;have hC: ∀W:World,Calls Tryz.prog 87 #[o.val] W fun e w'=>e=.returned (.bool be)/\Below W.heap.size W w':=fun W=>by
    have:=bJ o W;rw[hbe] at this;exact this
   rw[hbe] at HN HT;clear hbe;obtain⟨tx,kd,it⟩:=o;unfold ay.val at hC;have HC:=ah hC;clear hC;simp only at HN HT c0 c1 c2;have L1:=Later.cell c1;have hs:=hb.size;by_cases h1:tx=t
   .subst h1;rw[beq_self_eq_true,Bool.true_and] at HN HT;go_wp2_with fail
    refine(HC.out _).mono ?_;rintro e w2 ⟨rfl,hb2⟩;have hbw:=hb.trans (hb2.mono hs);have l1:=L1 ⟨w2,hb2⟩;simp only at l1;clear hb2;cases be
    .have hz:=ah (HN.out (by first|rfl|trivial))
     go_wp2_with fail
     go_roundw
     case rel=>exact⟨k+1,by omega,by go_num,hz.out,hbw⟩
     case measure=>simp[intOf];omega
    .have hz:=ah (HT.out (by first|rfl|trivial))
     go_wp2_with fail
     go_ret;exact⟨gW (by rw[hz.out]),hbw⟩
   .have h1':(tx==t)=false:=by simpa using h1
    have hz:=ah (HN.out (by rw[h1'];rfl))
    go_wp2_with fail
    go_roundw
    case rel=>exact⟨k+1,by omega,by go_num,hz.out,hb⟩
    case measure=>simp[intOf];omega
  .have hz:Hid (dz s t= -1):=CW s t (fun j hj=>hno j (by omega))
   clear hno;go_wp2_with fail
   go_ret;exact⟨gW (by rw[hz.out]),hb⟩
def oI (a b:ay):Bool:=a.tx !=b.tx&& !aK a&& !aK b&&a.item==b.item&& (a.kind==1||b.kind==1)
theorem Oz {o:ay}(h:aJ o=true):(!aK o)=bU o:=by
 unfold aJ at h;simp only[Bool.and_eq_true,Bool.or_eq_true] at h;unfold aK bU at*;rcases h.2 with⟨h1,_⟩|⟨h1,_⟩
 .simp only[Bool.or_eq_true,beq_iff_eq] at h1;rcases h1 with h1|h1<;>rw[h1] <;>rfl
 .simp only[Bool.or_eq_true,beq_iff_eq] at h1;rcases h1 with h1|h1<;>rw[h1] <;>rfl
theorem yL {a b:ay}(ha:aJ a=true)(hb:aJ b=true):oI a b=fH a b:=by
 unfold oI fH;rw[Oz ha,Oz hb]
theorem mF (a b:ay)(w:World):
 Calls Tryz.prog 53 #[a.val,b.val] w fun e w'=>e=.returned (.bool (oI a b))/\Below w.heap.size w w':=by
 obtain⟨at_,ak,ai⟩:=a;obtain⟨bt,bk,bi⟩:=b;obtain⟨r1,h1⟩: ∃z,(at_ !=bt)=z:=⟨_,rfl⟩;obtain⟨r2,h2⟩: ∃z,aK ⟨at_,ak,ai⟩=z:=⟨_,rfl⟩;obtain⟨r3,h3⟩: ∃z,aK ⟨bt,bk,bi⟩=z:=⟨_,rfl⟩;obtain⟨r4,h4⟩: ∃z,(ai==bi)=z:=⟨_,rfl⟩;obtain⟨r5,h5⟩: ∃z,(ak==1)=z:=⟨_,rfl⟩;obtain⟨r6,h6⟩: ∃z,(bk==1)=z:=⟨_,rfl⟩;have HR:Hid (oI ⟨at_,ak,ai⟩ ⟨bt,bk,bi⟩=(r1&& !r2&& !r3&&r4&& (r5||r6))):=by
  show _=_
  unfold oI;simp only;rw[h1,h2,h3,h4,h5,h6]
 have hA: ∀W:World,Calls Tryz.prog 87 #[.agg #[.int .i64 at_,.int .i64 ak,.int .i64 ai]] W fun e w'=>e=.returned (.bool r2)/\Below W.heap.size W w':=fun W=>by
  have:=bJ ⟨at_,ak,ai⟩ W;rw[h2] at this;exact this
 have hB: ∀W:World,Calls Tryz.prog 87 #[.agg #[.int .i64 bt,.int .i64 bk,.int .i64 bi]] W fun e w'=>e=.returned (.bool r3)/\Below W.heap.size W w':=fun W=>by
  have:=bJ ⟨bt,bk,bi⟩ W;rw[h3] at this;exact this
 have HA:=ah hA;have HB:=ah hB;obtain⟨W,hW⟩: ∃W:World,W=(w.alloc (.cells #[.int .i64 at_,.int .i64 ak,.int .i64 ai] 89)).alloc (.cells #[.int .i64 bt,.int .i64 bk,.int .i64 bi] 89):=⟨_,rfl⟩;obtain⟨W1,hW1⟩: ∃W:World,W=w.alloc (.cells #[.int .i64 at_,.int .i64 ak,.int .i64 ai] 89):=⟨_,rfl⟩;obtain⟨L0,L1,L2,hbW1,hs1⟩:=kC hW1;rw[<-hW1] at hW;obtain⟨M0,M1,M2,hbW,hs2⟩:=kC hW;have hsz:W1.heap.size=w.heap.size+1:=by rw[hW1];simp
 rw[hsz] at M0 M1 M2;have hbb:=hbW1.trans (hbW.mono hbW1.size);have l0: ∀u:Later W,u.1.cell? ⟨w.heap.size,0,none⟩=some (.int .i64 at_):=fun u=>L0 ⟨u.1,hbW.trans (u.2.mono hbW.size)⟩
 have l1: ∀u:Later W,u.1.cell? ⟨w.heap.size,1,none⟩=some (.int .i64 ak):=fun u=>L1 ⟨u.1,hbW.trans (u.2.mono hbW.size)⟩
 have l2: ∀u:Later W,u.1.cell? ⟨w.heap.size,2,none⟩=some (.int .i64 ai):=fun u=>L2 ⟨u.1,hbW.trans (u.2.mono hbW.size)⟩
 have HW:Hid ((w.alloc (.cells #[.int .i64 at_,.int .i64 ak,.int .i64 ai] 89)).alloc (.cells #[.int .i64 bt,.int .i64 bk,.int .i64 bi] 89)=W):=by show _=_;rw[hW,hW1]
 unfold ay.val;clear hA hB hW hW1 L0 L1 L2 h2 h3;cases r1
 .go_enter Tryz.func53,Tryz.ntmps53;go_wp2_with fail
  go_ret;rw[HW.out];exact⟨aI (by rw[HR.out];rfl),hbb⟩
 .go_enter Tryz.func53,Tryz.ntmps53;go_wp2_with fail
  rw[HW.out];refine(HA.out W).mono ?_;rintro e w1 ⟨rfl,hb1⟩;have x0:=l0 ⟨w1,hb1⟩;have x2:=l2 ⟨w1,hb1⟩;have x1:=l1 ⟨w1,hb1⟩;have y0:=M0 ⟨w1,hb1⟩;have y1:=M1 ⟨w1,hb1⟩;have y2:=M2 ⟨w1,hb1⟩;simp only at x0 x1 x2 y0 y1 y2;have uf:=hbb.trans (hb1.mono hbb.size);cases r2
  .go_wp2_with fail
   refine(HB.out w1).mono ?_;rintro e w2 ⟨rfl,hb2⟩;have hbW2:=hb1.trans (hb2.mono hb1.size);have z1:=l1 ⟨w2,hbW2⟩;have z2:=l2 ⟨w2,hbW2⟩;have v1:=M1 ⟨w2,hbW2⟩;have v2:=M2 ⟨w2,hbW2⟩;simp only at z1 z2 v1 v2;have hbw2:=hbb.trans (hbW2.mono hbb.size);clear x0 x1 x2 y0 y1 y2 HA HB;cases r3
   .cases r4
    .go_wp2_with fail
     go_ret;exact⟨aI (by rw[HR.out];rfl),hbw2⟩
    .cases r5
     .cases r6
      .go_wp2_with fail
       go_ret;exact⟨aI (by rw[HR.out];rfl),hbw2⟩
      .go_wp2_with fail
       go_ret;exact⟨aI (by rw[HR.out];rfl),hbw2⟩
     .go_wp2_with fail
      go_ret;exact⟨aI (by rw[HR.out];rfl),hbw2⟩
   .go_wp2_with fail
    go_ret;exact⟨aI (by rw[HR.out];rfl),hbw2⟩
  .go_wp2_with fail
   go_ret;exact⟨aI (by rw[HR.out];rfl),uf⟩
theorem zT {s:List ay}{k:Nat}{o:ay}(h:s[k]? =some o):(s.take (k+1)).filter (fun o=>dz s o.tx==2)=(s.take k).filter (fun o=>dz s o.tx==2)++if dz s o.tx=2 then [o] else [] :=by
 rw[aR h,List.filter_append];by_cases e:dz s o.tx=2<;>simp[e]
theorem uD (A:Option Addr)(n c:Nat)(s:List ay)(w:World)(hx:aC w A n s):
 Calls Tryz.prog 34 #[.slice A n c] w (kD w (committed s)):=by
 have hn:=hx.2.1;have hl:=hx.1;have HX:=ah hx;clear hx;have HST:Hid ((w.alloc (.cells #[] 89)).ownsRow w.heap.size 89 3 (.slice (some ⟨w.heap.size,0,none⟩) 0 0) 0 (aB ((s.take 0).filter (fun o=>dz s o.tx==2)))):=
  World.ownsRow_made w #[] 0 aj (by decide) rfl
 go_enter Tryz.func34,Tryz.ntmps34;go_wp2_with fail
 go_loopw [3,4] (fun ov i wr=> ∃ (k m:Nat),k<=n/\m<=k/\i=.int .i64 k/\Below w.heap.size w wr/\wr.ownsRow w.heap.size 89 3 ov m (aB ((s.take k).filter (fun o=>dz s o.tx==2)))) (fun _ i _=>n- (intOf i).toNat)
 case atStart=>exact⟨0,0,Nat.zero_le _,Nat.le_refl _,rfl,aG.alloc aj _,HST.out⟩
 case round=>
  clear HST;obtain⟨k,m,hk,hmk,rfl,hb,hown⟩:=hrel;obtain⟨Ao,co,rfl,hmc⟩:=aD hown;by_cases hlt:k<n
  .have iM:=HX.out.below hb aj;obtain⟨b,off,o,rfl,hbl,ho,c0,c1,c2⟩:=iM.at_ hlt;have hs:=hb.size;have HT:=ah (zT ho);have hE:=Mw (some ⟨b,off,none⟩) n c s o.tx wr iM;obtain⟨E,hEE⟩: ∃E,dz s o.tx=E:=⟨_,rfl⟩;rw[hEE] at hE HT;have HE:=ah hE;have HOWN:=ah hown;clear ho hE hEE iM hown;obtain⟨tx,kd,it⟩:=o;simp only at HT c0 c1 c2 HE;have L0:=Later.cell c0;have L1:=Later.cell c1;have L2:=Later.cell c2;have hki:(k:Int)< (n:Int):=by omega
   go_wp2_with fail
   refine HE.out.mono ?_;rintro e w2 ⟨rfl,hb2⟩;have hown2:=own_below HOWN.out hb2;have hbw2:=hb.trans (hb2.mono hs);have x0:=L0 ⟨w2,hb2⟩;have x1:=L1 ⟨w2,hb2⟩;have x2:=L2 ⟨w2,hb2⟩;simp only at x0 x1 x2;have hs2:=hbw2.size;by_cases h1:E=2
   .rw[if_pos h1] at HT;subst h1;go_wp2_with (at_builtin;refine gX (.tmp 20) (.tmp 25) (hown2.alloc _) (by simp;omega) (aC.dB _ ⟨_,_,_⟩ _) (by omega) rfl rfl rfl rfl ?_;intro v3 w3 hown3 hg3 aU)
    have hb3:=Below.own hbw2 hown2 aj (World.grownBy.trans (World.grownBy_alloc w2 _ _) hg3);go_wp2_with fail
    go_roundw
    case rel=>exact⟨k+1,m+1,by omega,by omega,by go_num,hb3,by rw[HT.out];simpa using hown3⟩
    case measure=>simp[intOf];omega
   .rw[if_neg h1,List.append_nil] at HT;go_wp2_with fail
    go_roundw
    case rel=>exact⟨k+1,m,by omega,by omega,by go_num,hbw2,by rw[HT.out];exact hown2⟩
    case measure=>simp[intOf];omega
  .have e:s.take k=s:=List.take_of_length_le (by omega)
   rw[e] at hown;have HO:Hid (kD w (committed s) (.returned (.slice Ao m co)) wr):=kD.mk (c:=co) (g_ hown) hmc (bR.aH hown aj (by omega)) hb
   clear hown e;go_wp2_with fail
   go_ret;exact HO.out
structure iJ (w:World)(g:Nat)(rows:List Nat)(wr:World):Prop where
 below:Below w.heap.size w wr
 row:au wr g 3 (intCells (dD rows)++ [])
theorem iJ.later {w wr W:World}{g:Nat}{rows:List Nat}(h:iJ w g rows wr)(hb:Below wr.heap.size wr W):iJ w g rows W:=
 ⟨h.below.trans (hb.mono h.below.size),h.row.below hb aj⟩
theorem iJ.drew {w wr:World}{g:Nat}{rows:List Nat}(h:iJ w g rows wr):iJ w g rows wr.drew:=⟨h.below.drew,h.row⟩
theorem iJ.set {w wr:World}{g:Nat}{rows:List Nat}{T:Nat}{u:Int}(h:iJ w g rows wr)(hge:w.heap.size<=g)(hT:T<=3)(h4:dA rows){v:Int}
 (hv:v=((rows.getD T 0|||(1<<<u.toNat):Nat):Int)):iJ w g (jT rows T u) (wr.setCell ⟨g,T,none⟩ (.int .i64 v)):=by
 subst hv;refine⟨h.below.setCell (by simpa using hge) _,?_⟩
 rw[FZ];exact CZ h.row (by simp[dD,h4.1];omega)
theorem iJ.at_ {w wr:World}{g:Nat}{rows:List Nat}(h:iJ w g rows wr)(h4:dA rows){T:Nat}(hT:T<=3):wr.cell? ⟨g,T,none⟩=some (.int .i64 ((rows.getD T 0:Nat):Int))/\wr.frozen? ⟨g,T,none⟩=false/\rows.getD T 0<16:=by
 obtain⟨h1,h2⟩:=yt h4 hT;refine⟨h.row.cell ?_,h.row.frozen T,h2⟩;rw[List.append_nil];exact h1
theorem DZ (A:Option Addr)(n c:Nat)(s:List ay)(w:World)(hx:aC w A n s)(hv: ∀o∈s,aJ o=true):
 Calls Tryz.prog 33 #[.slice A n c] w (aT w (dD (qA s))):=by
 have hn:=hx.2.1;have hl:=hx.1;obtain⟨i0,hi,hz0,hz1,hz2⟩:=info_parts jI;have HX:=ah hx;have HV:=ah hv;have aau: ∀o∈s,0<=o.tx/\o.tx<=3:=fun o ho=>by
  have:=hv o ho;simp[aJ,xW] at this;omega
 have HR3:=ah aau;have HGI:Hid (qA s=jv s n):=by show _=_;unfold qA;rw[hl]
 clear hx hv aau;go_enter Tryz.func33,Tryz.ntmps33;go_wp2_with (at_make;refine wpList_make_full _ rfl _ _ 45 rfl w.heap.size 3 i0 _ 1 Tryz.underlying45 hi hz0 hz1 .i64 .i64 _ _ 4 rfl rfl rfl rfl (by rw[hz2];omega) (by unfold maxLen;omega) aj ?_;intro w1 hown1 hg1)
 have hb1:Below w.heap.size w w1:=⟨hg1.os,hg1.tape,hg1.output,hg1.size,fun k hk=>hg1.block k hk (by simp)⟩
 have hrow:au w1 w.heap.size 3 (intCells (dD [0,0,0,0])++ []):=by
  rcases hown1.2 with⟨h1,_⟩|⟨g,cap,cur,h1,h2,h3,h4,h5,h6,h7⟩
  .cases h1
  .injection h1 with ha hb hc;injection ha with ha;injection ha with ha;subst ha;subst hc;unfold au;rw[h3];congr 2
   apply Array.ext'
   rw[List.take_of_length_le (by simpa using Nat.le_of_eq h6)] at h7
   rw[h7,uZ];rfl
 have HST:Hid (iJ w w.heap.size (jv s 0) w1):=⟨hb1,hrow⟩;clear hown1 hb1 hg1 hrow hi hz0 hz1 hz2;go_loopw [4] (fun i wr=> ∃k:Nat,k<=n/\i=.int .i64 k/\iJ w w.heap.size (jv s k) wr) (fun i _=>n- (intOf i).toNat)
 case atStart=>exact⟨0,Nat.zero_le _,rfl,HST.out⟩
 case round=>
  clear HST;obtain⟨wo,rfl⟩: ∃wo:World,wo=wr:=⟨_,rfl⟩;obtain⟨k,hk,rfl,hI⟩:=hrel;have HI:=ah hI;by_cases hlt:k<n
  .have hxo:=HX.out.below hI.below aj;obtain⟨b,off,a,hA,hbl,ha,c0,c1,c2⟩:=hxo.at_ hlt;subst hA;have aav:=HR3.out a (List.mem_of_getElem? ha);have hav:=HV.out a (List.mem_of_getElem? ha);have Wl:=ah (zI ha);have aaw:=vB HR3.out k;have xw:=ah aaw;generalize hRR:jv s k=RO at*;have HRR:=ah hRR;have HAV:=ah hav;have HXO:=ah hxo;have hki:(k:Int)< (n:Int):=by omega
   have hk0:(0:Int)<=(k:Int):=by omega
   have HA:=ah ha;clear hI ha aaw hRR hav hxo c0 c1 c2;obtain⟨atx,ak,ai⟩:=a;simp only at aav;obtain⟨T,rfl⟩:=Int.eq_ofNat_of_zero_le aav.1;have Bc:T<=3:=by omega
   go_wp2_with fail
   go_loopw [5] (fun i wr=> ∃q:Nat,k+1+q<=n/\i=.int .i64 ((k+1+q:Nat):Int)/\iJ w w.heap.size (kI s k ⟨(T:Int),ak,ai⟩ RO q) wr) (fun i _=>n- (intOf i).toNat)
   case atStart=>exact⟨0,by omega,by go_num,HI.out⟩
   case round=>
    clear HI;obtain⟨wi,rfl⟩: ∃wi:World,wi=wr:=⟨_,rfl⟩;obtain⟨q,hq,rfl,hJ⟩:=hrel;have HJ:=ah hJ;have hJb:=hJ.below;obtain⟨K,hK⟩: ∃K:Nat,k+1+q=K:=⟨_,rfl⟩;by_cases hltk:k+1+q<n
    .have hxi:=HX.out.below hJb aj;obtain⟨b1,off1,a1,hA1,acn,ha1,c0,c1,c2⟩:=hxi.at_ hlt;injection hA1 with hA1;injection hA1 with q1 q2 _;subst q1;subst q2;rw[HA.out] at ha1;injection ha1 with ha1;subst ha1;obtain⟨b2,off2,p,hA2,YC,hp,d0,d1,d2⟩:=hxi.at_ hltk;injection hA2 with hA2;injection hA2 with q1 q2 _;subst q1;subst q2;have PW:=HR3.out p (List.mem_of_getElem? hp);have hpv:=HV.out p (List.mem_of_getElem? hp);have hsn:=xB (a:=⟨(T:Int),ak,ai⟩) (rows:=RO) hp;have hok2:dA (kI s k ⟨(T:Int),ak,ai⟩ RO q):=yF HR3.out xw.out q;obtain⟨ptx,pk,pi⟩:=p;simp only at PW d0 d1 d2 c0 c1 c2;obtain⟨U,rfl⟩:=Int.eq_ofNat_of_zero_le PW.1;have hU3:U<=3:=by omega
     obtain⟨cb,hcb⟩: ∃cb,fH ⟨(T:Int),ak,ai⟩ ⟨(U:Int),pk,pi⟩=cb:=⟨_,rfl⟩;have hcf: ∀u:Later wi,Calls Tryz.prog 53 #[.agg #[.int .i64 (T:Int),.int .i64 ak,.int .i64 ai],.agg #[.int .i64 (U:Int),.int .i64 pk,.int .i64 pi]] u.1 fun e w'=>e=.returned (.bool cb)/\Below u.1.heap.size u.1 w':=fun u=>by
      have:=mF ⟨(T:Int),ak,ai⟩ ⟨(U:Int),pk,pi⟩ u.1;rw[yL HAV.out hpv,hcb] at this;exact this
     unfold ug at hsn;rw[hcb] at hsn;have XF:=ah hsn;have aax:=ah hok2;have O9:=ah hcf;rw[hK] at d0 d1 d2 hltk ⊢;have L0:=Later.cell c0;have L1:=Later.cell c1;have L2:=Later.cell c2;have M0:=Later.cell d0;have M1:=Later.cell d1;have M2:=Later.cell d2;have hKi:(K:Int)< (n:Int):=by omega
     have hK0:(0:Int)<=(K:Int):=by omega
     have HKK:=ah hK;clear hcf hcb hsn hok2 hp hxi hJ hpv d0 d1 d2 c0 c1 c2 hK;go_wp2_with fail
     refine aQ ?_;repeat(go_big_quiet_step ((go_at_call 53;exact aA _ (O9.out _))))
     refine wpQuiet_nil ?_;rintro _ ⟨u,rfl⟩;have HJU:=ah (HJ.out.later u.2);cases cb
     .have hn2:Hid (iJ w w.heap.size (kI s k ⟨(T:Int),ak,ai⟩ RO (q+1)) u.1):=by show iJ _ _ _ _;rw[XF.out];exact HJU.out
      clear XF O9;go_wp2_with fail
      go_roundw
      case rel=>exact⟨q+1,by have:=HKK.out;omega,by have:=HKK.out;go_num,hn2.out⟩
      case measure=>have:=HKK.out;simp[intOf];omega
     .obtain⟨hcr,hfz,xH⟩:=HJU.out.at_ aax.out Bc;have n0:=L0 u;have m0:=M0 u;obtain⟨uj,huj⟩: ∃uj:World,u.1=uj:=⟨_,rfl⟩;rw[huj] at HJU hcr hfz n0 m0;rw[huj];obtain⟨r,hr⟩: ∃r,(kI s k ⟨(T:Int),ak,ai⟩ RO q).getD T 0=r:=⟨_,rfl⟩;obtain⟨wd,hwd⟩: ∃wd:World,wd=uj.drew:=⟨_,rfl⟩;have hP2:(2^U:Nat)<16:=by
       rcases(by omega:U=0\/U=1\/U=2\/U=3) with e|e|e|e<;>rw[e] <;>decide
      have m_:Hid (∀v:Int,v=((r|||2^U:Nat):Int)->iJ w w.heap.size (kI s k ⟨(T:Int),ak,ai⟩ RO (q+1)) (wd.setCell ⟨w.heap.size,T,none⟩ (.int .i64 v))):=by
       intro v hv;rw[XF.out,if_pos rfl,hwd];exact HJU.out.drew.set aj Bc aax.out (by rw[hr,hv,Int.toNat_natCast,Nat.one_shiftLeft])
      rw[hr] at hcr xH;have hor:=jl r (2^U) (by omega) (by omega)
      have hPW: ∀W:World,Calls Tryz.prog 54 #[.int .i64 (U:Int)] W fun e w'=>e=.returned (.int .i64 ((2^U:Nat):Int))/\w'=W:=fun W=>(xg U W (by omega)).mono fun e w' h=>⟨h.1,h.2.symm⟩
      generalize hPP:2^U=p2 at*;have HPW:=ah hPW;have Wm:(T:Int)<4:=by omega
      have hT0:(0:Int)<=(T:Int):=by omega
      have aay:wd.cell? ⟨w.heap.size,T,none⟩=some (.int .i64 (r:Int)):=by rw[hwd];exact hcr
      have aaz:wd.frozen? ⟨w.heap.size,T,none⟩=false:=by rw[hwd];exact hfz
      have HHS:=ah hP2;clear hr huj O9 L0 L1 L2 M0 M1 M2 XF hPP hPW hP2;go_wp2_with fail
      refine wp_region_still_tail 22 (by kernel_rfl) (by kernel_rfl) ?_
      simp only[List.take_succ_cons,List.take_zero,List.drop_succ_cons,List.drop_zero];repeat(first|still_step|still_call (HPW.out _))
      refine wpStill_nil ?_;change wpList _ _ _ _ _ uj.drew;rw[<-hwd];go_wp2_with fail
      go_roundw
      case rel=>exact⟨q+1,by have:=HKK.out;omega,by have:=HKK.out;go_num,by first|exact m_.out _ rfl|(have h:=m_.out _ rfl;rw[hwd] at h;exact h)⟩
      case measure=>have:=HKK.out;simp[intOf];omega
    .have hfin:Hid (iJ w w.heap.size (jv s (k+1)) wi):=by
      show iJ _ _ _ _
      rw[Wl.out];have:s.length- (k+1)=q:=by omega
      rw[this];exact HJ.out
     rw[hK] at hltk ⊢;have hKi: ¬(K:Int)< (n:Int):=by omega
     have HKK:=ah hK;clear hJ hK;go_wp2_with fail
     go_roundw
     case rel=>exact⟨k+1,by omega,by go_num,hfin.out⟩
     case measure=>simp[intOf];omega
  .obtain rfl:k=n:=by omega
   have hok:=vB HR3.out k;have hl4:(dD (jv s k)).length=4:=by simp[dD,hok.1]
   have HO:Hid (aT w (dD (qA s)) (.returned (.slice (some ⟨w.heap.size,0,none⟩) 4 4)) wo):=by
    show aT _ _ _ _
    rw[HGI.out];refine aT.mk hl4 aj ⟨hI.row.ints hl4 (by omega),fun ad had=>?_⟩ hI.below
    injection had with had;subst had;exact⟨_,_,rfl,Nat.le_refl _,hI.row,by simp[intCells,hl4]⟩
   clear hI hok;go_wp2_with fail
   go_ret;exact HO.out
theorem Tk {W:List ay}{i k:Nat}{o p:ay}(hi:W[i]? =some o)(hk:W[k]? =some p)(hki:k<i)(h:p.tx=o.tx):dV W i=false:=by
 unfold dV;rw[hi];simp only;rw[List.all_eq_false];exact⟨p,List.mem_iff_getElem?.2 ⟨k,by rw[List.getElem?_take_of_lt hki];exact hk⟩,by simp[h]⟩
theorem Tm {W:List ay}{i:Nat}{o:ay}(hi:W[i]? =some o)(h: ∀k p,k<i->W[k]? =some p->p.tx≠o.tx):dV W i=true:=by
 unfold dV;rw[hi];simp only;rw[List.all_eq_true];intro p hp;obtain⟨k,hk⟩:=List.mem_iff_getElem?.1 hp;have hl:=(List.getElem?_eq_some_iff.1 hk).1;rw[List.length_take] at hl;rw[List.getElem?_take_of_lt (by omega)] at hk
 simpa using h k p (by omega) hk
theorem dn (A:Option Addr)(n c:Nat)(W:List ay)(i:Nat)(w:World)(hx:aC w A n W)(hi:i<n):
 Calls Tryz.prog 94 #[.slice A n c,.int .i64 (i:Int)] w fun e w'=>e=.returned (.bool (dV W i))/\Below w.heap.size w w':=by
 have hn:=hx.2.1;have HX:=ah hx;obtain⟨b,off,oi,hA,_,hoi,_⟩:=hx.at_ hi;subst hA;have HOI:=ah hoi;clear hx hoi;go_enter Tryz.func94,Tryz.ntmps94;go_wp2_with fail
 go_loopw [5] (fun k wr=> ∃q:Nat,q<=i/\k=.int .i64 q/\Below w.heap.size w wr/\ ∀k p,k<q->W[k]? =some p->p.tx≠oi.tx) (fun k _=>i- (intOf k).toNat)
 case atStart=>exact⟨0,Nat.zero_le _,rfl,Below.refl _ _,by omega⟩
 case round=>
  obtain⟨q,hq,rfl,hb,hno⟩:=hrel;have kJ:=ah hno;clear hno;by_cases hlt:q<i
  .have iM:=HX.out.below hb aj;obtain⟨b1,off1,p,hA1,hbl,hp,c0,_,_⟩:=iM.at_ (k:=q) (by omega)
   obtain⟨b2,off2,o2,hA2,_,ho2,d0,_,_⟩:=iM.at_ hi;injection hA1 with hA1;injection hA1 with e1 e2 _;subst e1;subst e2;injection hA2 with hA2;injection hA2 with e1 e2 _;subst e1;subst e2;rw[HOI.out] at ho2;injection ho2 with ho2;subst ho2;have L0:=Later.cell c0;have M0:=Later.cell d0;have HP:=ah hp;have hqi:(q:Int)< (i:Int):=by omega
   have hq0:(0:Int)<=(q:Int):=by omega
   have hqn:(q:Int)< (n:Int):=by omega
   have hin:(i:Int)< (n:Int):=by omega
   have hi0:(0:Int)<=(i:Int):=by omega
   clear iM hp c0 d0;obtain⟨b1,hb1⟩: ∃z,(p.tx==oi.tx)=z:=⟨_,rfl⟩;obtain⟨ptx,PW⟩: ∃z,p.tx=z:=⟨_,rfl⟩;obtain⟨otx,YD⟩: ∃z,oi.tx=z:=⟨_,rfl⟩;rw[PW] at L0 hb1;rw[YD] at M0 hb1;have HE:=ah (And.intro PW YD);clear PW YD;go_wp2_with fail
   refine aQ ?_;repeat(go_big_quiet_step (fail))
   refine wpQuiet_nil ?_;rintro _ ⟨u,rfl⟩;have hbu:=hb.trans (u.2.mono hb.size);cases b1
   .go_wp2_with fail
    go_roundw
    case rel=>
     refine⟨q+1,by omega,by go_num,hbu,fun k p' hk hp'=>?_⟩
     by_cases e:k=q
     .subst e;rw[HP.out] at hp';injection hp' with hp';subst hp';rw[HE.out.1,HE.out.2];simpa using hb1
     .exact kJ.out k p' (by omega) hp'
    case measure=>simp[intOf];omega
   .have HF:Hid (dV W i=false):=Tk HOI.out HP.out hlt (by rw[HE.out.1,HE.out.2];simpa using hb1)
    go_wp2_with fail
    go_ret;exact⟨aI HF.out.symm,hbu⟩
  .obtain rfl:q=i:=by omega
   have HF:Hid (dV W q=true):=Tm HOI.out kJ.out;go_wp2_with fail
   go_ret;exact⟨aI HF.out.symm,hb⟩
end Go.Proofs.YtddkjbibjjehjaaGreatDoor
