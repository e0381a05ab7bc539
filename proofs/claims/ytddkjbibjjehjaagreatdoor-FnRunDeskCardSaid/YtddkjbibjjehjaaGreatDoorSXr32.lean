/-
  Texts that the proof rests on, joined: part 32.
-/
import Derived.Test.YtddkjbibjjehjaaGreatDoorSXr31
set_option maxHeartbeats 16000000
set_option maxRecDepth 100000
namespace Go.Proofs.YtddkjbibjjehjaaGreatDoor
open Go.RowKit Go.BigFrame
set_option linter.unusedVariables false
def metIn (s:List ay)(k:Nat)(q o p:ay):Bool:=o.tx==q.tx&&fH o p&&dz (s.take k) p.tx==2
def oW (s:List ay)(k:Nat)(q o:ay)(j:Nat):Nat->Bool
 |0=>false
 |m+1=>oW s k q o j m||match s[j+1+m]? with|some p=>metIn s k q o p|none=>false
def qb (s:List ay)(k:Nat)(q:ay):Nat->Bool
 |0=>false
 |j+1=>qb s k q j||match s[j]? with|some o=>oW s k q o j (k- (j+1))|none=>false
def nM (s:List ay)(k:Nat):Bool:=match s[k]? with|some q=>q.kind==2&&qb s k q k|none=>false
theorem Nk (A:Option Addr)(n c k:Nat)(s:List ay)(w:World)(hx:aC w A n s)(hnc:n<=c)(hk:k<n):
 Calls Tryz.prog 122 #[.slice A n c,.int .i64 (k:Int)] w fun e w'=>e=.returned (.bool (nM s k))/\Below w.heap.size w w':=by
 have hl:=hx.1;have hn:=hx.2.1;obtain⟨b,off,q,rfl,hbl,hq,c0,c1,c2⟩:=hx.at_ hk;have hC0:nM s k=(q.kind==2&&qb s k q k):=by unfold nM;rw[hq]
 have P8:=ah hC0;have HX:=ah hx;obtain⟨qt,qk,qi⟩:=q;simp only at c0 c1 c2 P8;clear hx hC0 hq;have hki:(k:Int)< (n:Int):=by omega
 have hk0:(0:Int)<=(k:Int):=by omega
 have hkc:(k:Int)<=(c:Int):=by omega
 by_cases h2:qk=2
 .subst h2;go_enter Tryz.func122,Tryz.ntmps122;go_wp2_with fail
  go_loopw [19] (fun i wr=> ∃j:Nat,j<=k/\i=.int .i64 j/\Below w.heap.size w wr/\qb s k ⟨qt,2,qi⟩ j=false) (fun i _=>k- (intOf i).toNat)
  case atStart=>exact⟨0,Nat.zero_le _,rfl,Below.refl _ _,rfl⟩
  case round=>
   obtain⟨wo,rfl⟩: ∃wo:World,wo=wr:=⟨_,rfl⟩;obtain⟨j,hj,rfl,nE,hno⟩:=hrel;by_cases hlt:j<k
   .obtain⟨b',off',o,hA',_,ho,e0,e1,e2⟩:=(HX.out.below nE aj).at_ (k:=j) (by omega)
    injection hA' with hA';injection hA' with q1 q2 _;subst q1;subst q2;have hup:qb s k ⟨qt,2,qi⟩ (j+1)=oW s k ⟨qt,2,qi⟩ o j (k- (j+1)):=by
     simp only[qb,ho,hno,Bool.false_or]
    have HU:=ah hup;obtain⟨ot,ok,oi⟩:=o;simp only at e0 e1 e2;obtain⟨W,hW⟩: ∃W:World,W=wo.alloc (.cells #[.int .i64 ot,.int .i64 ok,.int .i64 oi] 89):=⟨_,rfl⟩;obtain⟨L0,L1,L2,hbW,hWs⟩:=kC hW;have HW:=ah hW;have hji:(j:Int)< (k:Int):=by omega
    have hj0:(0:Int)<=(j:Int):=by omega
    have hj1:((j:Int)+1)<=(k:Int):=by omega
    have jZ:=nE.trans (hbW.mono nE.size);have hmax:Hid (∀m,m<=k- (j+1)->oW s k ⟨qt,2,qi⟩ ⟨ot,ok,oi⟩ j m=true->oW s k ⟨qt,2,qi⟩ ⟨ot,ok,oi⟩ j (k- (j+1))=true):=by
     intro m hm h;obtain⟨d,hd⟩:=Nat.le.dest hm;rw[<-hd];clear hd;induction d with
     |zero=>exact h
     |succ d ih=>show(oW s k ⟨qt,2,qi⟩ ⟨ot,ok,oi⟩ j (m+d)||_)=true;rw[ih];rfl
    have HUT:Hid (qb s k ⟨qt,2,qi⟩ (j+1)=true->nM s k=true):=by
     intro h;rw[P8.out];have: ∀d,qb s k ⟨qt,2,qi⟩ (j+1+d)=true:=by
      intro d;induction d with
      |zero=>exact h
      |succ d ih=>show(qb s k ⟨qt,2,qi⟩ (j+1+d)||_)=true;rw[ih];rfl
     have h3:=this (k- (j+1));rw[Nat.add_sub_cancel' (by omega)] at h3
     rw[h3];rfl
    have hjc: ¬(j+1=c):=by omega
    have abR: ¬((j:Int)+1=(c:Int)):=by omega
    have abS: ¬(c<=j+1):=by omega
    have hjw:IntKind.i64.wrap ((j:Int)+1)=(j:Int)+1:=IntWalk.i64_in _ (by omega)
    have hjt:((j:Int)+1).toNat=j+1:=by omega
    clear hW hup ho hno;obtain⟨M,hM⟩: ∃M:Nat,M=k- (j+1):=⟨_,rfl⟩;have hMi:(k:Int) - ((j:Int)+1)=(M:Int):=by omega
    go_wp2_with fail
    rw[<-HW.out];go_loopw [30] (fun i wr=> ∃m:Nat,m<=M/\i=.int .i64 m/\Below W.heap.size W wr/\oW s k ⟨qt,2,qi⟩ ⟨ot,ok,oi⟩ j m=false) (fun i _=>M- (intOf i).toNat)
    case atStart=>exact⟨0,Nat.zero_le _,rfl,Below.refl _ _,rfl⟩
    case round=>
     obtain⟨wi,rfl⟩: ∃wi:World,wi=wr:=⟨_,rfl⟩;obtain⟨m,hm,rfl,hbi,hnm⟩:=hrel;have jP:=jZ.trans (hbi.mono jZ.size);by_cases acH:m<M
     .obtain⟨b',off',p,hA',_,hp,f0,f1,f2⟩:=(HX.out.below jP aj).at_ (k:=j+1+m) (by omega)
      injection hA' with hA';injection hA' with q1 q2 _;subst q1;subst q2;obtain⟨E,hE⟩: ∃E,dz (s.take k) p.tx=E:=⟨_,rfl⟩;obtain⟨r1,hr1⟩: ∃z,(ot==qt)=z:=⟨_,rfl⟩;obtain⟨r2,hr2⟩: ∃z,fH ⟨ot,ok,oi⟩ p=z:=⟨_,rfl⟩;obtain⟨r3,hr3⟩: ∃z,(E==2)=z:=⟨_,rfl⟩;have hnx:oW s k ⟨qt,2,qi⟩ ⟨ot,ok,oi⟩ j (m+1)=(r1&&r2&&r3):=by
       simp only[oW,hp,hnm,Bool.false_or];unfold metIn;rw[hE,hr2,hr3];simp only;rw[hr1]
      have gZ:=ah hnx;have hCf: ∀u:Later (wi.alloc (.cells #[.int .i64 p.tx,.int .i64 p.kind,.int .i64 p.item] 89)),Calls Tryz.prog 123 #[.agg #[.int .i64 ot,.int .i64 ok,.int .i64 oi],.agg #[.int .i64 p.tx,.int .i64 p.kind,.int .i64 p.item]] u.1 fun e w'=>e=.returned (.bool r2)/\Below u.1.heap.size u.1 w':=fun u=>by
       have:=mq ⟨ot,ok,oi⟩ p u.1;rw[hr2] at this;exact this
      have WS: ∀u:Later wi,Calls Tryz.prog 124 #[.slice (some ⟨b,off,none⟩) k c,.int .i64 p.tx] u.1 fun e w'=>e=.returned (.int .i64 E)/\Below u.1.heap.size u.1 w':=fun u=>by
       have:=lW (some ⟨b,off,none⟩) k c (s.take k) p.tx u.1 (((HX.out.below jP aj).take (by omega)).later u);rw[hE] at this;exact this
      obtain⟨pt,pk,RL⟩:=p;simp only at f0 f1 f2 hCf WS;obtain⟨W3,hW3⟩: ∃W:World,W=wi.alloc (.cells #[.int .i64 pt,.int .i64 pk,.int .i64 RL] 89):=⟨_,rfl⟩;rw[<-hW3] at hCf;obtain⟨M0,M1,M2,WT,acI⟩:=kC hW3;have HW3:=ah hW3;have HC:=ah hCf;have hE3: ∀u:Later W3,Calls Tryz.prog 124 #[.slice (some ⟨b,off,none⟩) k c,.int .i64 pt] u.1 fun e w'=>e=.returned (.int .i64 E)/\Below u.1.heap.size u.1 w':=fun u=>WS ⟨u.1,WT.trans (u.2.mono WT.size)⟩
      have HE:=ah hE3;have BR:=hbi.trans (WT.mono hbi.size);have WU:=jP.trans (WT.mono jP.size);have l0: ∀u:Later W3,u.1.cell? ⟨wo.heap.size,0,none⟩=some (.int .i64 ot):=fun u=>L0 ⟨u.1,BR.trans (u.2.mono BR.size)⟩
      have l1: ∀u:Later W3,u.1.cell? ⟨wo.heap.size,1,none⟩=some (.int .i64 ok):=fun u=>L1 ⟨u.1,BR.trans (u.2.mono BR.size)⟩
      have l2: ∀u:Later W3,u.1.cell? ⟨wo.heap.size,2,none⟩=some (.int .i64 oi):=fun u=>L2 ⟨u.1,BR.trans (u.2.mono BR.size)⟩
      have n0: ∀u:Later W3,u.1.cell? ⟨b,off+k*3,none⟩=some (.int .i64 qt):=fun u=>Later.cell c0 ⟨u.1,WU.trans (u.2.mono WU.size)⟩
      have eo:off+(j+1)*3+m*3=off+(j+1+m)*3:=by omega
      have g0:wi.cell? ⟨b,off+(j+1)*3+m*3,none⟩=some (.int .i64 pt):=by rw[eo];exact f0
      have g1:wi.cell? ⟨b,off+(j+1)*3+m*3+1,none⟩=some (.int .i64 pk):=by rw[eo];exact f1
      have g2:wi.cell? ⟨b,off+(j+1)*3+m*3+2,none⟩=some (.int .i64 RL):=by rw[eo];exact f2
      have OL:(m:Int)< (M:Int):=by omega
      have hm0:(0:Int)<=(m:Int):=by omega
      clear hCf WS hE3 hW3 hp hnx hnm eo f0 f1 f2 hE hr2;go_wp2_with fail
      rw[<-HW3.out];clear g0 g1 g2;cases r1
      .refine aQ ?_;repeat(go_big_quiet_step ((first|(go_at_call 123;exact aA _ (HC.out _))|(go_at_call 124;exact aA _ (HE.out _)))))
       refine wpQuiet_nil ?_;rintro _ ⟨u,rfl⟩;have hbu:=BR.trans (u.2.mono BR.size);go_wp2_with fail
       go_roundw
       case rel=>exact⟨m+1,by omega,by go_num,hbu,by rw[gZ.out];rfl⟩
       case measure=>simp[intOf];omega
      .cases r2
       .refine aQ ?_;repeat(go_big_quiet_step ((first|(go_at_call 123;exact aA _ (HC.out _))|(go_at_call 124;exact aA _ (HE.out _)))))
        refine wpQuiet_nil ?_;rintro _ ⟨u,rfl⟩;have hbu:=BR.trans (u.2.mono BR.size);go_wp2_with fail
        go_roundw
        case rel=>exact⟨m+1,by omega,by go_num,hbu,by rw[gZ.out];rfl⟩
        case measure=>simp[intOf];omega
       .cases r3
        .refine aQ ?_;repeat(go_big_quiet_step ((first|(go_at_call 123;exact aA _ (HC.out _))|(go_at_call 124;exact aA _ (HE.out _)))))
         refine wpQuiet_nil ?_;rintro _ ⟨u,rfl⟩;have hbu:=BR.trans (u.2.mono BR.size);go_wp2_with fail
         go_roundw
         case rel=>exact⟨m+1,by omega,by go_num,hbu,by rw[gZ.out];rfl⟩
         case measure=>simp[intOf];omega
        .have hend:Hid (nM s k=true):=by
          refine HUT.out ?_;rw[HU.out,<-hM];have:=hmax.out (m+1) (by omega) gZ.out
          rw[<-hM] at this;exact this
         refine aQ ?_;repeat(go_big_quiet_step ((first|(go_at_call 123;exact aA _ (HC.out _))|(go_at_call 124;exact aA _ (HE.out _)))))
         refine wpQuiet_nil ?_;rintro _ ⟨u,rfl⟩;have hbu:=WU.trans (u.2.mono WU.size);go_wp2_with fail
         go_ret;exact⟨aI hend.out.symm,hbu⟩
     .have hfin:Hid (qb s k ⟨qt,2,qi⟩ (j+1)=false):=by
       show _=_
       rw[HU.out,<-hM];have:m=M:=by omega
       rw[<-this];exact hnm
      clear hnm;go_wp2_with fail
      go_roundw
      case rel=>exact⟨j+1,by omega,by go_num,jP,hfin.out⟩
      case measure=>simp[intOf];omega
   .have hfin:Hid (nM s k=false):=by
     show _=_
     rw[P8.out];have:j=k:=by omega
     rw[<-this] at hno ⊢;rw[hno];rfl
    clear hno;go_wp2_with fail
    go_ret;exact⟨aI hfin.out.symm,nE⟩
 .have hfin:Hid (nM s k=false):=by
   show _=_
   rw[P8.out];have:(qk==2)=false:=by simpa using h2
   rw[this];rfl
  go_enter Tryz.func122,Tryz.ntmps122;go_wp2_with fail
  go_ret;exact⟨aI hfin.out.symm,Below.refl _ _⟩
theorem Nl:Runs 121:=dG Tryz.func121 (by kernel_rfl) rfl
theorem QY (o q:ay)(A:Option Addr)(n c b5 b3 b4 k:Nat)(s:List ay)(w:World)(h5:w.cell? ⟨b5,0,none⟩=some (.func (.func 121) #[] #[]))(h3:w.cell? ⟨b3,0,none⟩=some (.slice A n c))(h4:w.cell? ⟨b4,0,none⟩=some (.int .i64 (k:Int)))(hx:aC w A n s)(hk:k<n)(hnc:n<=c)(hq:s[k]? =some q):
 Calls Tryz.prog 160 #[o.val,.pointer (some ⟨b5,0,none⟩),.pointer (some ⟨b3,0,none⟩),.pointer (some ⟨b4,0,none⟩)] w fun e w'=>e=.returned (.bool (bU o&&fH o q&&decide (dz (s.take k) o.tx<0)))/\Below w.heap.size w w':=by
 have hn:=hx.2.1;obtain⟨b,off,q',rfl,hbl,ho,c0,c1,c2⟩:=hx.at_ hk;rw[hq] at ho;injection ho with ho;subst ho;obtain⟨r1,hr1⟩: ∃z,bU o=z:=⟨_,rfl⟩;obtain⟨r2,hr2⟩: ∃z,fH o q=z:=⟨_,rfl⟩;obtain⟨E,hE⟩: ∃z,dz (s.take k) o.tx=z:=⟨_,rfl⟩;obtain⟨r3,hr3⟩: ∃z,decide (E<0)=z:=⟨_,rfl⟩;rw[hr1,hr2,hE,hr3];obtain⟨t,kd,x⟩:=o;obtain⟨W,hW⟩: ∃W:World,W=w.alloc (.cells #[.int .i64 t,.int .i64 kd,.int .i64 x] 89):=⟨_,rfl⟩;obtain⟨L0,L1,L2,hbW,hWs⟩:=kC hW;have QX:=hx.below hbW aj;have hT: ∀u:Later W,Calls Tryz.prog 121 #[.agg #[.int .i64 t,.int .i64 kd,.int .i64 x]] u.1 fun e w'=>e=.returned (.bool r1)/\Below u.1.heap.size u.1 w':=fun u=>by
  have:=oh ⟨t,kd,x⟩ u.1;rw[hr1] at this;exact this
 have hC: ∀u:Later W,Calls Tryz.prog 123 #[.agg #[.int .i64 t,.int .i64 kd,.int .i64 x],.agg #[.int .i64 q.tx,.int .i64 q.kind,.int .i64 q.item]] u.1 fun e w'=>e=.returned (.bool r2)/\Below u.1.heap.size u.1 w':=fun u=>by
  have:=mq ⟨t,kd,x⟩ q u.1;rw[hr2] at this;exact this
 have WS: ∀u:Later W,Calls Tryz.prog 124 #[.slice (some ⟨b,off,none⟩) k c,.int .i64 t] u.1 fun e w'=>e=.returned (.int .i64 E)/\Below u.1.heap.size u.1 w':=fun u=>by
  have:=lW (some ⟨b,off,none⟩) k c (s.take k) t u.1 ((QX.take (by omega)).later u);simp only at hE;rw[hE] at this;exact this
 have HT:=ah hT;have HC:=ah hC;have HE:=ah WS;have HW:=ah hW;have M5: ∀u:Later W,u.1.cell? ⟨b5,0,none⟩=some (.func (.func 121) #[] #[]):=fun u=>Later.cell h5 ⟨u.1,hbW.trans (u.2.mono hbW.size)⟩
 have M3: ∀u:Later W,u.1.cell? ⟨b3,0,none⟩=some (.slice (some ⟨b,off,none⟩) n c):=fun u=>Later.cell h3 ⟨u.1,hbW.trans (u.2.mono hbW.size)⟩
 have M4: ∀u:Later W,u.1.cell? ⟨b4,0,none⟩=some (.int .i64 (k:Int)):=fun u=>Later.cell h4 ⟨u.1,hbW.trans (u.2.mono hbW.size)⟩
 have N0: ∀u:Later W,u.1.cell? ⟨b,off+k*3,none⟩=some (.int .i64 q.tx):=fun u=>Later.cell c0 ⟨u.1,hbW.trans (u.2.mono hbW.size)⟩
 have N1: ∀u:Later W,u.1.cell? ⟨b,off+k*3+1,none⟩=some (.int .i64 q.kind):=fun u=>Later.cell c1 ⟨u.1,hbW.trans (u.2.mono hbW.size)⟩
 have N2: ∀u:Later W,u.1.cell? ⟨b,off+k*3+2,none⟩=some (.int .i64 q.item):=fun u=>Later.cell c2 ⟨u.1,hbW.trans (u.2.mono hbW.size)⟩
 have hki:(k:Int)< (n:Int):=by omega
 have hk0:(0:Int)<=(k:Int):=by omega
 have hkc:(k:Int)<=(c:Int):=by omega
 have hrun:=Nl;unfold Runs at hrun;unfold ay.val;clear hT hC WS hW h5 h3 h4 c0 c1 c2 hx QX hr1 hr2 hE hq;obtain⟨q0,q1,q2⟩:=q;simp only at N0 N1 N2 HC;go_enter Tryz.func160,Tryz.ntmps160;go_wp2_with fail
 rw[<-HW.out];cases r1
 .refine aQ ?_;repeat(go_big_quiet_step ((first|(go_at_call 121;exact aA _ (HT.out _))|(go_at_call 123;exact aA _ (HC.out _))|(go_at_call 124;exact aA _ (HE.out _)))))
  refine wpQuiet_nil ?_;rintro _ ⟨u,rfl⟩;go_wp2_with fail
  go_ret;exact⟨aI (by first|rfl|simp),hbW.trans (u.2.mono hbW.size)⟩
 .cases r2
  .refine aQ ?_;repeat(go_big_quiet_step ((first|(go_at_call 121;exact aA _ (HT.out _))|(go_at_call 123;exact aA _ (HC.out _))|(go_at_call 124;exact aA _ (HE.out _)))))
   refine wpQuiet_nil ?_;rintro _ ⟨u,rfl⟩;go_wp2_with fail
   go_ret;exact⟨aI (by first|rfl|simp),hbW.trans (u.2.mono hbW.size)⟩
  .cases r3
   .refine aQ ?_;repeat(go_big_quiet_step ((first|(go_at_call 121;exact aA _ (HT.out _))|(go_at_call 123;exact aA _ (HC.out _))|(go_at_call 124;exact aA _ (HE.out _)))))
    refine wpQuiet_nil ?_;rintro _ ⟨u,rfl⟩;go_wp2_with fail
    go_ret;exact⟨aI (by first|rfl|simp),hbW.trans (u.2.mono hbW.size)⟩
   .refine aQ ?_;repeat(go_big_quiet_step ((first|(go_at_call 121;exact aA _ (HT.out _))|(go_at_call 123;exact aA _ (HC.out _))|(go_at_call 124;exact aA _ (HE.out _)))))
    refine wpQuiet_nil ?_;rintro _ ⟨u,rfl⟩;go_wp2_with fail
    go_ret;exact⟨aI (by first|rfl|simp),hbW.trans (u.2.mono hbW.size)⟩
theorem Bl:Runs 160:=dG Tryz.func160 (by kernel_rfl) rfl
theorem Nn (A:Option Addr)(n c k:Nat)(s:List ay)(w:World)(hx:aC w A n s)(hnc:n<=c)(hk:k<n):
 Calls Tryz.prog 118 #[.slice A n c,.int .i64 (k:Int),.func (.func 121) #[] #[]] w fun e w'=>e=.returned (.bool (lN bU s k))/\Below w.heap.size w w':=by
 have hl:=hx.1;have e:s[k]? =some (s[k]'(by omega)):=List.getElem?_eq_getElem (by omega)
 have hO:lN bU s k=(s.take k).any fun o=>bU o&&fH o (s[k]'(by omega)) &&decide (dz (s.take k) o.tx<0):=by unfold lN;rw[e]
 generalize s[k]'(by omega)=q at*
 obtain⟨W1,hW1⟩: ∃W:World,W=w.alloc (.cells #[.slice A n c] 47):=⟨_,rfl⟩;obtain⟨W2,hW2⟩: ∃W:World,W=W1.alloc (.cells #[.int .i64 (k:Int)] 3):=⟨_,rfl⟩;obtain⟨W,hW⟩: ∃W:World,W=W2.alloc (.cells #[.func (.func 121) #[] #[]] 132):=⟨_,rfl⟩;have s1:W1.heap.size=w.heap.size+1:=by rw[hW1];simp
 have s2:W2.heap.size=w.heap.size+2:=by rw[hW2];simp[s1]
 have b1:Below w.heap.size w W1:=by rw[hW1];exact aG.alloc aj _
 have b2:Below W1.heap.size W1 W2:=by rw[hW2];exact aG.alloc aj _
 have b3:Below W2.heap.size W2 W:=by rw[hW];exact aG.alloc aj _
 have x1:W1.cell? ⟨w.heap.size,0,none⟩=some (.slice A n c):=by rw[hW1];exact aV _ _ _ _ _ rfl
 have x2:W2.cell? ⟨w.heap.size+1,0,none⟩=some (.int .i64 (k:Int)):=by rw[hW2,<-s1];exact aV _ _ _ _ _ rfl
 have x3:W.cell? ⟨w.heap.size+2,0,none⟩=some (.func (.func 121) #[] #[]):=by rw[hW,<-s2];exact aV _ _ _ _ _ rfl
 have Zj:=b2.trans (b3.mono b2.size);have Ni:=b1.trans (Zj.mono b1.size);have y1:W.cell? ⟨w.heap.size,0,none⟩=some (.slice A n c):=(Zj.cell (p:=⟨w.heap.size,0,none⟩) (block_lt_of_cell x1)).trans x1;have y2:W.cell? ⟨w.heap.size+1,0,none⟩=some (.int .i64 (k:Int)):=(b3.cell (p:=⟨w.heap.size+1,0,none⟩) (block_lt_of_cell x2)).trans x2;have QX:=hx.below Ni aj;have KM:rC W 160 #[.pointer (some ⟨w.heap.size+2,0,none⟩),.pointer (some ⟨w.heap.size,0,none⟩),.pointer (some ⟨w.heap.size+1,0,none⟩)] (s.take k) (fun o=>bU o&&fH o q&&decide (dz (s.take k) o.tx<0)):=by
  refine⟨Bl,fun W' o hb' ho=>?_⟩
  exact QY o q A n c _ _ _ k s W' ((hb'.cell (p:=⟨w.heap.size+2,0,none⟩) (block_lt_of_cell x3)).trans x3) ((hb'.cell (p:=⟨w.heap.size,0,none⟩) (block_lt_of_cell y1)).trans y1) ((hb'.cell (p:=⟨w.heap.size+1,0,none⟩) (block_lt_of_cell y2)).trans y2) (QX.below hb' aj) hk hnc e
 have HC:=ah (gJ A k c (s.take k) _ _ _ W (QX.take (by omega)) KM)
 have HW:Hid (((w.alloc (.cells #[.slice A n c] 47)).alloc (.cells #[.int .i64 (k:Int)] 3)).alloc (.cells #[.func (.func 121) #[] #[]] 132)=W):=by show _=_;rw[hW,hW2,hW1]
 have HO:=ah hO;have hkc:(k:Int)<=(c:Int):=by omega
 have hk0:(0:Int)<=(k:Int):=by omega
 have hrun:=Bl;unfold Runs at hrun;clear KM hO hW hW2 hW1 x1 x2 x3 y1 y2 s1 s2 b1 b2 b3 Zj hx QX;go_enter Tryz.func118,Tryz.ntmps118;go_wp2_with fail
 rw[HW.out];refine HC.out.mono ?_;rintro e w1 ⟨rfl,hb1⟩;go_wp2_with fail
 go_ret;exact⟨aI HO.out.symm,Ni.trans (hb1.mono Ni.size)⟩
theorem Np (A:Option Addr)(n c k:Nat)(s:List ay)(w:World)(hx:aC w A n s)(hnc:n<=c)(hk:k<n):
 Calls Tryz.prog 120 #[.slice A n c,.int .i64 (k:Int)] w fun e w'=>e=.returned (.bool (lN bU s k))/\Below w.heap.size w w':=by
 have HC:=ah (Nn A n c k s w hx hnc hk);clear hx;go_enter Tryz.func120,Tryz.ntmps120;go_wp2_with fail
 refine HC.out.mono ?_;rintro e w1 ⟨rfl,hb1⟩;go_wp2_with fail
 go_ret;exact⟨rfl,hb1⟩
theorem Eu (A:Option Addr)(n c:Nat)(s:List ay)(w:World)(hx:aC w A n s)(hnc:n<=c):
 Calls Tryz.prog 76 #[.string { data:= #[114,105,103,111,114,111,117,115] },.slice A n c] w (eF s w (aY (lN bU s) s.length)):=by
 have hl:=hx.1;have hn:=hx.2.1;have HX:=ah hx;clear hx;go_enter Tryz.func76,Tryz.ntmps76;go_wp2_with fail
 refine(dx A n c s w HX.out hnc).mono ?_;rintro e w1 ⟨rfl,hb1⟩;cases hv:aF s
 .have HV:=ah hv;clear hv;go_wp2_with fail
  go_ret2
  exact eF.no HV.out hb1
 .have HV:=ah hv;clear hv;go_wp2_with fail
  refine(n_ w1).mono ?_;rintro e w2 ⟨rfl,hw2⟩;have wh:Below w1.heap.size w1 w2:=by rw[hw2];exact aG.alloc aj _
  have qX:=hb1.trans (wh.mono hb1.size);have hlt2:w1.heap.size<w2.heap.size:=by rw[hw2];simp
  have HW2:=ah hw2;clear hw2;go_wp2_with fail
  go_loopw [14] (fun i wr=> ∃r:Nat,r<=3/\i=.int .i64 r/\Below w2.heap.size w2 wr) (fun i _=>5- (intOf i).toNat)
  case atStart=>exact⟨0,by omega,rfl,Below.refl _ _⟩
  case round=>
  obtain⟨r,hr,rfl,hb⟩:=hrel;rcases(by omega:r=0\/r=1\/r=2\/r=3) with rfl|rfl|rfl|rfl
  .have d0:wr.cell? ⟨w1.heap.size,0,none⟩=some (.string { data:= #[114,101,99,111,118,101,114,97,98,108,101] }):=(hb.cell (p:=⟨w1.heap.size,0,none⟩) hlt2).trans (by rw[HW2.out];exact aV _ _ _ _ _ rfl)
   have d1:wr.cell? ⟨w1.heap.size,1,none⟩=some (.func (.func 114) #[] #[]):=(hb.cell (p:=⟨w1.heap.size,1,none⟩) hlt2).trans (by rw[HW2.out];exact aV _ _ _ _ _ rfl)
   have hne:(({ data:= #[114,101,99,111,118,101,114,97,98,108,101] } :ByteArray) != { data:= #[114,105,103,111,114,111,117,115] })=true:=by decide
   go_wp2_with fail
   go_roundw
   case rel=>exact⟨1,by omega,by go_num,hb.trans ((by(repeat(first|exact Below.refl _ _|assumption|refine aZ ?_ aj _|refine Below.drew ?_|refine bE ?_ _|refine bD (by assumption) ?_|(refine dF ?_ ?_;rotate_left; (first|exact Nat.le_refl _|(simp;done)|(simp at*;omega))))):Below wr.heap.size wr _).mono hb.size)⟩
   case measure=>simp[intOf] <;>omega
  .have d0:wr.cell? ⟨w1.heap.size,2,none⟩=some (.string { data:= #[99,97,115,99,97,100,101,115] }):=(hb.cell (p:=⟨w1.heap.size,2,none⟩) hlt2).trans (by rw[HW2.out];exact aV _ _ _ _ _ rfl)
   have d1:wr.cell? ⟨w1.heap.size,3,none⟩=some (.func (.func 116) #[] #[]):=(hb.cell (p:=⟨w1.heap.size,3,none⟩) hlt2).trans (by rw[HW2.out];exact aV _ _ _ _ _ rfl)
   have hne:(({ data:= #[99,97,115,99,97,100,101,115] } :ByteArray) != { data:= #[114,105,103,111,114,111,117,115] })=true:=by decide
   go_wp2_with fail
   go_roundw
   case rel=>exact⟨2,by omega,by go_num,hb.trans ((by(repeat(first|exact Below.refl _ _|assumption|refine aZ ?_ aj _|refine Below.drew ?_|refine bE ?_ _|refine bD (by assumption) ?_|(refine dF ?_ ?_;rotate_left; (first|exact Nat.le_refl _|(simp;done)|(simp at*;omega))))):Below wr.heap.size wr _).mono hb.size)⟩
   case measure=>simp[intOf] <;>omega
  .have d0:wr.cell? ⟨w1.heap.size,4,none⟩=some (.string { data:= #[115,116,114,105,99,116] }):=(hb.cell (p:=⟨w1.heap.size,4,none⟩) hlt2).trans (by rw[HW2.out];exact aV _ _ _ _ _ rfl)
   have d1:wr.cell? ⟨w1.heap.size,5,none⟩=some (.func (.func 117) #[] #[]):=(hb.cell (p:=⟨w1.heap.size,5,none⟩) hlt2).trans (by rw[HW2.out];exact aV _ _ _ _ _ rfl)
   have hne:(({ data:= #[115,116,114,105,99,116] } :ByteArray) != { data:= #[114,105,103,111,114,111,117,115] })=true:=by decide
   go_wp2_with fail
   go_roundw
   case rel=>exact⟨3,by omega,by go_num,hb.trans ((by(repeat(first|exact Below.refl _ _|assumption|refine aZ ?_ aj _|refine Below.drew ?_|refine bE ?_ _|refine bD (by assumption) ?_|(refine dF ?_ ?_;rotate_left; (first|exact Nat.le_refl _|(simp;done)|(simp at*;omega))))):Below wr.heap.size wr _).mono hb.size)⟩
   case measure=>simp[intOf] <;>omega
  .rw[show((3:Nat):Int)=3 from rfl]
   have d0:wr.cell? ⟨w1.heap.size,6,none⟩=some (.string { data:= #[114,105,103,111,114,111,117,115] }):=(hb.cell (p:=⟨w1.heap.size,6,none⟩) hlt2).trans (by rw[HW2.out];exact aV _ _ _ _ _ rfl)
   have d1:wr.cell? ⟨w1.heap.size,7,none⟩=some (.func (.func 120) #[] #[]):=(hb.cell (p:=⟨w1.heap.size,7,none⟩) hlt2).trans (by rw[HW2.out];exact aV _ _ _ _ _ rfl)
   have hrun:Runs 120:=dG Tryz.func120 (by kernel_rfl) rfl
   unfold Runs at hrun;obtain⟨wo,rfl⟩: ∃wo:World,wo=wr:=⟨_,rfl⟩;obtain⟨W,hW⟩: ∃W:World,W=wo.alloc (.cells #[.string { data:= #[114,105,103,111,114,111,117,115] },.func (.func 120) #[] #[]] 114):=⟨_,rfl⟩;have x1:W.cell? ⟨wo.heap.size,1,none⟩=some (.func (.func 120) #[] #[]):=by rw[hW];exact aV _ _ _ _ _ rfl
   have hbW:Below wo.heap.size wo W:=by rw[hW];exact aG.alloc aj _
   have jZ:=hb.trans (hbW.mono hb.size);have HW:=ah hW;clear hW;go_wp2_with fail
   rw[<-HW.out];go_loopw [24] (fun i wr=> ∃k:Nat,k<=n/\i=.int .i64 k/\Below W.heap.size W wr/\ ∀j,j<k->lN bU s j=false) (fun i _=>n- (intOf i).toNat)
   case atStart=>exact⟨0,Nat.zero_le _,rfl,Below.refl _ _,by omega⟩
   case round=>
    obtain⟨wi,rfl⟩: ∃wi:World,wi=wr:=⟨_,rfl⟩;obtain⟨k,hk,rfl,hbi,hno⟩:=hrel;have jP:=jZ.trans (hbi.mono jZ.size);by_cases hlt:k<n
    .have y1:=(hbi.cell (p:=⟨wo.heap.size,1,none⟩) (block_lt_of_cell x1)).trans x1;obtain⟨bb,hbb⟩: ∃b,lN bU s k=b:=⟨_,rfl⟩;have hC:Calls Tryz.prog 120 #[.slice A n c,.int .i64 (k:Int)] wi fun e w'=>e=.returned (.bool bb)/\Below wi.heap.size wi w':=by
      have:=Np A n c k s wi (HX.out.below (qX.trans (jP.mono qX.size)) aj) hnc hlt;rw[hbb] at this;exact this
     have HT:Hid (bb=true->aY (lN bU s) s.length=(k:Int)):=fun h=>by rw[hl];exact l8 hlt (hbb.trans h) hno
     have HN:Hid (bb=false-> ∀j,j<k+1->lN bU s j=false):=fun h j hj=>by
      by_cases e:j=k
      .subst e;exact hbb.trans h
      .exact hno j (by omega)
     have HC:=ah hC;clear hC hno hbb;go_wp2_with fail
     refine HC.out.mono ?_;rintro e w5 ⟨rfl,hb5⟩;cases bb
     .have hn2:=ah (HN.out (by first|rfl|trivial))
      go_wp2_with fail
      go_roundw
      case rel=>exact⟨k+1,by omega,by go_num,hbi.trans (hb5.mono hbi.size),hn2.out⟩
      case measure=>simp[intOf];omega
     .have ht2:=ah (HT.out (by first|rfl|trivial))
      have hbe:=qX.trans ((jP.trans (hb5.mono jP.size)).mono qX.size);go_wp2_with fail
      go_ret2
      exact eF.yes HV.out ht2.out hbe
    .have ht2:Hid (aY (lN bU s) s.length= -1):=kS (fun j hj=>hno j (by omega))
     have hbe:=qX.trans (jP.mono qX.size);clear hno;go_wp2_with fail
     go_ret2
     exact eF.yes HV.out ht2.out hbe
end Go.Proofs.YtddkjbibjjehjaaGreatDoor
