/-
  Texts that the proof rests on, joined: part 33.
-/
import Derived.Test.YtddkjbibjjehjaaGreatDoorSXr32
set_option maxHeartbeats 16000000
set_option maxRecDepth 100000
namespace Go.Proofs.YtddkjbibjjehjaaGreatDoor
open Go.RowKit Go.BigFrame
set_option linter.unusedVariables false
theorem BS (A:Option Addr)(n c:Nat)(s:List ay)(w:World)(hx:aC w A n s)(hnc:n<=c):
 Calls Tryz.prog 76 #[.string { data:= #[115,116,114,105,99,116] },.slice A n c] w (eF s w (aY (uR sP s) s.length)):=by
 have hl:=hx.1;have hn:=hx.2.1;have HX:=ah hx;clear hx;go_enter Tryz.func76,Tryz.ntmps76;go_wp2_with fail
 refine(dx A n c s w HX.out hnc).mono ?_;rintro e w1 ⟨rfl,hb1⟩;cases hv:aF s
 .have HV:=ah hv;clear hv;go_wp2_with fail
  go_ret2
  exact eF.no HV.out hb1
 .have HV:=ah hv;clear hv;go_wp2_with fail
  refine(n_ w1).mono ?_;rintro e w2 ⟨rfl,hw2⟩;have wh:Below w1.heap.size w1 w2:=by rw[hw2];exact aG.alloc aj _
  have qX:=hb1.trans (wh.mono hb1.size);have hlt2:w1.heap.size<w2.heap.size:=by rw[hw2];simp
  have HW2:=ah hw2;clear hw2;go_wp2_with fail
  go_loopw [14] (fun i wr=> ∃r:Nat,r<=2/\i=.int .i64 r/\Below w2.heap.size w2 wr) (fun i _=>5- (intOf i).toNat)
  case atStart=>exact⟨0,by omega,rfl,Below.refl _ _⟩
  case round=>
  obtain⟨r,hr,rfl,hb⟩:=hrel;rcases(by omega:r=0\/r=1\/r=2) with rfl|rfl|rfl
  .have d0:wr.cell? ⟨w1.heap.size,0,none⟩=some (.string { data:= #[114,101,99,111,118,101,114,97,98,108,101] }):=(hb.cell (p:=⟨w1.heap.size,0,none⟩) hlt2).trans (by rw[HW2.out];exact aV _ _ _ _ _ rfl)
   have d1:wr.cell? ⟨w1.heap.size,1,none⟩=some (.func (.func 114) #[] #[]):=(hb.cell (p:=⟨w1.heap.size,1,none⟩) hlt2).trans (by rw[HW2.out];exact aV _ _ _ _ _ rfl)
   have hne:(({ data:= #[114,101,99,111,118,101,114,97,98,108,101] } :ByteArray) != { data:= #[115,116,114,105,99,116] })=true:=by decide
   go_wp2_with fail
   go_roundw
   case rel=>exact⟨1,by omega,by go_num,hb.trans ((by(repeat(first|exact Below.refl _ _|assumption|refine aZ ?_ aj _|refine Below.drew ?_|refine bE ?_ _|refine bD (by assumption) ?_|(refine dF ?_ ?_;rotate_left; (first|exact Nat.le_refl _|(simp;done)|(simp at*;omega))))):Below wr.heap.size wr _).mono hb.size)⟩
   case measure=>simp[intOf] <;>omega
  .have d0:wr.cell? ⟨w1.heap.size,2,none⟩=some (.string { data:= #[99,97,115,99,97,100,101,115] }):=(hb.cell (p:=⟨w1.heap.size,2,none⟩) hlt2).trans (by rw[HW2.out];exact aV _ _ _ _ _ rfl)
   have d1:wr.cell? ⟨w1.heap.size,3,none⟩=some (.func (.func 116) #[] #[]):=(hb.cell (p:=⟨w1.heap.size,3,none⟩) hlt2).trans (by rw[HW2.out];exact aV _ _ _ _ _ rfl)
   have hne:(({ data:= #[99,97,115,99,97,100,101,115] } :ByteArray) != { data:= #[115,116,114,105,99,116] })=true:=by decide
   go_wp2_with fail
   go_roundw
   case rel=>exact⟨2,by omega,by go_num,hb.trans ((by(repeat(first|exact Below.refl _ _|assumption|refine aZ ?_ aj _|refine Below.drew ?_|refine bE ?_ _|refine bD (by assumption) ?_|(refine dF ?_ ?_;rotate_left; (first|exact Nat.le_refl _|(simp;done)|(simp at*;omega))))):Below wr.heap.size wr _).mono hb.size)⟩
   case measure=>simp[intOf] <;>omega
  .rw[show((2:Nat):Int)=2 from rfl]
   have d0:wr.cell? ⟨w1.heap.size,4,none⟩=some (.string { data:= #[115,116,114,105,99,116] }):=(hb.cell (p:=⟨w1.heap.size,4,none⟩) hlt2).trans (by rw[HW2.out];exact aV _ _ _ _ _ rfl)
   have d1:wr.cell? ⟨w1.heap.size,5,none⟩=some (.func (.func 117) #[] #[]):=(hb.cell (p:=⟨w1.heap.size,5,none⟩) hlt2).trans (by rw[HW2.out];exact aV _ _ _ _ _ rfl)
   have hrun:Runs 117:=dG Tryz.func117 (by kernel_rfl) rfl
   unfold Runs at hrun;obtain⟨wo,rfl⟩: ∃wo:World,wo=wr:=⟨_,rfl⟩;obtain⟨W,hW⟩: ∃W:World,W=wo.alloc (.cells #[.string { data:= #[115,116,114,105,99,116] },.func (.func 117) #[] #[]] 114):=⟨_,rfl⟩;have x1:W.cell? ⟨wo.heap.size,1,none⟩=some (.func (.func 117) #[] #[]):=by rw[hW];exact aV _ _ _ _ _ rfl
   have hbW:Below wo.heap.size wo W:=by rw[hW];exact aG.alloc aj _
   have jZ:=hb.trans (hbW.mono hb.size);have HW:=ah hW;clear hW;go_wp2_with fail
   rw[<-HW.out];go_loopw [24] (fun i wr=> ∃k:Nat,k<=n/\i=.int .i64 k/\Below W.heap.size W wr/\ ∀j,j<k->uR sP s j=false) (fun i _=>n- (intOf i).toNat)
   case atStart=>exact⟨0,Nat.zero_le _,rfl,Below.refl _ _,by omega⟩
   case round=>
    obtain⟨wi,rfl⟩: ∃wi:World,wi=wr:=⟨_,rfl⟩;obtain⟨k,hk,rfl,hbi,hno⟩:=hrel;have jP:=jZ.trans (hbi.mono jZ.size);by_cases hlt:k<n
    .have y1:=(hbi.cell (p:=⟨wo.heap.size,1,none⟩) (block_lt_of_cell x1)).trans x1;obtain⟨bb,hbb⟩: ∃b,uR sP s k=b:=⟨_,rfl⟩;have hC:Calls Tryz.prog 117 #[.slice A n c,.int .i64 (k:Int)] wi fun e w'=>e=.returned (.bool bb)/\Below wi.heap.size wi w':=by
      have:=Nj A n c k s wi (HX.out.below (qX.trans (jP.mono qX.size)) aj) hnc hlt;rw[hbb] at this;exact this
     have HT:Hid (bb=true->aY (uR sP s) s.length=(k:Int)):=fun h=>by rw[hl];exact l8 hlt (hbb.trans h) hno
     have HN:Hid (bb=false-> ∀j,j<k+1->uR sP s j=false):=fun h j hj=>by
      by_cases e:j=k
      .subst e;exact hbb.trans h
      .exact hno j (by omega)
     have HC:=ah hC;clear hC hno hbb;go_wp2_with fail
     refine HC.out.mono ?_;rintro e w5 ⟨rfl,hb5⟩;cases bb
     .have hn2:=ah (HN.out (by first|rfl|trivial))
      go_wp2_with fail
      go_roundw
      case rel=>exact⟨k+1,by omega,by go_num,hbi.trans (hb5.mono hbi.size),hn2.out⟩
      case measure=>simp[intOf];omega
     .have ht2:=ah (HT.out (by first|rfl|trivial))
      have hbe:=qX.trans ((jP.trans (hb5.mono jP.size)).mono qX.size);go_wp2_with fail
      go_ret2
      exact eF.yes HV.out ht2.out hbe
    .have ht2:Hid (aY (uR sP s) s.length= -1):=kS (fun j hj=>hno j (by omega))
     have hbe:=qX.trans (jP.mono qX.size);clear hno;go_wp2_with fail
     go_ret2
     exact eF.yes HV.out ht2.out hbe
theorem Am (A:Option Addr)(n c:Nat)(s:List ay)(w:World)(hx:aC w A n s)(hnc:n<=c):
 Calls Tryz.prog 76 #[.string { data:= #[99,111,109,109,105,116,115] },.slice A n c] w (eF s w (aY (nM s) s.length)):=by
 have hl:=hx.1;have hn:=hx.2.1;have HX:=ah hx;clear hx;go_enter Tryz.func76,Tryz.ntmps76;go_wp2_with fail
 refine(dx A n c s w HX.out hnc).mono ?_;rintro e w1 ⟨rfl,hb1⟩;cases hv:aF s
 .have HV:=ah hv;clear hv;go_wp2_with fail
  go_ret2
  exact eF.no HV.out hb1
 .have HV:=ah hv;clear hv;go_wp2_with fail
  refine(n_ w1).mono ?_;rintro e w2 ⟨rfl,hw2⟩;have wh:Below w1.heap.size w1 w2:=by rw[hw2];exact aG.alloc aj _
  have qX:=hb1.trans (wh.mono hb1.size);have hlt2:w1.heap.size<w2.heap.size:=by rw[hw2];simp
  have HW2:=ah hw2;clear hw2;go_wp2_with fail
  go_loopw [14] (fun i wr=> ∃r:Nat,r<=4/\i=.int .i64 r/\Below w2.heap.size w2 wr) (fun i _=>5- (intOf i).toNat)
  case atStart=>exact⟨0,by omega,rfl,Below.refl _ _⟩
  case round=>
  obtain⟨r,hr,rfl,hb⟩:=hrel;rcases(by omega:r=0\/r=1\/r=2\/r=3\/r=4) with rfl|rfl|rfl|rfl|rfl
  .have d0:wr.cell? ⟨w1.heap.size,0,none⟩=some (.string { data:= #[114,101,99,111,118,101,114,97,98,108,101] }):=(hb.cell (p:=⟨w1.heap.size,0,none⟩) hlt2).trans (by rw[HW2.out];exact aV _ _ _ _ _ rfl)
   have d1:wr.cell? ⟨w1.heap.size,1,none⟩=some (.func (.func 114) #[] #[]):=(hb.cell (p:=⟨w1.heap.size,1,none⟩) hlt2).trans (by rw[HW2.out];exact aV _ _ _ _ _ rfl)
   have hne:(({ data:= #[114,101,99,111,118,101,114,97,98,108,101] } :ByteArray) != { data:= #[99,111,109,109,105,116,115] })=true:=by decide
   go_wp2_with fail
   go_roundw
   case rel=>exact⟨1,by omega,by go_num,hb.trans ((by(repeat(first|exact Below.refl _ _|assumption|refine aZ ?_ aj _|refine Below.drew ?_|refine bE ?_ _|refine bD (by assumption) ?_|(refine dF ?_ ?_;rotate_left; (first|exact Nat.le_refl _|(simp;done)|(simp at*;omega))))):Below wr.heap.size wr _).mono hb.size)⟩
   case measure=>simp[intOf] <;>omega
  .have d0:wr.cell? ⟨w1.heap.size,2,none⟩=some (.string { data:= #[99,97,115,99,97,100,101,115] }):=(hb.cell (p:=⟨w1.heap.size,2,none⟩) hlt2).trans (by rw[HW2.out];exact aV _ _ _ _ _ rfl)
   have d1:wr.cell? ⟨w1.heap.size,3,none⟩=some (.func (.func 116) #[] #[]):=(hb.cell (p:=⟨w1.heap.size,3,none⟩) hlt2).trans (by rw[HW2.out];exact aV _ _ _ _ _ rfl)
   have hne:(({ data:= #[99,97,115,99,97,100,101,115] } :ByteArray) != { data:= #[99,111,109,109,105,116,115] })=true:=by decide
   go_wp2_with fail
   go_roundw
   case rel=>exact⟨2,by omega,by go_num,hb.trans ((by(repeat(first|exact Below.refl _ _|assumption|refine aZ ?_ aj _|refine Below.drew ?_|refine bE ?_ _|refine bD (by assumption) ?_|(refine dF ?_ ?_;rotate_left; (first|exact Nat.le_refl _|(simp;done)|(simp at*;omega))))):Below wr.heap.size wr _).mono hb.size)⟩
   case measure=>simp[intOf] <;>omega
  .have d0:wr.cell? ⟨w1.heap.size,4,none⟩=some (.string { data:= #[115,116,114,105,99,116] }):=(hb.cell (p:=⟨w1.heap.size,4,none⟩) hlt2).trans (by rw[HW2.out];exact aV _ _ _ _ _ rfl)
   have d1:wr.cell? ⟨w1.heap.size,5,none⟩=some (.func (.func 117) #[] #[]):=(hb.cell (p:=⟨w1.heap.size,5,none⟩) hlt2).trans (by rw[HW2.out];exact aV _ _ _ _ _ rfl)
   have hne:(({ data:= #[115,116,114,105,99,116] } :ByteArray) != { data:= #[99,111,109,109,105,116,115] })=true:=by decide
   go_wp2_with fail
   go_roundw
   case rel=>exact⟨3,by omega,by go_num,hb.trans ((by(repeat(first|exact Below.refl _ _|assumption|refine aZ ?_ aj _|refine Below.drew ?_|refine bE ?_ _|refine bD (by assumption) ?_|(refine dF ?_ ?_;rotate_left; (first|exact Nat.le_refl _|(simp;done)|(simp at*;omega))))):Below wr.heap.size wr _).mono hb.size)⟩
   case measure=>simp[intOf] <;>omega
  .have d0:wr.cell? ⟨w1.heap.size,6,none⟩=some (.string { data:= #[114,105,103,111,114,111,117,115] }):=(hb.cell (p:=⟨w1.heap.size,6,none⟩) hlt2).trans (by rw[HW2.out];exact aV _ _ _ _ _ rfl)
   have d1:wr.cell? ⟨w1.heap.size,7,none⟩=some (.func (.func 120) #[] #[]):=(hb.cell (p:=⟨w1.heap.size,7,none⟩) hlt2).trans (by rw[HW2.out];exact aV _ _ _ _ _ rfl)
   have hne:(({ data:= #[114,105,103,111,114,111,117,115] } :ByteArray) != { data:= #[99,111,109,109,105,116,115] })=true:=by decide
   go_wp2_with fail
   go_roundw
   case rel=>exact⟨4,by omega,by go_num,hb.trans ((by(repeat(first|exact Below.refl _ _|assumption|refine aZ ?_ aj _|refine Below.drew ?_|refine bE ?_ _|refine bD (by assumption) ?_|(refine dF ?_ ?_;rotate_left; (first|exact Nat.le_refl _|(simp;done)|(simp at*;omega))))):Below wr.heap.size wr _).mono hb.size)⟩
   case measure=>simp[intOf] <;>omega
  .rw[show((4:Nat):Int)=4 from rfl]
   have d0:wr.cell? ⟨w1.heap.size,8,none⟩=some (.string { data:= #[99,111,109,109,105,116,115] }):=(hb.cell (p:=⟨w1.heap.size,8,none⟩) hlt2).trans (by rw[HW2.out];exact aV _ _ _ _ _ rfl)
   have d1:wr.cell? ⟨w1.heap.size,9,none⟩=some (.func (.func 122) #[] #[]):=(hb.cell (p:=⟨w1.heap.size,9,none⟩) hlt2).trans (by rw[HW2.out];exact aV _ _ _ _ _ rfl)
   have hrun:Runs 122:=dG Tryz.func122 (by kernel_rfl) rfl
   unfold Runs at hrun;obtain⟨wo,rfl⟩: ∃wo:World,wo=wr:=⟨_,rfl⟩;obtain⟨W,hW⟩: ∃W:World,W=wo.alloc (.cells #[.string { data:= #[99,111,109,109,105,116,115] },.func (.func 122) #[] #[]] 114):=⟨_,rfl⟩;have x1:W.cell? ⟨wo.heap.size,1,none⟩=some (.func (.func 122) #[] #[]):=by rw[hW];exact aV _ _ _ _ _ rfl
   have hbW:Below wo.heap.size wo W:=by rw[hW];exact aG.alloc aj _
   have jZ:=hb.trans (hbW.mono hb.size);have HW:=ah hW;clear hW;go_wp2_with fail
   rw[<-HW.out];go_loopw [24] (fun i wr=> ∃k:Nat,k<=n/\i=.int .i64 k/\Below W.heap.size W wr/\ ∀j,j<k->nM s j=false) (fun i _=>n- (intOf i).toNat)
   case atStart=>exact⟨0,Nat.zero_le _,rfl,Below.refl _ _,by omega⟩
   case round=>
    obtain⟨wi,rfl⟩: ∃wi:World,wi=wr:=⟨_,rfl⟩;obtain⟨k,hk,rfl,hbi,hno⟩:=hrel;have jP:=jZ.trans (hbi.mono jZ.size);by_cases hlt:k<n
    .have y1:=(hbi.cell (p:=⟨wo.heap.size,1,none⟩) (block_lt_of_cell x1)).trans x1;obtain⟨bb,hbb⟩: ∃b,nM s k=b:=⟨_,rfl⟩;have hC:Calls Tryz.prog 122 #[.slice A n c,.int .i64 (k:Int)] wi fun e w'=>e=.returned (.bool bb)/\Below wi.heap.size wi w':=by
      have:=Nk A n c k s wi (HX.out.below (qX.trans (jP.mono qX.size)) aj) hnc hlt;rw[hbb] at this;exact this
     have HT:Hid (bb=true->aY (nM s) s.length=(k:Int)):=fun h=>by rw[hl];exact l8 hlt (hbb.trans h) hno
     have HN:Hid (bb=false-> ∀j,j<k+1->nM s j=false):=fun h j hj=>by
      by_cases e:j=k
      .subst e;exact hbb.trans h
      .exact hno j (by omega)
     have HC:=ah hC;clear hC hno hbb;go_wp2_with fail
     refine HC.out.mono ?_;rintro e w5 ⟨rfl,hb5⟩;cases bb
     .have hn2:=ah (HN.out (by first|rfl|trivial))
      go_wp2_with fail
      go_roundw
      case rel=>exact⟨k+1,by omega,by go_num,hbi.trans (hb5.mono hbi.size),hn2.out⟩
      case measure=>simp[intOf];omega
     .have ht2:=ah (HT.out (by first|rfl|trivial))
      have hbe:=qX.trans ((jP.trans (hb5.mono jP.size)).mono qX.size);go_wp2_with fail
      go_ret2
      exact eF.yes HV.out ht2.out hbe
    .have ht2:Hid (aY (nM s) s.length= -1):=kS (fun j hj=>hno j (by omega))
     have hbe:=qX.trans (jP.mono qX.size);clear hno;go_wp2_with fail
     go_ret2
     exact eF.yes HV.out ht2.out hbe
theorem Nq {s:List ay}{k j:Nat}{q o:ay}{m:Nat}(h:oW s k q o j m=true): ∃d p,d<m/\s[j+1+d]? =some p/\metIn s k q o p=true:=by
 induction m with
 |zero=>cases h
 |succ m ih=>
  simp only[oW,Bool.or_eq_true] at h;rcases h with h|h
  .obtain⟨d,p,hd,r⟩:=ih h;exact⟨d,p,by omega,r⟩
  .cases e:s[j+1+m]? with
   |none=>rw[e] at h;cases h
   |some p=>rw[e] at h;exact⟨m,p,by omega,e,h⟩
theorem Nr {s:List ay}{k:Nat}{q:ay}{j:Nat}(h:qb s k q j=true): ∃i o,i<j/\s[i]? =some o/\oW s k q o i (k- (i+1))=true:=by
 induction j with
 |zero=>cases h
 |succ j ih=>
  simp only[qb,Bool.or_eq_true] at h;rcases h with h|h
  .obtain⟨i,o,hi,r⟩:=ih h;exact⟨i,o,by omega,r⟩
  .cases e:s[j]? with
   |none=>rw[e] at h;cases h
   |some o=>rw[e] at h;exact⟨j,o,by omega,e,h⟩
def l9 (s:List ay)(k a:Nat):Bool:=match s[k]? with|some o=>decide (0<=yK s k o.item k) &&yK s k o.item k !=o.tx&&dz (s.take a) (yK s k o.item k) !=2|none=>false
def Aq (s:List ay)(k:Nat):Bool:=match s[k]? with|some q=>q.kind==0&&l9 s k k|none=>false
def Bn (s:List ay)(q:ay)(k j:Nat):Bool:=match s[j]? with|some o=>q.kind==2&&o.tx==q.tx&&o.kind==0&&l9 s j k|none=>false
def y8 (s:List ay)(k:Nat):Bool:=match s[k]? with|some q=>(List.range k).any (Bn s q k)|none=>false
theorem GR (A:Option Addr)(n c k a:Nat)(s:List ay)(w:World)(hx:aC w A n s)(hk:k<n)(ha:a<=n)(hnc:n<=c):
 Calls Tryz.prog 115 #[.slice A n c,.int .i64 (k:Int),.int .i64 (a:Int)] w fun e w'=>e=.returned (.bool (l9 s k a))/\Below w.heap.size w w':=by
 have hn:=hx.2.1;obtain⟨b,off,o,rfl,hbl,ho,c0,c1,c2⟩:=hx.at_ hk;obtain⟨F,hF⟩: ∃F,yK s k o.item k=F:=⟨_,rfl⟩;obtain⟨E,hE⟩: ∃E,dz (s.take a) F=E:=⟨_,rfl⟩;have hD:l9 s k a=(decide (0<=F) &&F !=o.tx&&E !=2):=by unfold l9;rw[ho];simp only[hF,hE]
 have Cy:=ah (Iy (some ⟨b,off,none⟩) n c k s o w hx ho hnc);rw[hF] at Cy;have hC2: ∀W,Below w.heap.size w W->Calls Tryz.prog 124 #[.slice (some ⟨b,off,none⟩) a c,.int .i64 F] W fun e w'=>e=.returned (.int .i64 E)/\Below W.heap.size W w':=fun W h=>by
  have:=lW (some ⟨b,off,none⟩) a c (s.take a) F W ((hx.below h aj).take ha);rw[hE] at this;exact this
 have HC2:=ah hC2;have HD:=ah hD;obtain⟨tx,kd,it⟩:=o;simp only at c0 c1 c2 HD;have L0:=Later.cell c0;have hki:(k:Int)< (n:Int):=by omega
 have hk0:(0:Int)<=(k:Int):=by omega
 have hac:(a:Int)<=(c:Int):=by omega
 have ha0:(0:Int)<=(a:Int):=by omega
 clear hx ho hF hE hD hC2 c0 c1 c2;go_enter Tryz.func115,Tryz.ntmps115;go_wp2_with fail
 refine Cy.out.mono ?_;rintro e w1 ⟨rfl,hb1⟩;have x1:=L0 ⟨w1,hb1⟩;simp only at x1;by_cases h0:0<=F
 .by_cases h1:F=tx
  .have h1':(F !=tx)=false:=by simp[h1]
   have hf:Hid (l9 s k a=false):=by show _=_;rw[HD.out,h1'];simp
   go_wp2_with fail
   go_ret;exact⟨aI hf.out.symm,hb1⟩
  .have h1':(F !=tx)=true:=by simp[h1]
   have acJ:(F==tx)=false:=by simp[h1]
   have hf:Hid (l9 s k a=(E !=2)):=by show _=_;rw[HD.out,h1'];simp[h0]
   go_wp2_with fail
   refine(HC2.out w1 hb1).mono ?_;rintro e w2 ⟨rfl,hb2⟩;go_wp2_with fail
   go_ret;exact⟨aI hf.out.symm,hb1.trans (hb2.mono hb1.size)⟩
 .have hf:Hid (l9 s k a=false):=by show _=_;rw[HD.out];simp[h0]
  go_wp2_with fail
  go_ret;exact⟨aI hf.out.symm,hb1⟩
theorem Ns (A:Option Addr)(n c k:Nat)(s:List ay)(w:World)(hx:aC w A n s)(hnc:n<=c)(hk:k<n):
 Calls Tryz.prog 116 #[.slice A n c,.int .i64 (k:Int)] w fun e w'=>e=.returned (.bool (Aq s k))/\Below w.heap.size w w':=by
 have hn:=hx.2.1;obtain⟨b,off,o,rfl,hbl,ho,c0,c1,c2⟩:=hx.at_ hk;have hD:Aq s k=(o.kind==0&&l9 s k k):=by unfold Aq;rw[ho]
 have HC:=ah (GR (some ⟨b,off,none⟩) n c k k s w hx hk (by omega) hnc)
 obtain⟨D,ZW⟩: ∃D,l9 s k k=D:=⟨_,rfl⟩;rw[ZW] at hD HC;have HD:=ah hD;obtain⟨tx,kd,it⟩:=o;simp only at c0 c1 c2 HD;have hki:(k:Int)< (n:Int):=by omega
 have hk0:(0:Int)<=(k:Int):=by omega
 clear hx ho hD ZW;by_cases h0:kd=0
 .subst h0;go_enter Tryz.func116,Tryz.ntmps116;go_wp2_with fail
  refine HC.out.mono ?_;rintro e w1 ⟨rfl,hb1⟩;go_wp2_with fail
  go_ret;exact⟨aI (by rw[HD.out];rfl),hb1⟩
 .have h0':(kd==0)=false:=by simpa using h0
  have hf:Hid (Aq s k=false):=by show _=_;rw[HD.out,h0'];rfl
  go_enter Tryz.func116,Tryz.ntmps116;go_wp2_with fail
  go_ret;exact⟨aI hf.out.symm,Below.refl _ _⟩
theorem Nt (A:Option Addr)(n c k:Nat)(s:List ay)(w:World)(hx:aC w A n s)(hnc:n<=c)(hk:k<n):
 Calls Tryz.prog 114 #[.slice A n c,.int .i64 (k:Int)] w fun e w'=>e=.returned (.bool (y8 s k))/\Below w.heap.size w w':=by
 have hl:=hx.1;have hn:=hx.2.1;obtain⟨b,off,q,rfl,hbl,hq,c0,c1,c2⟩:=hx.at_ hk;have hC0:y8 s k=(List.range k).any (Bn s q k):=by unfold y8;rw[hq]
 have P8:=ah hC0;have HX:=ah hx;obtain⟨qt,qk,qi⟩:=q;simp only at c0 c1 c2 P8;clear hx hC0 hq;have hki:(k:Int)< (n:Int):=by omega
 have hk0:(0:Int)<=(k:Int):=by omega
 have hkc:(k:Int)<=(c:Int):=by omega
 go_enter Tryz.func114,Tryz.ntmps114;go_wp2_with fail
 go_loopw [11] (fun i wr=> ∃j:Nat,j<=k/\i=.int .i64 j/\Below w.heap.size w wr/\ ∀m,m<j->Bn s ⟨qt,qk,qi⟩ k m=false) (fun i _=>k- (intOf i).toNat)
 case atStart=>exact⟨0,Nat.zero_le _,rfl,Below.refl _ _,by omega⟩
 case round=>
  obtain⟨j,hj,rfl,hb,hno⟩:=hrel;by_cases hlt:j<k
  .have iM:=HX.out.below hb aj;obtain⟨b',off',o,hA',_,ho,e0,e1,e2⟩:=iM.at_ (k:=j) (by omega)
   injection hA' with hA';injection hA' with q1 q2 _;subst q1;subst q2;obtain⟨D,hD⟩: ∃D,l9 s j k=D:=⟨_,rfl⟩;have hin:Bn s ⟨qt,qk,qi⟩ k j=(qk==2&&o.tx==qt&&o.kind==0&&D):=by unfold Bn;rw[ho];simp only[hD]
   obtain⟨W,hW⟩: ∃W:World,W=wr.alloc (.cells #[.int .i64 o.tx,.int .i64 o.kind,.int .i64 o.item] 89):=⟨_,rfl⟩;obtain⟨L0,L1,L2,hbW,hWs⟩:=kC hW;have HD:Hid (∀u:Later W,Calls Tryz.prog 115 #[.slice (some ⟨b,off,none⟩) n c,.int .i64 (j:Int),.int .i64 (k:Int)] u.1 fun e w'=>e=.returned (.bool D)/\Below u.1.heap.size u.1 w'):=fun u=>by
    have:=GR (some ⟨b,off,none⟩) n c j k s u.1 ((iM.below hbW aj).later u) (by omega) (by omega) hnc;rw[hD] at this;exact this
   obtain⟨ot,ok,oi⟩:=o;simp only at e0 e1 e2 L0 L1 L2 hin hW;obtain⟨r1,hr1⟩: ∃z,(qk==2)=z:=⟨_,rfl⟩;obtain⟨r2,hr2⟩: ∃z,(ot==qt)=z:=⟨_,rfl⟩;obtain⟨r3,hr3⟩: ∃z,(ok==0)=z:=⟨_,rfl⟩;rw[hr1,hr2,hr3] at hin;have gZ:Hid ((r1&&r2&&r3&&D)=false-> ∀m,m<j+1->Bn s ⟨qt,qk,qi⟩ k m=false):=fun h m hm=>by
    by_cases e:m=j
    .subst e;rw[hin];exact h
    .exact hno m (by omega)
   have Z8:Hid ((r1&&r2&&r3&&D)=true->y8 s k=true):=fun h=>by
    rw[P8.out,List.any_eq_true];exact⟨j,List.mem_range.2 hlt,by rw[hin];exact h⟩
   have jZ:=hb.trans (hbW.mono hb.size);have n0: ∀u:Later W,u.1.cell? ⟨b,off+k*3,none⟩=some (.int .i64 qt):=fun u=>Later.cell c0 ⟨u.1,jZ.trans (u.2.mono jZ.size)⟩
   have n1: ∀u:Later W,u.1.cell? ⟨b,off+k*3+1,none⟩=some (.int .i64 qk):=fun u=>Later.cell c1 ⟨u.1,jZ.trans (u.2.mono jZ.size)⟩
   have HW:=ah hW;have hji:(j:Int)< (k:Int):=by omega
   have hj0:(0:Int)<=(j:Int):=by omega
   clear hD hin hno ho iM hW;go_wp2_with fail
   rw[<-HW.out];clear e0 e1 e2;cases r1
   .refine aQ ?_;repeat(go_big_quiet_step ((go_at_call 115;exact aA _ (HD.out _))))
    refine wpQuiet_nil ?_;rintro _ ⟨u,rfl⟩;have hbu:=jZ.trans (u.2.mono jZ.size);have Zk:=ah (gZ.out (by simp))
    clear gZ Z8;go_wp2_with fail
    go_roundw
    case rel=>exact⟨j+1,by omega,by go_num,hbu,Zk.out⟩
    case measure=>simp[intOf];omega
   .cases r2
    .refine aQ ?_;repeat(go_big_quiet_step ((go_at_call 115;exact aA _ (HD.out _))))
     refine wpQuiet_nil ?_;rintro _ ⟨u,rfl⟩;have hbu:=jZ.trans (u.2.mono jZ.size);have Zk:=ah (gZ.out (by simp))
     clear gZ Z8;go_wp2_with fail
     go_roundw
     case rel=>exact⟨j+1,by omega,by go_num,hbu,Zk.out⟩
     case measure=>simp[intOf];omega
    .cases r3
     .refine aQ ?_;repeat(go_big_quiet_step ((go_at_call 115;exact aA _ (HD.out _))))
      refine wpQuiet_nil ?_;rintro _ ⟨u,rfl⟩;have hbu:=jZ.trans (u.2.mono jZ.size);have Zk:=ah (gZ.out (by simp))
      clear gZ Z8;go_wp2_with fail
      go_roundw
      case rel=>exact⟨j+1,by omega,by go_num,hbu,Zk.out⟩
      case measure=>simp[intOf];omega
     .cases D
      .refine aQ ?_;repeat(go_big_quiet_step ((go_at_call 115;exact aA _ (HD.out _))))
       refine wpQuiet_nil ?_;rintro _ ⟨u,rfl⟩;have hbu:=jZ.trans (u.2.mono jZ.size);have Zk:=ah (gZ.out (by simp))
       clear gZ Z8;go_wp2_with fail
       go_roundw
       case rel=>exact⟨j+1,by omega,by go_num,hbu,Zk.out⟩
       case measure=>simp[intOf];omega
      .have hf:=ah (Z8.out (by simp))
       refine aQ ?_;repeat(go_big_quiet_step ((go_at_call 115;exact aA _ (HD.out _))))
       refine wpQuiet_nil ?_;rintro _ ⟨u,rfl⟩;have hbu:=jZ.trans (u.2.mono jZ.size);clear gZ Z8;go_wp2_with fail
       go_ret;exact⟨aI hf.out.symm,hbu⟩
  .have hf:Hid (y8 s k=false):=by
    show _=_
    rw[P8.out,List.any_eq_false];intro m hm;rw[hno m (by have:=List.mem_range.1 hm;omega)];simp
   clear hno;go_wp2_with fail
   go_ret;exact⟨aI hf.out.symm,hb⟩
theorem I7 (A:Option Addr)(n c:Nat)(s:List ay)(w:World)(hx:aC w A n s)(hnc:n<=c):
 Calls Tryz.prog 76 #[.string { data:= #[114,101,99,111,118,101,114,97,98,108,101] },.slice A n c] w (eF s w (aY (y8 s) s.length)):=by
 have hl:=hx.1;have hn:=hx.2.1;have HX:=ah hx;clear hx;go_enter Tryz.func76,Tryz.ntmps76;go_wp2_with fail
 refine(dx A n c s w HX.out hnc).mono ?_;rintro e w1 ⟨rfl,hb1⟩;cases hv:aF s
 .have HV:=ah hv;clear hv;go_wp2_with fail
  go_ret2
  exact eF.no HV.out hb1
 .have HV:=ah hv;clear hv;go_wp2_with fail
  refine(n_ w1).mono ?_;rintro e w2 ⟨rfl,hw2⟩;have wh:Below w1.heap.size w1 w2:=by rw[hw2];exact aG.alloc aj _
  have qX:=hb1.trans (wh.mono hb1.size);have hlt2:w1.heap.size<w2.heap.size:=by rw[hw2];simp
  have HW2:=ah hw2;clear hw2;go_wp2_with fail
  go_loopw [14] (fun i wr=> ∃r:Nat,r<=0/\i=.int .i64 r/\Below w2.heap.size w2 wr) (fun i _=>5- (intOf i).toNat)
  case atStart=>exact⟨0,by omega,rfl,Below.refl _ _⟩
  case round=>
  obtain⟨r,hr,rfl,hb⟩:=hrel;obtain rfl:r=0:=by omega
  .rw[show((0:Nat):Int)=0 from rfl]
   have d0:wr.cell? ⟨w1.heap.size,0,none⟩=some (.string { data:= #[114,101,99,111,118,101,114,97,98,108,101] }):=(hb.cell (p:=⟨w1.heap.size,0,none⟩) hlt2).trans (by rw[HW2.out];exact aV _ _ _ _ _ rfl)
   have d1:wr.cell? ⟨w1.heap.size,1,none⟩=some (.func (.func 114) #[] #[]):=(hb.cell (p:=⟨w1.heap.size,1,none⟩) hlt2).trans (by rw[HW2.out];exact aV _ _ _ _ _ rfl)
   have hrun:Runs 114:=dG Tryz.func114 (by kernel_rfl) rfl
   unfold Runs at hrun;obtain⟨wo,rfl⟩: ∃wo:World,wo=wr:=⟨_,rfl⟩;obtain⟨W,hW⟩: ∃W:World,W=wo.alloc (.cells #[.string { data:= #[114,101,99,111,118,101,114,97,98,108,101] },.func (.func 114) #[] #[]] 114):=⟨_,rfl⟩;have x1:W.cell? ⟨wo.heap.size,1,none⟩=some (.func (.func 114) #[] #[]):=by rw[hW];exact aV _ _ _ _ _ rfl
   have hbW:Below wo.heap.size wo W:=by rw[hW];exact aG.alloc aj _
   have jZ:=hb.trans (hbW.mono hb.size);have HW:=ah hW;clear hW;go_wp2_with fail
   rw[<-HW.out];go_loopw [24] (fun i wr=> ∃k:Nat,k<=n/\i=.int .i64 k/\Below W.heap.size W wr/\ ∀j,j<k->y8 s j=false) (fun i _=>n- (intOf i).toNat)
   case atStart=>exact⟨0,Nat.zero_le _,rfl,Below.refl _ _,by omega⟩
   case round=>
    obtain⟨wi,rfl⟩: ∃wi:World,wi=wr:=⟨_,rfl⟩;obtain⟨k,hk,rfl,hbi,hno⟩:=hrel;have jP:=jZ.trans (hbi.mono jZ.size);by_cases hlt:k<n
    .have y1:=(hbi.cell (p:=⟨wo.heap.size,1,none⟩) (block_lt_of_cell x1)).trans x1;obtain⟨bb,hbb⟩: ∃b,y8 s k=b:=⟨_,rfl⟩;have hC:Calls Tryz.prog 114 #[.slice A n c,.int .i64 (k:Int)] wi fun e w'=>e=.returned (.bool bb)/\Below wi.heap.size wi w':=by
      have:=Nt A n c k s wi (HX.out.below (qX.trans (jP.mono qX.size)) aj) hnc hlt;rw[hbb] at this;exact this
     have HT:Hid (bb=true->aY (y8 s) s.length=(k:Int)):=fun h=>by rw[hl];exact l8 hlt (hbb.trans h) hno
     have HN:Hid (bb=false-> ∀j,j<k+1->y8 s j=false):=fun h j hj=>by
      by_cases e:j=k
      .subst e;exact hbb.trans h
      .exact hno j (by omega)
     have HC:=ah hC;clear hC hno hbb;go_wp2_with fail
     refine HC.out.mono ?_;rintro e w5 ⟨rfl,hb5⟩;cases bb
     .have hn2:=ah (HN.out (by first|rfl|trivial))
      go_wp2_with fail
      go_roundw
      case rel=>exact⟨k+1,by omega,by go_num,hbi.trans (hb5.mono hbi.size),hn2.out⟩
      case measure=>simp[intOf];omega
     .have ht2:=ah (HT.out (by first|rfl|trivial))
      have hbe:=qX.trans ((jP.trans (hb5.mono jP.size)).mono qX.size);go_wp2_with fail
      go_ret2
      exact eF.yes HV.out ht2.out hbe
    .have ht2:Hid (aY (y8 s) s.length= -1):=kS (fun j hj=>hno j (by omega))
     have hbe:=qX.trans (jP.mono qX.size);clear hno;go_wp2_with fail
     go_ret2
     exact eF.yes HV.out ht2.out hbe
theorem I8 (A:Option Addr)(n c:Nat)(s:List ay)(w:World)(hx:aC w A n s)(hnc:n<=c):
 Calls Tryz.prog 76 #[.string { data:= #[99,97,115,99,97,100,101,115] },.slice A n c] w (eF s w (aY (Aq s) s.length)):=by
 have hl:=hx.1;have hn:=hx.2.1;have HX:=ah hx;clear hx;go_enter Tryz.func76,Tryz.ntmps76;go_wp2_with fail
 refine(dx A n c s w HX.out hnc).mono ?_;rintro e w1 ⟨rfl,hb1⟩;cases hv:aF s
 .have HV:=ah hv;clear hv;go_wp2_with fail
  go_ret2
  exact eF.no HV.out hb1
 .have HV:=ah hv;clear hv;go_wp2_with fail
  refine(n_ w1).mono ?_;rintro e w2 ⟨rfl,hw2⟩;have wh:Below w1.heap.size w1 w2:=by rw[hw2];exact aG.alloc aj _
  have qX:=hb1.trans (wh.mono hb1.size);have hlt2:w1.heap.size<w2.heap.size:=by rw[hw2];simp
  have HW2:=ah hw2;clear hw2;go_wp2_with fail
  go_loopw [14] (fun i wr=> ∃r:Nat,r<=1/\i=.int .i64 r/\Below w2.heap.size w2 wr) (fun i _=>5- (intOf i).toNat)
  case atStart=>exact⟨0,by omega,rfl,Below.refl _ _⟩
  case round=>
  obtain⟨r,hr,rfl,hb⟩:=hrel;rcases(by omega:r=0\/r=1) with rfl|rfl
  .have d0:wr.cell? ⟨w1.heap.size,0,none⟩=some (.string { data:= #[114,101,99,111,118,101,114,97,98,108,101] }):=(hb.cell (p:=⟨w1.heap.size,0,none⟩) hlt2).trans (by rw[HW2.out];exact aV _ _ _ _ _ rfl)
   have d1:wr.cell? ⟨w1.heap.size,1,none⟩=some (.func (.func 114) #[] #[]):=(hb.cell (p:=⟨w1.heap.size,1,none⟩) hlt2).trans (by rw[HW2.out];exact aV _ _ _ _ _ rfl)
   have hne:(({ data:= #[114,101,99,111,118,101,114,97,98,108,101] } :ByteArray) != { data:= #[99,97,115,99,97,100,101,115] })=true:=by decide
   go_wp2_with fail
   go_roundw
   case rel=>exact⟨1,by omega,by go_num,hb.trans ((by(repeat(first|exact Below.refl _ _|assumption|refine aZ ?_ aj _|refine Below.drew ?_|refine bE ?_ _|refine bD (by assumption) ?_|(refine dF ?_ ?_;rotate_left; (first|exact Nat.le_refl _|(simp;done)|(simp at*;omega))))):Below wr.heap.size wr _).mono hb.size)⟩
   case measure=>simp[intOf] <;>omega
  .rw[show((1:Nat):Int)=1 from rfl]
   have d0:wr.cell? ⟨w1.heap.size,2,none⟩=some (.string { data:= #[99,97,115,99,97,100,101,115] }):=(hb.cell (p:=⟨w1.heap.size,2,none⟩) hlt2).trans (by rw[HW2.out];exact aV _ _ _ _ _ rfl)
   have d1:wr.cell? ⟨w1.heap.size,3,none⟩=some (.func (.func 116) #[] #[]):=(hb.cell (p:=⟨w1.heap.size,3,none⟩) hlt2).trans (by rw[HW2.out];exact aV _ _ _ _ _ rfl)
   have hrun:Runs 116:=dG Tryz.func116 (by kernel_rfl) rfl
   unfold Runs at hrun;obtain⟨wo,rfl⟩: ∃wo:World,wo=wr:=⟨_,rfl⟩;obtain⟨W,hW⟩: ∃W:World,W=wo.alloc (.cells #[.string { data:= #[99,97,115,99,97,100,101,115] },.func (.func 116) #[] #[]] 114):=⟨_,rfl⟩;have x1:W.cell? ⟨wo.heap.size,1,none⟩=some (.func (.func 116) #[] #[]):=by rw[hW];exact aV _ _ _ _ _ rfl
   have hbW:Below wo.heap.size wo W:=by rw[hW];exact aG.alloc aj _
   have jZ:=hb.trans (hbW.mono hb.size);have HW:=ah hW;clear hW;go_wp2_with fail
   rw[<-HW.out];go_loopw [24] (fun i wr=> ∃k:Nat,k<=n/\i=.int .i64 k/\Below W.heap.size W wr/\ ∀j,j<k->Aq s j=false) (fun i _=>n- (intOf i).toNat)
   case atStart=>exact⟨0,Nat.zero_le _,rfl,Below.refl _ _,by omega⟩
   case round=>
    obtain⟨wi,rfl⟩: ∃wi:World,wi=wr:=⟨_,rfl⟩;obtain⟨k,hk,rfl,hbi,hno⟩:=hrel;have jP:=jZ.trans (hbi.mono jZ.size);by_cases hlt:k<n
    .have y1:=(hbi.cell (p:=⟨wo.heap.size,1,none⟩) (block_lt_of_cell x1)).trans x1;obtain⟨bb,hbb⟩: ∃b,Aq s k=b:=⟨_,rfl⟩;have hC:Calls Tryz.prog 116 #[.slice A n c,.int .i64 (k:Int)] wi fun e w'=>e=.returned (.bool bb)/\Below wi.heap.size wi w':=by
      have:=Ns A n c k s wi (HX.out.below (qX.trans (jP.mono qX.size)) aj) hnc hlt;rw[hbb] at this;exact this
     have HT:Hid (bb=true->aY (Aq s) s.length=(k:Int)):=fun h=>by rw[hl];exact l8 hlt (hbb.trans h) hno
     have HN:Hid (bb=false-> ∀j,j<k+1->Aq s j=false):=fun h j hj=>by
      by_cases e:j=k
      .subst e;exact hbb.trans h
      .exact hno j (by omega)
     have HC:=ah hC;clear hC hno hbb;go_wp2_with fail
     refine HC.out.mono ?_;rintro e w5 ⟨rfl,hb5⟩;cases bb
     .have hn2:=ah (HN.out (by first|rfl|trivial))
      go_wp2_with fail
      go_roundw
      case rel=>exact⟨k+1,by omega,by go_num,hbi.trans (hb5.mono hbi.size),hn2.out⟩
      case measure=>simp[intOf];omega
     .have ht2:=ah (HT.out (by first|rfl|trivial))
      have hbe:=qX.trans ((jP.trans (hb5.mono jP.size)).mono qX.size);go_wp2_with fail
      go_ret2
      exact eF.yes HV.out ht2.out hbe
    .have ht2:Hid (aY (Aq s) s.length= -1):=kS (fun j hj=>hno j (by omega))
     have hbe:=qX.trans (jP.mono qX.size);clear hno;go_wp2_with fail
     go_ret2
     exact eF.yes HV.out ht2.out hbe
end Go.Proofs.YtddkjbibjjehjaaGreatDoor
