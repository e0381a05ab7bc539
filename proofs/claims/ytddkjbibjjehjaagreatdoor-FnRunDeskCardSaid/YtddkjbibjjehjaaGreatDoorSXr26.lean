/-
  Texts that the proof rests on, joined: part 26.
-/
import Derived.Test.YtddkjbibjjehjaaGreatDoorSXr25
set_option maxHeartbeats 16000000
set_option maxRecDepth 100000
namespace Go.Proofs.YtddkjbibjjehjaaGreatDoor
open Go.RowKit Go.BigFrame
set_option linter.unusedVariables false
theorem dW {o:ay}(h:aJ o=true):(0<=o.tx/\o.tx<=3)/\(o.kind=0\/o.kind=1\/(2<=o.kind/\o.kind<=3))/\(o.kind<=1->0<=o.item/\o.item<=2):=by
 unfold aJ bU aK xW at h;simp only[Bool.and_eq_true,Bool.or_eq_true,beq_iff_eq,decide_eq_true_eq] at h;omega
theorem Ef {L:List ay}{t:Int}(h: ∀s∈L,fB s=true)(ht:0<=t/\t<=3): ∀j,j<=3-> ∀s∈gQ L t j,fB s=true
 |0,_=>h
 |j+1,hj=>by
  have h1:=Ef h ht j (by omega)
  rw[jy];split
  .intro s hs;rcases List.mem_append.1 hs with hs|hs
   .exact h1 s hs
   .rw[List.mem_singleton.1 hs];exact fC.2 (by simp only;omega)
  .exact h1
theorem KL (B R tg:Nat)(m:Value)(V:DV)(D:bY)(T:Nat)(w:World)(h:bO w B R tg m V D)(hT:T<=3)(hL:D.av.length<=8000):
 Calls Tryz.prog 199 #[.pointer (some ⟨R,0,none⟩),.int .i64 (T:Int)] w (GJ B R tg m V w ⟨D.done,D.wait,iT D.av T,D.dead⟩):=by
 have HST:Hid (bO w B R tg m V ⟨D.done,D.wait,gQ D.av (T:Int) 0,D.dead⟩):=h;clear h;have Wm:(T:Int)<4:=by omega
 have hT0:(0:Int)<=(T:Int):=by omega
 go_enter Tryz.func199,Tryz.ntmps199;go_wp2_with fail
 go_loopw [5] (fun i wr=> ∃ (k:Nat) (V':DV),k<=3/\i=.int .i64 k/\bO wr B R tg m V' ⟨D.done,D.wait,gQ D.av (T:Int) k,D.dead⟩/\lK R tg w V wr V') (fun i _=>3- (intOf i).toNat)
 case atStart=>exact⟨0,V,by omega,rfl,HST.out,lK.refl _ _ _ _⟩
 case round=>
  clear HST;obtain⟨k,V',hk,rfl,hA,hS⟩:=hrel;by_cases hlt:k<3
  .have hlen:=(rX D.av (T:Int) k).2;have hsc:=jy D.av (T:Int) k;have hok:=hA.ok;obtain⟨M,hM⟩: ∃M,gQ D.av (T:Int) k=M:=⟨_,rfl⟩;rw[hM] at hA hlen hsc hok;simp only at hok;have cT:=hA.cells.2.2.2.2.1;have cL:=hA.lock hT (show k<=2 by omega)
   simp only at cL;obtain⟨h,hh⟩: ∃h,aL M (T:Int) (k:Int)=h:=⟨_,rfl⟩;have hn:=Qz hok (T:Int) (k:Int);rw[hh] at hsc cL hn;have hk3:(k:Int)<3:=by omega
   have hk0:(0:Int)<=(k:Int):=by omega
   have HA:=ah hA;have HS:=ah hS;clear hh hM hok hA hS;by_cases hp:0<=h
   .rw[if_pos hp] at hsc;rw[decide_eq_true hp] at hn;have RV:=ah hsc;have hput:=IW B R tg m V' _ ⟨(T:Int),2,(k:Int)⟩ wr HA.out (fC.2 (by simp only;omega)) (by simp only;omega)
    unfold ay.val at hput;simp only at hput;have MS:=ah hput;clear hsc hput;go_wp2_with (go_at_call 202;go_loud (refine MS.out.mono ?_;rintro e w5 ⟨rfl,V5,qZ,hS5⟩;have H5:=ah (And.intro qZ (HS.out.trans hS5));clear qZ hS5))
    go_roundw
    case rel=>exact⟨k+1,V5,by omega,by go_num,by rw[RV.out];exact H5.out.1,H5.out.2⟩
    case measure=>simp[intOf];omega
   .rw[if_neg hp] at hsc;rw[decide_eq_false hp] at hn;have RV:=ah hsc;clear hsc;go_wp2_with fail
    go_roundw
    case rel=>exact⟨k+1,V',by omega,by go_num,by rw[RV.out];exact HA.out,HS.out⟩
    case measure=>simp[intOf];omega
  .obtain rfl:k=3:=by omega
   have HF:=ah (And.intro hA hS);clear hA hS;go_wp2_with fail
   go_end0
   exact⟨rfl,_,HF.out.1,HF.out.2⟩
def Compat (L:List ay):Prop:= ∀t u x:Int,t≠u->0<=aL L t x->aL L u x≠1
theorem Ug {L:List ay}(hok: ∀s∈L,fB s=true)(hc:Compat L){t x:Int} :aW L ⟨t,0,x⟩=if aL L t x= -1 then Fx L t x 1 else [] :=by
 unfold aW;rw[if_neg (by simp[aK])]
 unfold eP Fx;split
 .refine List.filter_congr fun u _=>?_
  have:=nX hok u x;rcases this with e|e|e<;>rw[e] <;>simp
 .rename_i h
  rw[List.filter_eq_nil_iff];intro u _ hu;simp only[Bool.and_eq_true,bne_iff_ne,decide_eq_true_eq,Bool.or_eq_true,beq_iff_eq] at hu;have h1:=nX hok t x;have:=hc t u x (Ne.symm hu.1) (by omega)
  omega
theorem QA {L:List ay}(hok: ∀s∈L,fB s=true)(hc:Compat L){t x:Int} :aW L ⟨t,1,x⟩=if aL L t x=1 then [] else Fx L t x 0:=by
 unfold aW;rw[if_neg (by simp[aK])]
 unfold eP Fx;split
 .rename_i h
  rw[List.filter_eq_nil_iff];intro u _ hu;simp only[Bool.and_eq_true,bne_iff_ne,decide_eq_true_eq] at hu;exact hc u t x hu.1 hu.2.1 h
 .refine List.filter_congr fun u _=>?_
  simp
theorem Uh {L:List ay}{o:ay}(h:2<=o.kind/\o.kind<=3):aW L o= [] :=by
 unfold aW;rw[if_pos (by unfold aK;simp;omega)]
theorem iW (B R tg:Nat)(m:Value)(V:DV)(D:bY)(o:ay)(w:World)(h:bO w B R tg m V D)(hv:aJ o=true)(hc:Compat D.av):
 Calls Tryz.prog 183 #[.pointer (some ⟨R,0,none⟩),o.val] w (aT w (aW D.av o)):=by
 obtain⟨htx,hkd,hit⟩:=dW hv;obtain⟨o0,ho0⟩: ∃o0,o=o0:=⟨_,rfl⟩;obtain⟨tx,kd,it⟩:=o;simp only at htx hkd hit;obtain⟨T,rfl⟩:=Int.eq_ofNat_of_zero_le htx.1;have Bc:T<=3:=by omega
 have Wm:(T:Int)<4:=by omega
 have hT0:(0:Int)<=(T:Int):=by omega
 obtain⟨W,hW⟩: ∃W:World,W=w.alloc (.cells #[.int .i64 (T:Int),.int .i64 kd,.int .i64 it] 89):=⟨_,rfl⟩;have hbW:Below w.heap.size w W:=by rw[hW];exact aG.alloc aj _
 have hbx:au W w.heap.size 89 [.int .i64 (T:Int),.int .i64 kd,.int .i64 it] :=by rw[hW];exact heap_alloc_new w _
 have hsW:w.heap.size<W.heap.size:=by rw[hW];simp
 have hcT:W.cell? ⟨R,4,none⟩=some (.pointer (some ⟨tg,0,none⟩)):=(h.eZ hbW).cells.2.2.2.2.1;have n0: ∀u:Later W,u.1.cell? ⟨w.heap.size,0,none⟩=some (.int .i64 (T:Int)):=fun u=>au.cell (au.below hbx u.2 aj) rfl
 have n1: ∀u:Later W,u.1.cell? ⟨w.heap.size,1,none⟩=some (.int .i64 kd):=fun u=>au.cell (au.below hbx u.2 aj) rfl
 have n2: ∀u:Later W,u.1.cell? ⟨w.heap.size,2,none⟩=some (.int .i64 it):=fun u=>au.cell (au.below hbx u.2 aj) rfl
 have hcl:(w.alloc (.cells #[.int .i64 (T:Int),.int .i64 kd,.int .i64 it] 89)).cell? ⟨R,4,none⟩=some (.pointer (some ⟨tg,0,none⟩)):=by rw[<-hW];exact hcT
 have HW:=ah hW;have HC:=ah hc;have hok:=ah h.ok;unfold ay.val;simp only;clear hW hc hbx hv;rcases hkd with rfl|rfl|hkd
 .obtain⟨hx0,hx2⟩:=hit (by omega)
  obtain⟨X,rfl⟩:=Int.eq_ofNat_of_zero_le hx0;have hX2:X<=2:=by omega
  have Y9:(X:Int)<3:=by omega
  have Aa:=Ug hok.out HC.out (t:=(T:Int)) (x:=(X:Int));rw[ho0] at Aa;obtain⟨g,hg⟩: ∃g,aL D.av (T:Int) (X:Int)=g:=⟨_,rfl⟩;rw[hg] at Aa;have n3: ∀u:Later W,u.1.cell? ⟨tg,T*3+X,none⟩=some (.int .i64 g):=fun u=>by have:=(h.eZ (hbW.trans (u.2.mono hbW.size))).lock Bc hX2;rw[hg] at this;exact this
  clear hg;by_cases hgm:g= -1
  .subst hgm;rw[if_pos rfl] at Aa;have BO:=ah Aa;have xD:=ah ho0;clear Aa ho0;go_enter Tryz.func183,Tryz.ntmps183;go_wp2_with fail
   rw[<-HW.out];clear hcl;refine aQ ?_;repeat(go_big_quiet_step (fail))
   refine wpQuiet_nil ?_;rintro _ ⟨u,rfl⟩;have RU:Below w.heap.size w u.1:=hbW.trans (u.2.mono hbW.size);have HO:Hid (Calls Tryz.prog 198 #[.pointer (some ⟨tg,0,none⟩),.int .i64 (T:Int),.int .i64 (X:Int),.int .i64 1] u.1 (aT u.1 (Fx D.av (T:Int) (X:Int) 1))):=Ee tg D.av (T:Int) X 1 u.1 ((h.eZ RU).Ue) hX2;have p0:u.1.cell? ⟨w.heap.size,0,none⟩=some (.int .i64 (T:Int)):=n0 u;have p2:u.1.cell? ⟨w.heap.size,2,none⟩=some (.int .i64 (X:Int)):=n2 u;have Vm:=ah RU;clear RU;go_wp2_with fail
   refine HO.out.mono ?_;rintro e w5 ⟨OA,oc,rfl,hoc,hfr,hb5⟩;have HF:Hid (aT w (aW D.av o0) (.returned (.slice OA (Fx D.av (T:Int) (X:Int) 1).length oc)) w5):=by
    show aT _ _ _ _
    rw[BO.out];exact aT.later Vm.out ⟨OA,oc,rfl,hoc,hfr,hb5⟩
   clear hoc hfr hb5;go_wp2_with fail
   go_ret;have hF:=HF.out;rw[<-xD.out] at hF;exact hF
  .rw[if_neg hgm] at Aa;have hgb:(g== -1)=false:=by simpa using hgm
   have BO:=ah Aa;have xD:=ah ho0;clear Aa ho0;go_enter Tryz.func183,Tryz.ntmps183;go_wp2_with fail
   rw[<-HW.out];clear hcl;refine aQ ?_;repeat(go_big_quiet_step (fail))
   refine wpQuiet_nil ?_;rintro _ ⟨u,rfl⟩;have n0': ∀q:Later u.1,q.1.cell? ⟨w.heap.size,0,none⟩=some (.int .i64 (T:Int)):=fun q=>n0 ⟨q.1,u.2.trans (q.2.mono u.2.size)⟩
   have n1': ∀q:Later u.1,q.1.cell? ⟨w.heap.size,1,none⟩=some (.int .i64 0):=fun q=>n1 ⟨q.1,u.2.trans (q.2.mono u.2.size)⟩
   have n2': ∀q:Later u.1,q.1.cell? ⟨w.heap.size,2,none⟩=some (.int .i64 (X:Int)):=fun q=>n2 ⟨q.1,u.2.trans (q.2.mono u.2.size)⟩
   clear n0 n1 n2 n3;go_wp2_with fail
   refine aQ ?_;repeat(go_big_quiet_step (fail))
   refine wpQuiet_nil ?_;rintro _ ⟨z,rfl⟩;have HF:Hid (aT w (aW D.av o0) (.returned (.slice none 0 0)) z.1):=by
    show aT _ _ _ _
    rw[BO.out];exact aT.nil (hbW.trans ((u.2.trans (z.2.mono u.2.size)).mono hbW.size))
   go_wp2_with fail
   go_ret;have hF:=HF.out;rw[<-xD.out] at hF;exact hF
 .obtain⟨hx0,hx2⟩:=hit (by omega)
  obtain⟨X,rfl⟩:=Int.eq_ofNat_of_zero_le hx0;have hX2:X<=2:=by omega
  have Y9:(X:Int)<3:=by omega
  have Aa:=QA hok.out HC.out (t:=(T:Int)) (x:=(X:Int));rw[ho0] at Aa;obtain⟨g,hg⟩: ∃g,aL D.av (T:Int) (X:Int)=g:=⟨_,rfl⟩;rw[hg] at Aa;have n3: ∀u:Later W,u.1.cell? ⟨tg,T*3+X,none⟩=some (.int .i64 g):=fun u=>by have:=(h.eZ (hbW.trans (u.2.mono hbW.size))).lock Bc hX2;rw[hg] at this;exact this
  clear hg;by_cases hgm:g=1
  .subst hgm;rw[if_pos rfl] at Aa;have BO:=ah Aa;have xD:=ah ho0;clear Aa ho0;go_enter Tryz.func183,Tryz.ntmps183;go_wp2_with fail
   rw[<-HW.out];clear hcl;refine aQ ?_;repeat(go_big_quiet_step (fail))
   refine wpQuiet_nil ?_;rintro _ ⟨u,rfl⟩;have n0': ∀q:Later u.1,q.1.cell? ⟨w.heap.size,0,none⟩=some (.int .i64 (T:Int)):=fun q=>n0 ⟨q.1,u.2.trans (q.2.mono u.2.size)⟩
   have n1': ∀q:Later u.1,q.1.cell? ⟨w.heap.size,1,none⟩=some (.int .i64 1):=fun q=>n1 ⟨q.1,u.2.trans (q.2.mono u.2.size)⟩
   have n2': ∀q:Later u.1,q.1.cell? ⟨w.heap.size,2,none⟩=some (.int .i64 (X:Int)):=fun q=>n2 ⟨q.1,u.2.trans (q.2.mono u.2.size)⟩
   have n3': ∀q:Later u.1,q.1.cell? ⟨tg,T*3+X,none⟩=some (.int .i64 1):=fun q=>n3 ⟨q.1,u.2.trans (q.2.mono u.2.size)⟩
   clear n0 n1 n2 n3;go_wp2_with fail
   refine aQ ?_;repeat(go_big_quiet_step (fail))
   refine wpQuiet_nil ?_;rintro _ ⟨z,rfl⟩;have HF:Hid (aT w (aW D.av o0) (.returned (.slice none 0 0)) z.1):=by
    show aT _ _ _ _
    rw[BO.out];exact aT.nil (hbW.trans ((u.2.trans (z.2.mono u.2.size)).mono hbW.size))
   go_wp2_with fail
   go_ret;have hF:=HF.out;rw[<-xD.out] at hF;exact hF
  .rw[if_neg hgm] at Aa;have hgb:(g !=1)=true:=by simpa using hgm
   have BO:=ah Aa;have xD:=ah ho0;clear Aa ho0;go_enter Tryz.func183,Tryz.ntmps183;go_wp2_with fail
   rw[<-HW.out];clear hcl;refine aQ ?_;repeat(go_big_quiet_step (fail))
   refine wpQuiet_nil ?_;rintro _ ⟨u,rfl⟩;have n0': ∀q:Later u.1,q.1.cell? ⟨w.heap.size,0,none⟩=some (.int .i64 (T:Int)):=fun q=>n0 ⟨q.1,u.2.trans (q.2.mono u.2.size)⟩
   have n1': ∀q:Later u.1,q.1.cell? ⟨w.heap.size,1,none⟩=some (.int .i64 1):=fun q=>n1 ⟨q.1,u.2.trans (q.2.mono u.2.size)⟩
   have n2': ∀q:Later u.1,q.1.cell? ⟨w.heap.size,2,none⟩=some (.int .i64 (X:Int)):=fun q=>n2 ⟨q.1,u.2.trans (q.2.mono u.2.size)⟩
   have n3': ∀q:Later u.1,q.1.cell? ⟨tg,T*3+X,none⟩=some (.int .i64 g):=fun q=>n3 ⟨q.1,u.2.trans (q.2.mono u.2.size)⟩
   clear n0 n1 n2 n3;go_wp2_with fail
   refine aQ ?_;repeat(go_big_quiet_step (fail))
   refine wpQuiet_nil ?_;rintro _ ⟨z,rfl⟩;have hBz:Below w.heap.size w z.1:=hbW.trans ((u.2.trans (z.2.mono u.2.size)).mono hbW.size);have HO:Hid (Calls Tryz.prog 198 #[.pointer (some ⟨tg,0,none⟩),.int .i64 (T:Int),.int .i64 (X:Int),.int .i64 0] z.1 (aT z.1 (Fx D.av (T:Int) (X:Int) 0))):=Ee tg D.av (T:Int) X 0 z.1 ((h.eZ hBz).Ue) hX2;have p0:z.1.cell? ⟨w.heap.size,0,none⟩=some (.int .i64 (T:Int)):=n0' z;have p2:z.1.cell? ⟨w.heap.size,2,none⟩=some (.int .i64 (X:Int)):=n2' z;have Vm:=ah hBz;clear hBz;go_wp2_with fail
   refine HO.out.mono ?_;rintro e w5 ⟨OA,oc,rfl,hoc,hfr,hb5⟩;have HF:Hid (aT w (aW D.av o0) (.returned (.slice OA (Fx D.av (T:Int) (X:Int) 0).length oc)) w5):=by
    show aT _ _ _ _
    rw[BO.out];exact aT.later Vm.out ⟨OA,oc,rfl,hoc,hfr,hb5⟩
   clear hoc hfr hb5;go_wp2_with fail
   go_ret;have hF:=HF.out;rw[<-xD.out] at hF;exact hF
 .have hx0:(kd==0)=false:=by simp;omega
  have hx1:(kd==1)=false:=by simp;omega
  have Aa:=Uh (L:=D.av) (o:=⟨(T:Int),kd,it⟩) hkd;rw[ho0] at Aa;have BO:=ah Aa;have xD:=ah ho0;clear Aa ho0;go_enter Tryz.func183,Tryz.ntmps183;go_wp2_with fail
  rw[<-HW.out];clear hcl;refine aQ ?_;repeat(go_big_quiet_step (fail))
  refine wpQuiet_nil ?_;rintro _ ⟨u,rfl⟩;have n0': ∀q:Later u.1,q.1.cell? ⟨w.heap.size,0,none⟩=some (.int .i64 (T:Int)):=fun q=>n0 ⟨q.1,u.2.trans (q.2.mono u.2.size)⟩
  have n1': ∀q:Later u.1,q.1.cell? ⟨w.heap.size,1,none⟩=some (.int .i64 kd):=fun q=>n1 ⟨q.1,u.2.trans (q.2.mono u.2.size)⟩
  have n2': ∀q:Later u.1,q.1.cell? ⟨w.heap.size,2,none⟩=some (.int .i64 it):=fun q=>n2 ⟨q.1,u.2.trans (q.2.mono u.2.size)⟩
  clear n0 n1 n2;go_wp2_with fail
  refine aQ ?_;repeat(go_big_quiet_step (fail))
  refine wpQuiet_nil ?_;rintro _ ⟨z,rfl⟩;have HF:Hid (aT w (aW D.av o0) (.returned (.slice none 0 0)) z.1):=by
   show aT _ _ _ _
   rw[BO.out];exact aT.nil (hbW.trans ((u.2.trans (z.2.mono u.2.size)).mono hbW.size))
  go_wp2_with fail
  go_ret;have hF:=HF.out;rw[<-xD.out] at hF;exact hF
end Go.Proofs.YtddkjbibjjehjaaGreatDoor
