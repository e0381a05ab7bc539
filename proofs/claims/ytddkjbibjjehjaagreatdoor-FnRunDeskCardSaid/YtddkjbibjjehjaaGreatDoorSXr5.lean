/-
  Texts that the proof rests on, joined: part 5.
-/
import Derived.Test.YtddkjbibjjehjaaGreatDoorSXr4
set_option maxHeartbeats 16000000
set_option maxRecDepth 100000
namespace Go.Proofs.YtddkjbibjjehjaaGreatDoor
open Go.RowKit Go.BigFrame
set_option linter.unusedVariables false
def rO (s:List ay)(t:Int):Int:=JJ s ⟨t,2,0⟩
theorem H7 (A:Option Addr)(n c:Nat)(s:List ay)(t:Int)(w:World)(hx:aC w A n s):
 Calls Tryz.prog 110 #[.slice A n c,.int .i64 t] w fun e w'=>e=.returned (.int .i64 (rO s t))/\Below w.heap.size w w':=by
 have HS:=ah (JK A n c s ⟨t,2,0⟩ w hx);clear hx;go_enter Tryz.func110,Tryz.ntmps110;go_wp2_with fail
 refine HS.out.mono ?_;rintro e w1 ⟨rfl,hb⟩;go_wp2_with fail
 go_ret;exact⟨rfl,hb⟩
def JL (s:List ay)(t:Int):Nat->Nat
 |0=>0
 |k+1=>match s[k]? with|some o=>if o.tx==t&&o.kind==1 then JL s t k|||(1<<<o.item.toNat) else JL s t k|none=>JL s t k
def wI (s:List ay)(t:Int):Nat:=JL s t s.length
def rP (s:List ay):Prop:= ∀o∈s,o.kind=1->0<=o.item/\o.item<=2
theorem Dn (s:List ay)(t:Int)(h:rP s)(k:Nat):JL s t k<8:=by
 induction k with
 |zero=>simp[JL]
 |succ k ih=>
  simp only[JL];split
  .rename_i o ho
   split
   .rename_i hc
    have hm:=List.mem_of_getElem? ho;simp only[Bool.and_eq_true,beq_iff_eq] at hc;have:=h o hm hc.2;have h3:o.item.toNat<=2:=by omega
    have h4:(1<<<o.item.toNat)<2^3:=by
     rcases(by omega:o.item.toNat=0\/o.item.toNat=1\/o.item.toNat=2) with e|e|e<;>rw[e] <;>decide
    exact Nat.or_lt_two_pow (n:=3) ih h4
   .exact ih
  .exact ih
theorem H8 (A:Option Addr)(n c:Nat)(s:List ay)(t:Int)(w:World)(hx:aC w A n s)(hi:rP s):
 Calls Tryz.prog 112 #[.slice A n c,.int .i64 t] w fun e w'=>e=.returned (.int .i64 (wI s t:Nat))/\Below w.heap.size w w':=by
 have hn:=hx.2.1;have hl:=hx.1;have HX:=ah hx;have HI:=ah hi;clear hx hi;go_enter Tryz.func112,Tryz.ntmps112;go_wp2_with fail
 go_loopw [5,10] (fun m i wr=> ∃k:Nat,k<=n/\i=.int .i64 k/\m=.int .i64 (JL s t k:Nat)/\Below w.heap.size w wr) (fun _ i _=>n- (intOf i).toNat)
 case atStart=>exact⟨0,Nat.zero_le _,rfl,rfl,Below.refl _ _⟩
 case round=>
  obtain⟨k,hk,rfl,rfl,hb⟩:=hrel;by_cases hlt:k<n
  .obtain⟨b,off,o,rfl,hbl,ho,c0,c1,c2⟩:=(HX.out.below hb aj).at_ hlt;have hw8:=Dn s t HI.out k;have hit:=HI.out o (List.mem_of_getElem? ho);have hstep:Hid (JL s t (k+1)=if o.tx==t&&o.kind==1 then JL s t k|||(1<<<o.item.toNat) else JL s t k):=by
    show _=_
    simp only[JL,ho]
   generalize hM:JL s t k=M at*;have HM:=ah hM;clear hM ho;obtain⟨tx,kd,it⟩:=o;simp only at hstep c0 c1 c2 hit;by_cases h1:tx=t
   .subst h1;by_cases h2:kd=1
    .subst h2;have hit:=hit rfl;rcases(by omega:it=0\/it=1\/it=2) with rfl|rfl|rfl
     .have e1:bits .or .i64 (M:Int) 1=((M|||1:Nat):Int):=jl M 1 (by omega) (by omega)
      go_wp2_with fail
      go_roundw
      case rel=>exact⟨k+1,by omega,by go_num,by rw[hstep.out,if_pos (by simp)];rfl,hb.trans ((by(repeat(first|exact Below.refl _ _|assumption|refine aZ ?_ aj _|refine Below.drew ?_|refine bE ?_ _|refine bD (by assumption) ?_|(refine dF ?_ ?_;rotate_left; (first|exact Nat.le_refl _|(simp;done)|(simp at*;omega))))):Below wr.heap.size wr _).mono hb.size)⟩
      case measure=>simp[intOf];omega
     .have e1:bits .or .i64 (M:Int) 2=((M|||2:Nat):Int):=jl M 2 (by omega) (by omega)
      go_wp2_with fail
      go_roundw
      case rel=>exact⟨k+1,by omega,by go_num,by rw[hstep.out,if_pos (by simp)];rfl,hb.trans ((by(repeat(first|exact Below.refl _ _|assumption|refine aZ ?_ aj _|refine Below.drew ?_|refine bE ?_ _|refine bD (by assumption) ?_|(refine dF ?_ ?_;rotate_left; (first|exact Nat.le_refl _|(simp;done)|(simp at*;omega))))):Below wr.heap.size wr _).mono hb.size)⟩
      case measure=>simp[intOf];omega
     .have e1:bits .or .i64 (M:Int) 4=((M|||4:Nat):Int):=jl M 4 (by omega) (by omega)
      go_wp2_with fail
      go_roundw
      case rel=>exact⟨k+1,by omega,by go_num,by rw[hstep.out,if_pos (by simp)];rfl,hb.trans ((by(repeat(first|exact Below.refl _ _|assumption|refine aZ ?_ aj _|refine Below.drew ?_|refine bE ?_ _|refine bD (by assumption) ?_|(refine dF ?_ ?_;rotate_left; (first|exact Nat.le_refl _|(simp;done)|(simp at*;omega))))):Below wr.heap.size wr _).mono hb.size)⟩
      case measure=>simp[intOf];omega
    .have h2':(kd==1)=false:=by simpa using h2
     clear hit;go_wp2_with fail
     go_roundw
     case rel=>exact⟨k+1,by omega,by go_num,by rw[hstep.out,if_neg (by simp[h2'])],hb.trans ((by(repeat(first|exact Below.refl _ _|assumption|refine aZ ?_ aj _|refine Below.drew ?_|refine bE ?_ _|refine bD (by assumption) ?_|(refine dF ?_ ?_;rotate_left; (first|exact Nat.le_refl _|(simp;done)|(simp at*;omega))))):Below wr.heap.size wr _).mono hb.size)⟩
     case measure=>simp[intOf];omega
   .have h1':(tx==t)=false:=by simpa using h1
    clear hit;go_wp2_with fail
    go_roundw
    case rel=>exact⟨k+1,by omega,by go_num,by rw[hstep.out,if_neg (by simp[h1'])],hb.trans ((by(repeat(first|exact Below.refl _ _|assumption|refine aZ ?_ aj _|refine Below.drew ?_|refine bE ?_ _|refine bD (by assumption) ?_|(refine dF ?_ ?_;rotate_left; (first|exact Nat.le_refl _|(simp;done)|(simp at*;omega))))):Below wr.heap.size wr _).mono hb.size)⟩
    case measure=>simp[intOf];omega
  .obtain rfl:k=n:=by omega
   have h1:Hid (JL s t k=wI s t):=by show _=_;unfold wI;rw[hl]
   go_wp2_with fail
   go_ret;exact⟨by rw[<-h1.out];rfl,hb⟩
def Xu (s:List ay)(t u:Int):Bool:=decide (qg s t<rO s u) && ((wI s u&&&wI s t) !=0)
def mU (s:List ay)(out:List Int)(o:ay):List Int:=if o.kind==2&& !(out.any (Xu s o.tx)) then out++ [o.tx] else out
def qh (s:List ay)(k:Nat):List Int:=(s.take k).foldl (mU s) []
def Oe (s:List ay):List Int:=s.foldl (mU s) []
theorem AY {s:List ay}{k:Nat}{o:ay}(h:s[k]? =some o):qh s (k+1)=mU s (qh s k) o:=by
 unfold qh;rw[aR h,List.foldl_append];rfl
theorem Dq {s:List ay}{k:Nat}(h:s.length<=k):qh s k=Oe s:=by
 unfold qh Oe;rw[List.take_of_length_le h]
theorem zD (x:Int)(A:Option Addr)(n c b b2:Nat)(s:List ay)(t kd it:Int)(w:World)(hc:w.cell? ⟨b,0,none⟩=some (.slice A n c))(hx:aC w A n s)(hi:rP s)
 (h0:w.cell? ⟨b2,0,none⟩=some (.int .i64 t)) (h1:w.cell? ⟨b2,1,none⟩=some (.int .i64 kd)) (h2:w.cell? ⟨b2,2,none⟩=some (.int .i64 it)):
 Calls Tryz.prog 109 #[.int .i64 x,.pointer (some ⟨b,0,none⟩),.pointer (some ⟨b2,0,none⟩)] w fun e w'=>e=.returned (.bool (Xu s t x))/\Below w.heap.size w w':=by
 have L:=Later.cell hc;have L0:=Later.cell h0;have L1:=Later.cell h1;have L2:=Later.cell h2;have hC: ∀u:Later w,Calls Tryz.prog 110 #[.slice A n c,.int .i64 x] u.1 fun e w'=>e=.returned (.int .i64 (rO s x))/\Below u.1.heap.size u.1 w':=fun u=>H7 A n c s x u.1 (hx.later u)
 have hF: ∀u:Later w,Calls Tryz.prog 111 #[.slice A n c,.int .i64 t] u.1 fun e w'=>e=.returned (.int .i64 (qg s t))/\Below u.1.heap.size u.1 w':=fun u=>H6 A n c s t u.1 (hx.later u)
 have hW: ∀ (y:Int) (u:Later w),Calls Tryz.prog 112 #[.slice A n c,.int .i64 y] u.1 fun e w'=>e=.returned (.int .i64 (wI s y:Nat))/\Below u.1.heap.size u.1 w':=fun y u=>H8 A n c s y u.1 (hx.later u) hi
 have hb:bits .and .i64 (wI s x:Int) (wI s t:Int)=((wI s x&&&wI s t:Nat):Int):=Ht _ _ (by have:=Dn s x hi s.length;unfold wI;omega) (by have:=Dn s t hi s.length;unfold wI;omega)
 have HC:=ah hC;have HF:=ah hF;have HW:=ah hW;have hres:Hid (Xu s t x=(decide (qg s t<rO s x) && ((wI s x&&&wI s t) !=0))):=rfl;clear hC hF hW hx hi hc h0 h1 h2;cases hlt:decide (qg s t<rO s x)
 .have hlt2:=hlt;have HL:=ah hlt;clear hlt;go_enter Tryz.func109,Tryz.ntmps109;go_wp2_with fail
  refine aQ ?_;repeat(go_big_quiet_step ((first|(go_at_call 110;exact aA _ (HC.out _))|(go_at_call 111;exact aA _ (HF.out _))|(go_at_call 112;exact aA _ (HW.out _ _)))))
  refine wpQuiet_nil ?_;rintro _ ⟨u,rfl⟩;go_wp2_with fail
  go_ret;exact⟨aI (by rw[hres.out,HL.out];rfl),u.2⟩
 .have hlt2:=hlt;have HL:=ah hlt;clear hlt;obtain⟨bz,hz⟩: ∃b,((wI s x&&&wI s t) !=0)=b:=⟨_,rfl⟩;have hz2:((((wI s x&&&wI s t:Nat)):Int) !=0)=bz:=by
   have e:((((wI s x&&&wI s t:Nat)):Int) !=0)=((wI s x&&&wI s t) !=0):=by
    rw[Bool.eq_iff_iff];simp
   exact e.trans hz
  have HZ:=ah hz;clear hz;cases bz
  all_goals
   go_enter Tryz.func109,Tryz.ntmps109;go_wp2_with fail
   refine aQ ?_;repeat(go_big_quiet_step ((first|(go_at_call 110;exact aA _ (HC.out _))|(go_at_call 111;exact aA _ (HF.out _))|(go_at_call 112;exact aA _ (HW.out _ _)))))
   refine wpQuiet_nil ?_;rintro _ ⟨u,rfl⟩;go_wp2_with fail
   go_ret;exact⟨aI (by rw[hres.out,HL.out,HZ.out];rfl),u.2⟩
theorem H9 {s:List ay}(h:aF s=true):rP s:=by
 intro o ho h1;have:=ou h o ho;simp[aJ,bU,aK,xW,h1] at this;omega
theorem yA:Runs 109:=dG Tryz.func109 (by kernel_rfl) rfl
theorem Sk {w:World}{ops:Array Oper}{rest:List Oper}{o:Oper}{a:Act}{Q:Exit->Act->World->Prop}(s x:Operand){base:Nat}{v:Value}{n:Nat}{xs:List Int}(hown:w.ownsRow base 3 1 v n (intCells xs))(hbase:base<=w.heap.size)
 {A:Option Addr} {m c:Nat} {ys:List Int} (hr:aM w A m ys) (hn:n<=1099511627776)
 (hgd:o.guard=none) (ho:o.op=.call { callee:=.builtin .append,args:= #[s,x],argTypes:= #[108,108] }) (hs:a.eval s=v) (hx:a.eval x=.slice A m c)
 (h: ∀v' w',w'.ownsRow base 3 1 v' (n+m) (intCells (xs++ys))->w.grownBy w' v.ownBlock->(v'.ownBlock=v.ownBlock\/v'.ownBlock=some w.heap.size)->wpList Tryz.prog ops Q rest (a.put o.dst v') w'):wpList Tryz.prog ops Q (o::rest) a w:=by
 obtain⟨i0,hi,hz0,hz1,hz2⟩:=info_parts jI;have hm:=hr.2.1;refine lV hgd s x _ ho base _ i0 _ 1 8 Tryz.underlying108 hi hz0 hz1 hz2 rfl (by decide) v n _ hs hown A m c _ hx hr.src (by simp only[maxLen];omega) (by omega) hbase ?_
 intro v' w' h1 h2 h3;have e:intCells xs++intCells ys=intCells (xs++ys):=by simp[intCells]
 rw[e] at h1;exact h v' w' h1 h2 h3
theorem BF (A:Option Addr)(n c:Nat)(s:List ay)(w:World)(hx:aC w A n s)(hi:rP s):
 Calls Tryz.prog 73 #[.slice A n c] w (aT w (Oe s)):=by
 have hn:=hx.2.1;have hl:=hx.1;have HX:=ah hx;have HI:=ah hi;clear hx hi;obtain⟨i0,hi,hz0,hz1,hz2⟩:=info_parts jI;have hbx:=aV w #[.slice A n c] 47 0 (.slice A n c) rfl;have iD:=ah hbx;clear hbx;go_enter Tryz.func73,Tryz.ntmps73;go_wp2_with (at_make;refine wpList_make_own _ rfl _ _ 108 rfl (w.heap.size+1) 3 i0 _ 1 Tryz.underlying108 hi hz0 hz1 .i64 .i64 _ 4 rfl rfl rfl (by rw[hz2];omega) (by unfold maxLen;omega) (by simp) ?_;intro w1 hown1 hg1;have hc1:w1.cell? ⟨w.heap.size,0,none⟩=some (.slice A n c):=hg1.cell iD.out (by simp))
 have hb1:Below w.heap.size w w1:=(aG.alloc aj _).grown hg1 (by simp) (by simp)
 have hlt1:=block_lt_of_cell hc1;simp only at hlt1;have HST:=ah (And.intro hown1 (And.intro hb1 hc1));clear hown1 hb1 hg1 hi hz0 hz1 hz2 hc1;go_loopw [3,10] (fun ov i wr=> ∃ (k m:Nat),k<=n/\m<=k/\i=.int .i64 k/\Below w.heap.size w wr/\wr.cell? ⟨w.heap.size,0,none⟩=some (.slice A n c)/\wr.ownsRow (w.heap.size+1) 3 1 ov m (intCells (qh s k))) (fun _ i _=>n- (intOf i).toNat)
 case atStart=>exact⟨0,0,Nat.zero_le _,Nat.le_refl _,rfl,HST.out.2.1,HST.out.2.2,by have:=HST.out.1;rw[World.size_alloc] at this;exact this⟩
 case round=>
  clear HST iD;obtain⟨k,m,hk,hmk,rfl,hb,hcs,hown⟩:=hrel;by_cases hlt:k<n
  .obtain⟨b,off,o,rfl,hbl,ho,c0,c1,c2⟩:=(HX.out.below hb aj).at_ hlt;have hs:=hb.size;have hstep:=ah (AY ho);have hcl: ∀W:World,W=wr.alloc (.cells #[.int .i64 o.tx,.int .i64 o.kind,.int .i64 o.item] 89)->
    Hq W 109 #[.pointer (some ⟨w.heap.size,0,none⟩),.pointer (some ⟨wr.heap.size,0,none⟩)] (qh s k) (Xu s o.tx)/\Below wr.heap.size wr W/\(∀u:Later W,u.1.cell? ⟨wr.heap.size,0,none⟩=some (.int .i64 o.tx))/\(∀u:Later W,u.1.cell? ⟨w.heap.size,0,none⟩=some (.slice (some ⟨b,off,none⟩) n c))/\wr.heap.size<W.heap.size:=by
    intro W hW;obtain⟨L0,L1,L2,hbW,hWs⟩:=kC hW;have hcW:W.cell? ⟨w.heap.size,0,none⟩=some (.slice (some ⟨b,off,none⟩) n c):=(hbW.cell (p:=⟨w.heap.size,0,none⟩) (block_lt_of_cell hcs)).trans hcs;refine⟨⟨yA,fun W' x hb' _=>?_⟩,hbW,L0,Later.cell hcW,hWs⟩
    have abo:Below w.heap.size w W':=hb.trans ((hbW.trans (hb'.mono hbW.size)).mono hs);exact zD x _ n c _ _ s o.tx o.kind o.item W' (Later.cell hcW ⟨W',hb'⟩) (HX.out.below abo aj) HI.out (L0 ⟨W',hb'⟩) (L1 ⟨W',hb'⟩) (L2 ⟨W',hb'⟩)
   have HC:=ah hcl;clear hcl ho;obtain⟨tx,kd,it⟩:=o;simp only at hstep c0 c1 c2 HC;by_cases hk2:kd=2
   .subst hk2;go_wp2_with fail
    obtain⟨W,hW⟩: ∃W:World,W=wr.alloc (.cells #[.int .i64 tx,.int .i64 2,.int .i64 it] 89):=⟨_,rfl⟩;rw[<-hW];obtain⟨hf,hbW,L0,LS,hWs⟩:=HC.out W hW;have yj:W.ownsRow (w.heap.size+1) 3 1 u3 m (intCells (qh s k)):=by rw[hW];exact hown.alloc _
    obtain⟨Ao,co,rfl,hmc⟩:=aD hown;refine(yg Ao m co _ _ _ _ W (aM.aH yj (by omega)) hf).mono ?_
    rintro e w2 ⟨rfl,hb2⟩;have hown2:=own_below yj hb2;have hbw:=hb.trans ((hbW.trans (hb2.mono (by omega))).mono hs)
    have hs2:=hb2.size;have hq0:=L0 ⟨w2,hb2⟩;have hqs:=LS ⟨w2,hb2⟩;simp only at hq0 hqs;clear hW hf L0 LS;obtain⟨bq,hbq⟩: ∃bq,(qh s k).any (Xu s tx)=bq:=⟨_,rfl⟩;rw[hbq];have HB:=ah hbq;clear hbq;cases bq
    .go_wp2_with (at_builtin;refine Sk (.tmp 22) (.tmp 25) (hown2.alloc _) (by simp;omega) (dB rfl _) (by omega) rfl rfl rfl rfl ?_;intro v3 w3 hown3 hg3 aU;have hg3':=World.grownBy.trans (World.grownBy_alloc w2 _ _) hg3)
     have hb3:=Below.own hbw hown2 (by omega) hg3'
     have abp:w3.cell? ⟨w.heap.size,0,none⟩=some (.slice (some ⟨b,off,none⟩) n c):=hg3'.cell hqs (fun e=>by have:=(World.ownsRow.lt hown2 _ e.symm).1;simp at this;omega)
     go_roundw
     case rel=>exact⟨k+1,m+1,by omega,by omega,by go_num,hb3,abp,by rw[hstep.out];unfold mU;rw[HB.out];exact hown3⟩
     case measure=>simp[intOf];omega
    .go_wp2_with fail
     go_roundw
     case rel=>exact⟨k+1,m,by omega,by omega,by go_num,hbw,hqs,by rw[hstep.out];unfold mU;rw[HB.out];exact hown2⟩
     case measure=>simp[intOf];omega
   .have LZ:(kd==2)=false:=by simpa using hk2
    go_wp2_with fail
    go_roundw
    case rel=>exact⟨k+1,m,by omega,by omega,by go_num,hb.trans ((by(repeat(first|exact Below.refl _ _|assumption|refine aZ ?_ aj _|refine Below.drew ?_|refine bE ?_ _|refine bD (by assumption) ?_|(refine dF ?_ ?_;rotate_left; (first|exact Nat.le_refl _|(simp;done)|(simp at*;omega))))):Below wr.heap.size wr _).mono hb.size),(World.cell?_alloc_lt _ _ _ (block_lt_of_cell hcs)).trans hcs,by rw[hstep.out];unfold mU;rw[LZ];exact hown.alloc _⟩
    case measure=>simp[intOf];omega
  .obtain⟨Ao,co,rfl,hmc⟩:=aD hown;rw[Dq (by omega)] at hown
   have HO:=ah (aT.mk (c:=m) (gY hown) aj (aN.aH hown (by omega) (by omega)) hb)
   clear hown;go_wp2_with fail
   go_ret;exact HO.out
theorem JM (A:Option Addr)(n c:Nat)(s:List ay)(t:Int)(w:World)(hx:aC w A n s):
 Calls Tryz.prog 57 #[.slice A n c,.int .i64 t] w fun e w'=>e=.returned (.int .i64 (fG s t:Nat))/\Below w.heap.size w w':=by
 have hn:=hx.2.1;have hl:=hx.1;have HX:=ah hx;clear hx;go_enter Tryz.func57,Tryz.ntmps57;go_wp2_with fail
 go_loop [5] (fun i=> ∃k:Nat,k<=n/\i=.int .i64 k/\(∀j,j<k-> ∀o,s[j]? =some o->(o.tx==t)=false)) (fun i=>n- (intOf i).toNat)
 case atStart=>exact⟨0,Nat.zero_le _,rfl,by omega⟩
 case round=>
  obtain⟨k,hk,rfl,hno⟩:=hrel;by_cases hlt:k<n
  .obtain⟨b,off,o,rfl,hbl,ho,c0,c1,c2⟩:=HX.out.at_ hlt;have HN:Hid ((o.tx==t)=false-> ∀j,j<k+1-> ∀o,s[j]? =some o->(o.tx==t)=false):=fun h=>mh (p:=fun o=>o.tx==t) ho hno h
   have HT:Hid ((o.tx==t)=true->fG s t=k):=fun h=>AQ ho h hno
   clear hno ho;obtain⟨tx,kd,it⟩:=o;simp only at c0 c1 c2 HN HT;by_cases h1:tx=t
   .have hs:=ah (HT.out (by simpa using h1))
    go_wp2_with fail
    go_ret;exact⟨by rw[hs.out];rfl,Below.refl _ _⟩
   .have hs:=ah (HN.out (by simpa using h1))
    go_wp2_with fail
    go_round
    case rel=>exact⟨k+1,by omega,by go_num,hs.out⟩
    case measure=>simp[intOf];omega
  .have HE:Hid (fG s t=s.length):=AR (fun j hj=>hno j (by omega))
   clear hno;go_wp2_with fail
   go_ret;exact⟨by rw[HE.out,hl];rfl,Below.refl _ _⟩
theorem H_ (A:Option Addr)(n c:Nat)(s:List ay)(t:Int)(w:World)(hx:aC w A n s):
 Calls Tryz.prog 56 #[.slice A n c,.int .i64 t] w fun e w'=>e=.returned (.int .i64 (kZ s t:Nat))/\Below w.heap.size w w':=by
 have hn:=hx.2.1;have hl:=hx.1;have HX:=ah hx;clear hx;go_enter Tryz.func56,Tryz.ntmps56;go_wp2_with fail
 go_loop [5] (fun i=> ∃k:Nat,k<=n/\i=.int .i64 k/\(∀j,j<k-> ∀o,s[j]? =some o->(o.tx==t&&o.kind==2)=false)) (fun i=>n- (intOf i).toNat)
 case atStart=>exact⟨0,Nat.zero_le _,rfl,by omega⟩
 case round=>
  obtain⟨k,hk,rfl,hno⟩:=hrel;by_cases hlt:k<n
  .obtain⟨b,off,o,rfl,hbl,ho,c0,c1,c2⟩:=HX.out.at_ hlt;have HN:Hid ((o.tx==t&&o.kind==2)=false-> ∀j,j<k+1-> ∀o,s[j]? =some o->(o.tx==t&&o.kind==2)=false):=fun h=>mh (p:=fun o=>o.tx==t&&o.kind==2) ho hno h
   have HT:Hid ((o.tx==t&&o.kind==2)=true->kZ s t=k):=fun h=>AQ ho h hno
   clear hno ho;obtain⟨tx,kd,it⟩:=o;simp only at c0 c1 c2 HN HT;by_cases h1:tx=t
   .by_cases h2:kd=2
    .have hs:=ah (HT.out (by simp[h1,h2]))
     go_wp2_with fail
     go_ret;exact⟨by rw[hs.out];rfl,Below.refl _ _⟩
    .have hs:=ah (HN.out (by simp[h2]))
     go_wp2_with fail
     go_round
     case rel=>exact⟨k+1,by omega,by go_num,hs.out⟩
     case measure=>simp[intOf];omega
   .have hs:=ah (HN.out (by simp[h1]))
    go_wp2_with fail
    go_round
    case rel=>exact⟨k+1,by omega,by go_num,hs.out⟩
    case measure=>simp[intOf];omega
  .have HE:Hid (kZ s t=s.length):=AR (fun j hj=>hno j (by omega))
   clear hno;go_wp2_with fail
   go_ret;exact⟨by rw[HE.out,hl];rfl,Below.refl _ _⟩
theorem AZ (A:Option Addr)(n c i:Nat)(s:List ay)(t Vf x:Int)(w:World)(hx:aC w A n s)(hi:i<=n):
 Calls Tryz.prog 93 #[.slice A n c,.int .i64 (i:Int),.int .i64 t,.int .i64 Vf,.int .i64 x] w fun e w'=>e=.returned (.bool (jm s i t Vf x))/\Below w.heap.size w w':=by
 have hn:=hx.2.1;have hl:=hx.1;have HX:=ah hx;clear hx;go_enter Tryz.func93,Tryz.ntmps93;go_wp2_with fail
 go_loop [11] (fun i'=> ∃k:Nat,k<=i/\i'=.int .i64 k/\(∀j,j<k-> ∀o,s[j]? =some o->(o.tx==t&&o.kind==Vf&&o.item==x)=false)) (fun i'=>i- (intOf i').toNat)
 case atStart=>exact⟨0,Nat.zero_le _,rfl,by omega⟩
 case round=>
  obtain⟨k,hk,rfl,hno⟩:=hrel;by_cases hlt:k<i
  .obtain⟨b,off,o,rfl,hbl,ho,c0,c1,c2⟩:=HX.out.at_ (k:=k) (by omega)
   have HN:Hid ((o.tx==t&&o.kind==Vf&&o.item==x)=false-> ∀j,j<k+1-> ∀o,s[j]? =some o->(o.tx==t&&o.kind==Vf&&o.item==x)=false):=fun h=>mh (p:=fun o=>o.tx==t&&o.kind==Vf&&o.item==x) ho hno h
   have HT:Hid ((o.tx==t&&o.kind==Vf&&o.item==x)=true->jm s i t Vf x=true):=fun h=>by
    refine List.any_eq_true.2 ⟨o,?_,h⟩;exact List.mem_of_getElem? (i:=k) (by rw[List.getElem?_take,if_pos hlt];exact ho)
   clear hno ho;obtain⟨tx,kd,it⟩:=o;simp only at c0 c1 c2 HN HT;by_cases h1:tx=t
   .by_cases h2:kd=Vf
    .by_cases h3:it=x
     .have hs:=ah (HT.out (by simp[h1,h2,h3]))
      go_wp2_with fail
      go_ret;exact⟨aI hs.out.symm,Below.refl _ _⟩
     .have hs:=ah (HN.out (by simp[h3]))
      go_wp2_with fail
      go_round
      case rel=>exact⟨k+1,by omega,by go_num,hs.out⟩
      case measure=>simp[intOf];omega
    .have hs:=ah (HN.out (by simp[h2]))
     go_wp2_with fail
     go_round
     case rel=>exact⟨k+1,by omega,by go_num,hs.out⟩
     case measure=>simp[intOf];omega
   .have hs:=ah (HN.out (by simp[h1]))
    go_wp2_with fail
    go_round
    case rel=>exact⟨k+1,by omega,by go_num,hs.out⟩
    case measure=>simp[intOf];omega
  .have HE:Hid (jm s i t Vf x=false):=mo (fun j hj o ho=>by
    rw[List.getElem?_take] at ho;split at ho
    .exact hno j (by omega) o ho
    .cases ho)
   clear hno;go_wp2_with fail
   go_ret;exact⟨aI HE.out.symm,Below.refl _ _⟩
theorem Og {k:Nat}(h:k<4):(ByteArray.extract ⟨#[114,119,99,97]⟩ k (k+1))=⟨⟨[R9.getD k 0]⟩⟩:=by
 rcases(by omega:k=0\/k=1\/k=2\/k=3) with rfl|rfl|rfl|rfl<;>decide
theorem VI {k:Nat}(h:k<4):(ByteArray.extract ⟨#[48,49,50,51]⟩ k (k+1))=⟨⟨[RH.getD k 0]⟩⟩:=by
 rcases(by omega:k=0\/k=1\/k=2\/k=3) with rfl|rfl|rfl|rfl<;>decide
theorem Sl {k:Nat}(h:k<4):(ByteArray.extract ⟨#[48,49,50,51,52,53,54,55,56,57]⟩ k (k+1))=⟨⟨[RH.getD k 0]⟩⟩:=by
 rcases(by omega:k=0\/k=1\/k=2\/k=3) with rfl|rfl|rfl|rfl<;>decide
theorem Oh {k:Nat}(h:k<3):(ByteArray.extract ⟨#[120,121,122]⟩ k (k+1))=⟨⟨[Xr.getD k 0]⟩⟩:=by
 rcases(by omega:k=0\/k=1\/k=2) with rfl|rfl|rfl<;>decide
theorem F4 {w W:World}{t k x:Int}(hW:W=w.alloc (.cells #[.int .i64 t,.int .i64 k,.int .i64 x] 89)):Below w.heap.size w W/\W.cell? ⟨w.heap.size,0,none⟩=some (.int .i64 t)/\W.cell? ⟨w.heap.size,1,none⟩=some (.int .i64 k)/\W.cell? ⟨w.heap.size,2,none⟩=some (.int .i64 x):=by
 subst hW;refine⟨aG.alloc aj _,?_,?_,?_⟩<;>(rw[cell_of_row _ _ _ _ _ (0,0) (heap_alloc_new w _)];rfl)
theorem iN (a b:List UInt8):(⟨⟨a⟩⟩:ByteArray)++⟨⟨b⟩⟩=⟨⟨a++b⟩⟩:=by
 apply ByteArray.ext
 simp
theorem JN (t k x:Nat)(ht:t<4)(hk:k<4)(hx:x<3)(w:World):
 Calls Tryz.prog 130 #[.agg #[.int .i64 t,.int .i64 k,.int .i64 x]] w fun e w'=>e=.returned (dw (pF ⟨t,k,x⟩))/\Below w.heap.size w w':=by
 obtain⟨W,hW⟩: ∃W:World,W=w.alloc (.cells #[.int .i64 (t:Int),.int .i64 (k:Int),.int .i64 (x:Int)] 89):=⟨_,rfl⟩;obtain⟨hbW,c0,c1,c2⟩:=F4 hW;have hlW:w.heap.size<W.heap.size:=by rw[hW];simp
 have HW:=ah hW;have HB:=ah hbW;have M0:=Later.cell c0;have M1:=Later.cell c1;have M2:=Later.cell c2;clear hW hbW;obtain⟨a,ha⟩: ∃a,R9.getD k 0=a:=⟨_,rfl⟩;obtain⟨b,hb⟩: ∃b,RH.getD t 0=b:=⟨_,rfl⟩;obtain⟨c,hc⟩: ∃c,Xr.getD x 0=c:=⟨_,rfl⟩;have hka:=Og hk;have htb:=VI ht;have hxc:=Oh hx;rw[ha] at hka;rw[hb] at htb;rw[hc] at hxc;have HA:=ah (oh ⟨(t:Int),(k:Int),(x:Int)⟩);unfold ay.val at HA;have HO:Hid (pF ⟨t,k,x⟩= [a,b] ++(if bU ⟨t,k,x⟩ then [c] else [])):=by
  show _=_
  unfold pF;simp only[Int.toNat_natCast,ha,hb,hc]
 clear ha hb hc;have l1:(k:Int)+1<=4:=by omega
 have l2:(t:Int)+1<=4:=by omega
 have l2':(t:Int)+1<=10:=by omega
 have l3:(x:Int)+1<=3:=by omega
 have n1:((k:Int)+1).toNat=k+1:=by omega
 have n2:((t:Int)+1).toNat=t+1:=by omega
 have n3:((x:Int)+1).toNat=x+1:=by omega
 simp only at HA;generalize pF ⟨t,k,x⟩=R at*;generalize bU ⟨t,k,x⟩=acc at*;go_enter Tryz.func130,Tryz.ntmps130;go_wp2_with fail
 rw[<-HW.out];refine aQ ?_;repeat(go_big_quiet_step (fail))
 refine wpQuiet_nil ?_;rintro _ ⟨u,rfl⟩;have d0:=M0 u;have d1:=M1 u;have d2:=M2 u;have hlu:w.heap.size<u.1.heap.size:=Nat.lt_of_lt_of_le hlW u.2.size;clear c0 c1 c2 M0 M1 M2;cases acc
 .go_wp2_with (go_at_call 121;refine(HA.out u.1).mono ?_;rintro e w2 ⟨rfl,hb2⟩;have e2:=(hb2.cell (p:=⟨w.heap.size,2,none⟩) hlu).trans d2;have tu:=(HB.out.trans (u.2.mono HB.out.size)).trans (hb2.mono (Nat.le_trans HB.out.size u.2.size)))
  go_ret;refine⟨?_,by first|exact tu|exact tu.drew⟩
  rw[HO.out];show Ending.returned (.string ((⟨⟨[a]⟩⟩:ByteArray)++⟨⟨[b]⟩⟩))=_
  rw[iN];rfl
 .go_wp2_with (go_at_call 121;refine(HA.out u.1).mono ?_;rintro e w2 ⟨rfl,hb2⟩;have e2:=(hb2.cell (p:=⟨w.heap.size,2,none⟩) hlu).trans d2;have tu:=(HB.out.trans (u.2.mono HB.out.size)).trans (hb2.mono (Nat.le_trans HB.out.size u.2.size)))
  go_ret;refine⟨?_,by first|exact tu|exact tu.drew⟩
  rw[HO.out];show Ending.returned (.string ((⟨⟨[a]⟩⟩:ByteArray)++⟨⟨[b]⟩⟩++⟨⟨[c]⟩⟩))=_
  rw[iN,iN];rfl
theorem F5 (t k x:Nat)(ht:t<4)(hk:k<4)(hx:x<3)(w:World):
 Calls Tryz.prog 45 #[.agg #[.int .i64 t,.int .i64 k,.int .i64 x]] w fun e w'=>e=.returned (dw (pF ⟨t,k,x⟩))/\Below w.heap.size w w':=by
 obtain⟨W,hW⟩: ∃W:World,W=w.alloc (.cells #[.int .i64 (t:Int),.int .i64 (k:Int),.int .i64 (x:Int)] 89):=⟨_,rfl⟩;obtain⟨hbW,c0,c1,c2⟩:=F4 hW;have hlW:w.heap.size<W.heap.size:=by rw[hW];simp
 have HW:=ah hW;have HB:=ah hbW;have M0:=Later.cell c0;have M1:=Later.cell c1;have M2:=Later.cell c2;clear hW hbW;obtain⟨a,ha⟩: ∃a,R9.getD k 0=a:=⟨_,rfl⟩;obtain⟨b,hb⟩: ∃b,RH.getD t 0=b:=⟨_,rfl⟩;obtain⟨c,hc⟩: ∃c,Xr.getD x 0=c:=⟨_,rfl⟩;have hka:=Og hk;have htb:=Sl ht;have hxc:=Oh hx;rw[ha] at hka;rw[hb] at htb;rw[hc] at hxc;have HA:=ah (bJ ⟨(t:Int),(k:Int),(x:Int)⟩);unfold ay.val at HA;have HO:Hid (pF ⟨t,k,x⟩= [a,b] ++(if aK ⟨t,k,x⟩ then [] else [c])):=by
  show _=_
  unfold pF;simp only[Int.toNat_natCast,ha,hb,hc];have hae:bU ⟨(t:Int),(k:Int),(x:Int)⟩= !aK ⟨(t:Int),(k:Int),(x:Int)⟩:=by
   unfold bU aK;simp only;rcases(by omega:k=0\/k=1\/k=2\/k=3) with rfl|rfl|rfl|rfl<;>rfl
  rw[hae];cases aK ⟨(t:Int),(k:Int),(x:Int)⟩<;>rfl
 clear ha hb hc;have l1:(k:Int)+1<=4:=by omega
 have l2:(t:Int)+1<=4:=by omega
 have l2':(t:Int)+1<=10:=by omega
 have l3:(x:Int)+1<=3:=by omega
 have n1:((k:Int)+1).toNat=k+1:=by omega
 have n2:((t:Int)+1).toNat=t+1:=by omega
 have n3:((x:Int)+1).toNat=x+1:=by omega
 simp only at HA;generalize pF ⟨t,k,x⟩=R at*;generalize aK ⟨t,k,x⟩=acc at*;go_enter Tryz.func45,Tryz.ntmps45;go_wp2_with fail
 rw[<-HW.out];refine aQ ?_;repeat(go_big_quiet_step (fail))
 refine wpQuiet_nil ?_;rintro _ ⟨u,rfl⟩;have d0:=M0 u;have d1:=M1 u;have d2:=M2 u;have hlu:w.heap.size<u.1.heap.size:=Nat.lt_of_lt_of_le hlW u.2.size;clear c0 c1 c2 M0 M1 M2;cases acc
 .go_wp2_with (go_at_call 87;refine(HA.out u.1).mono ?_;rintro e w2 ⟨rfl,hb2⟩;have e2:=(hb2.cell (p:=⟨w.heap.size,2,none⟩) hlu).trans d2;have tu:=(HB.out.trans (u.2.mono HB.out.size)).trans (hb2.mono (Nat.le_trans HB.out.size u.2.size)))
  go_ret;refine⟨?_,by first|exact tu|exact tu.drew⟩
  rw[HO.out];show Ending.returned (.string ((⟨⟨[a]⟩⟩:ByteArray)++⟨⟨[b]⟩⟩++⟨⟨[c]⟩⟩))=_
  rw[iN,iN];rfl
 .go_wp2_with (go_at_call 87;refine(HA.out u.1).mono ?_;rintro e w2 ⟨rfl,hb2⟩;have e2:=(hb2.cell (p:=⟨w.heap.size,2,none⟩) hlu).trans d2;have tu:=(HB.out.trans (u.2.mono HB.out.size)).trans (hb2.mono (Nat.le_trans HB.out.size u.2.size)))
  go_ret;refine⟨?_,by first|exact tu|exact tu.drew⟩
  rw[HO.out];show Ending.returned (.string ((⟨⟨[a]⟩⟩:ByteArray)++⟨⟨[b]⟩⟩))=_
  rw[iN];rfl
theorem Dr {o:ay}(h:aJ o=true)(w:World):Calls Tryz.prog 130 #[o.val] w fun e w'=>e=.returned (dw (pF o))/\Below w.heap.size w w':=by
 rcases Dh h with⟨k,t,x,hk,ht,hx,rfl⟩|⟨k,t,hk,ht,rfl⟩
 .exact JN t k x ht (by omega) hx w
 .exact JN t k 0 ht (by omega) (by omega) w
theorem Po {o:ay}(h:aJ o=true)(w:World):Calls Tryz.prog 45 #[o.val] w fun e w'=>e=.returned (dw (pF o))/\Below w.heap.size w w':=by
 rcases Dh h with⟨k,t,x,hk,ht,hx,rfl⟩|⟨k,t,hk,ht,rfl⟩
 .exact F5 t k x ht (by omega) hx w
 .exact F5 t k 0 ht (by omega) (by omega) w
end Go.Proofs.YtddkjbibjjehjaaGreatDoor
