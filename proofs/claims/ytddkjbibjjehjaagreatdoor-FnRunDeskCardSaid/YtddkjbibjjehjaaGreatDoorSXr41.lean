/-
  Texts that the proof rests on, joined: part 41.
-/
import Derived.IntWalk
import Derived.Test.YtddkjbibjjehjaaGreatDoorSXr4
set_option maxHeartbeats 16000000
set_option maxRecDepth 100000
namespace Go.Proofs.YtddkjbibjjehjaaGreatDoor
open Go.RowKit Go.BigFrame
set_option linter.unusedVariables false
def tH (a b c:Int):List Value:= [.int .i64 a,.int .i64 b,.int .i64 c]
theorem sS {w W:World}{a b c a' b' c' a2 b2 c2:Int}(hW:W=((w.alloc (.cells #[.int .i64 a,.int .i64 b,.int .i64 c] 89)).alloc (.cells #[.int .i64 a',.int .i64 b',.int .i64 c'] 89)).alloc (.cells #[.int .i64 a2,.int .i64 b2,.int .i64 c2] 89)):
 au W w.heap.size 89 (tH a b c)/\au W (w.heap.size+1) 89 (tH a' b' c')/\au W (w.heap.size+1+1) 89 (tH a2 b2 c2)/\Below w.heap.size w W:=by
 have at_: ∀ (v:World) (H:Nat) (x y z:Int),v.heap.size=H->au (v.alloc (.cells #[.int .i64 x,.int .i64 y,.int .i64 z] 89)) H 89 (tH x y z):=fun v H x y z h=>by subst h;exact heap_alloc_new v _
 subst hW;refine⟨au.alloc (au.alloc (at_ w _ a b c rfl) _) _,au.alloc (at_ _ _ a' b' c' (by simp)) _,at_ _ _ a2 b2 c2 (by simp),by(repeat(first|exact Below.refl _ _|assumption|refine aZ ?_ aj _|refine Below.drew ?_|refine bE ?_ _|refine bD (by assumption) ?_|(refine dF ?_ ?_;rotate_left; (first|exact Nat.le_refl _|(simp;done)|(simp at*;omega)))))⟩
theorem fD {w:World}{g:Nat}{a b c:Int}(h:au w g 89 (tH a b c)):w.cell? ⟨g,0,none⟩=some (.int .i64 a)/\w.cell? ⟨g,1,none⟩=some (.int .i64 b)/\w.cell? ⟨g,2,none⟩=some (.int .i64 c)/\w.frozen? ⟨g,0,none⟩=false/\w.frozen? ⟨g,1,none⟩=false/\w.frozen? ⟨g,2,none⟩=false:=
 ⟨au.cell h rfl,au.cell h rfl,au.cell h rfl,au.frozen h 0,au.frozen h 1,au.frozen h 2⟩
def NC (w:World)(e:Ending)(w':World):Prop:=e=.returned iw.val/\Below w.heap.size w w'
theorem wU (l:List UInt8)(hl:l.length<2)(w:World):Calls Tryz.prog 47 #[.string ⟨⟨l⟩⟩] w (NC w):=by
 have hl2:((l.length:Nat):Int)<2:=by omega
 go_enter Tryz.func47,Tryz.ntmps47;go_wp2_with fail
 refine bodyPost_ret (v:=.agg #[.int .i64 (-1),.int .i64 0,.int .i64 0]) (by simp[results,Tryz.results47,go_sem]) rfl ?_
 exact⟨rfl,by(repeat(first|exact Below.refl _ _|assumption|refine aZ ?_ aj _|refine Below.drew ?_|refine bE ?_ _|refine bD (by assumption) ?_|(refine dF ?_ ?_;rotate_left; (first|exact Nat.le_refl _|(simp;done)|(simp at*;omega)))))⟩
theorem FH (k t:UInt8)(r:List UInt8)(ht:(t.toNat:Int)<48\/57< (t.toNat:Int))(w:World):Calls Tryz.prog 47 #[.string ⟨⟨k::t::r⟩⟩] w (NC w):=by
 have e1: ∀h,(⟨⟨k::t::r⟩⟩:ByteArray)[1]'h=t:=fun _=>rfl
 rcases ht with ht|ht
 .go_enter Tryz.func47,Tryz.ntmps47;go_wp2_with fail
  refine bodyPost_ret (v:=.agg #[.int .i64 (-1),.int .i64 0,.int .i64 0]) (by simp[results,Tryz.results47,go_sem]) rfl ?_
  exact⟨rfl,by(repeat(first|exact Below.refl _ _|assumption|refine aZ ?_ aj _|refine Below.drew ?_|refine bE ?_ _|refine bD (by assumption) ?_|(refine dF ?_ ?_;rotate_left; (first|exact Nat.le_refl _|(simp;done)|(simp at*;omega)))))⟩
 .have ht2: ¬(t.toNat:Int)<48:=by omega
  go_enter Tryz.func47,Tryz.ntmps47;go_wp2_with fail
  refine bodyPost_ret (v:=.agg #[.int .i64 (-1),.int .i64 0,.int .i64 0]) (by simp[results,Tryz.results47,go_sem]) rfl ?_
  exact⟨rfl,by(repeat(first|exact Below.refl _ _|assumption|refine aZ ?_ aj _|refine Below.drew ?_|refine bE ?_ _|refine bD (by assumption) ?_|(refine dF ?_ ?_;rotate_left; (first|exact Nat.le_refl _|(simp;done)|(simp at*;omega)))))⟩
theorem Jg (k t:UInt8)(r:List UInt8)(ht: ¬(t.toNat:Int)<48)(ht2: ¬ 57< (t.toNat:Int))(h1:((k.toNat:Int)==114)=false)(h2:((k.toNat:Int)==119)=false)(h3:((k.toNat:Int)==99)=false)(h4:((k.toNat:Int)==97)=false)(w:World):Calls Tryz.prog 47 #[.string ⟨⟨k::t::r⟩⟩] w (NC w):=by
 have e1: ∀h,(⟨⟨k::t::r⟩⟩:ByteArray)[1]'h=t:=fun _=>rfl
 have e0: ∀h,(⟨⟨k::t::r⟩⟩:ByteArray)[0]'h=k:=fun _=>rfl
 go_enter Tryz.func47,Tryz.ntmps47;go_wp2_with fail
 refine bodyPost_ret (v:=.agg #[.int .i64 (-1),.int .i64 0,.int .i64 0]) (by simp[results,Tryz.results47,go_sem]) rfl ?_
 exact⟨rfl,by(repeat(first|exact Below.refl _ _|assumption|refine aZ ?_ aj _|refine Below.drew ?_|refine bE ?_ _|refine bD (by assumption) ?_|(refine dF ?_ ?_;rotate_left; (first|exact Nat.le_refl _|(simp;done)|(simp at*;omega)))))⟩
theorem Jh (t:UInt8)(r:List UInt8)(ht: ¬(t.toNat:Int)<48)(ht2: ¬ 57< (t.toNat:Int))(w:World):Calls Tryz.prog 47 #[.string ⟨⟨99::t::r⟩⟩] w fun e w'=>e=.returned (if r= [] then(⟨(t.toNat:Int) -48,2,0⟩:ay) else iw).val/\Below w.heap.size w w':=by
 have e1: ∀h,(⟨⟨99::t::r⟩⟩:ByteArray)[1]'h=t:=fun _=>rfl
 have e0: ∀h,(⟨⟨99::t::r⟩⟩:ByteArray)[0]'h=99:=fun _=>rfl
 have hE: ∀W,Calls Tryz.prog 87 #[.agg #[.int .i64 ((t.toNat:Int) -48),.int .i64 2,.int .i64 0]] W fun e w'=>e=.returned (.bool true)/\Below W.heap.size W w':=fun W=>bJ ⟨(t.toNat:Int) -48,2,0⟩ W
 have HE:=ah hE;have ht3:(t.toNat:Int)<=57:=by omega
 clear hE;obtain⟨u,hu⟩: ∃u:Int,(t.toNat:Int)=u:=⟨_,rfl⟩;rw[hu] at HE;obtain⟨W,hW⟩: ∃W:World,W=((w.alloc (.cells #[.int .i64 0,.int .i64 0,.int .i64 0] 89)).alloc (.cells #[.int .i64 (-1),.int .i64 0,.int .i64 0] 89)).alloc (.cells #[.int .i64 (u-48),.int .i64 2,.int .i64 0] 89):=⟨_,rfl⟩;obtain⟨q0,q1,q2,hbW⟩:=sS hW;have HW:=ah hW;have HQ:=ah (And.intro q0 (And.intro q1 (And.intro q2 hbW)));clear hW q0 q1 q2 hbW;go_enter Tryz.func47,Tryz.ntmps47;go_wp2_with fail
 rw[<-HW.out];refine(HE.out W).mono ?_;rintro e w2 ⟨rfl,hb2⟩;obtain⟨q0,q1,q2,hbW⟩:=HQ.out;have tu:=hbW.trans (hb2.mono hbW.size);obtain⟨c0,c1,c2,z0,z1,z2⟩:=fD (q0.below hb2 aj);obtain⟨d0,d1,d2,_,_,_⟩:=fD (q1.below hb2 aj);obtain⟨f0,f1,f2,y0,y1,y2⟩:=fD (q2.below hb2 aj);clear q0 q1 q2 hbW HQ HW HE hb2;cases r with
 |nil=>
  go_wp2_with fail
  refine bodyPost_ret (v:=.agg #[.int .i64 (u-48),.int .i64 2,.int .i64 0]) (by simp[results,Tryz.results47,go_sem,c0,c1,c2]) rfl ?_
  exact⟨by first|rfl|(simp[iw,ay.val,hu];done)|(rw[hv,hu];simp[iw,ay.val, *];done)|(rw[hv,if_neg (by omega)];simp[ay.val,hu];done),by(repeat(first|exact Below.refl _ _|assumption|refine aZ ?_ aj _|refine Below.drew ?_|refine bE ?_ _|refine bD (by assumption) ?_|(refine dF ?_ ?_;rotate_left; (first|exact Nat.le_refl _|(simp;done)|(simp at*;omega)))))⟩
 |cons a r=>
  have hn2:(((r.length:Int)+1+1+1)==2)=false:=by rw[beq_eq_false_iff_ne];omega
  go_wp2_with fail
  refine bodyPost_ret (v:=.agg #[.int .i64 (-1),.int .i64 0,.int .i64 0]) (by simp[results,Tryz.results47,go_sem,c0,c1,c2]) rfl ?_
  exact⟨by first|rfl|(simp[iw,ay.val,hu];done)|(rw[hv,hu];simp[iw,ay.val, *];done)|(rw[hv,if_neg (by omega)];simp[ay.val,hu];done),by(repeat(first|exact Below.refl _ _|assumption|refine aZ ?_ aj _|refine Below.drew ?_|refine bE ?_ _|refine bD (by assumption) ?_|(refine dF ?_ ?_;rotate_left; (first|exact Nat.le_refl _|(simp;done)|(simp at*;omega)))))⟩
theorem Ji (t:UInt8)(r:List UInt8)(ht: ¬(t.toNat:Int)<48)(ht2: ¬ 57< (t.toNat:Int))(w:World):Calls Tryz.prog 47 #[.string ⟨⟨97::t::r⟩⟩] w fun e w'=>e=.returned (if r= [] then(⟨(t.toNat:Int) -48,3,0⟩:ay) else iw).val/\Below w.heap.size w w':=by
 have e1: ∀h,(⟨⟨97::t::r⟩⟩:ByteArray)[1]'h=t:=fun _=>rfl
 have e0: ∀h,(⟨⟨97::t::r⟩⟩:ByteArray)[0]'h=97:=fun _=>rfl
 have hE: ∀W,Calls Tryz.prog 87 #[.agg #[.int .i64 ((t.toNat:Int) -48),.int .i64 3,.int .i64 0]] W fun e w'=>e=.returned (.bool true)/\Below W.heap.size W w':=fun W=>bJ ⟨(t.toNat:Int) -48,3,0⟩ W
 have HE:=ah hE;have ht3:(t.toNat:Int)<=57:=by omega
 clear hE;obtain⟨u,hu⟩: ∃u:Int,(t.toNat:Int)=u:=⟨_,rfl⟩;rw[hu] at HE;obtain⟨W,hW⟩: ∃W:World,W=((w.alloc (.cells #[.int .i64 0,.int .i64 0,.int .i64 0] 89)).alloc (.cells #[.int .i64 (-1),.int .i64 0,.int .i64 0] 89)).alloc (.cells #[.int .i64 (u-48),.int .i64 3,.int .i64 0] 89):=⟨_,rfl⟩;obtain⟨q0,q1,q2,hbW⟩:=sS hW;have HW:=ah hW;have HQ:=ah (And.intro q0 (And.intro q1 (And.intro q2 hbW)));clear hW q0 q1 q2 hbW;go_enter Tryz.func47,Tryz.ntmps47;go_wp2_with fail
 rw[<-HW.out];refine(HE.out W).mono ?_;rintro e w2 ⟨rfl,hb2⟩;obtain⟨q0,q1,q2,hbW⟩:=HQ.out;have tu:=hbW.trans (hb2.mono hbW.size);obtain⟨c0,c1,c2,z0,z1,z2⟩:=fD (q0.below hb2 aj);obtain⟨d0,d1,d2,_,_,_⟩:=fD (q1.below hb2 aj);obtain⟨f0,f1,f2,y0,y1,y2⟩:=fD (q2.below hb2 aj);clear q0 q1 q2 hbW HQ HW HE hb2;cases r with
 |nil=>
  go_wp2_with fail
  refine bodyPost_ret (v:=.agg #[.int .i64 (u-48),.int .i64 3,.int .i64 0]) (by simp[results,Tryz.results47,go_sem,c0,c1,c2]) rfl ?_
  exact⟨by first|rfl|(simp[iw,ay.val,hu];done)|(rw[hv,hu];simp[iw,ay.val, *];done)|(rw[hv,if_neg (by omega)];simp[ay.val,hu];done),by(repeat(first|exact Below.refl _ _|assumption|refine aZ ?_ aj _|refine Below.drew ?_|refine bE ?_ _|refine bD (by assumption) ?_|(refine dF ?_ ?_;rotate_left; (first|exact Nat.le_refl _|(simp;done)|(simp at*;omega)))))⟩
 |cons a r=>
  have hn2:(((r.length:Int)+1+1+1)==2)=false:=by rw[beq_eq_false_iff_ne];omega
  go_wp2_with fail
  refine bodyPost_ret (v:=.agg #[.int .i64 (-1),.int .i64 0,.int .i64 0]) (by simp[results,Tryz.results47,go_sem,c0,c1,c2]) rfl ?_
  exact⟨by first|rfl|(simp[iw,ay.val,hu];done)|(rw[hv,hu];simp[iw,ay.val, *];done)|(rw[hv,if_neg (by omega)];simp[ay.val,hu];done),by(repeat(first|exact Below.refl _ _|assumption|refine aZ ?_ aj _|refine Below.drew ?_|refine bE ?_ _|refine bD (by assumption) ?_|(refine dF ?_ ?_;rotate_left; (first|exact Nat.le_refl _|(simp;done)|(simp at*;omega)))))⟩
def lH (tx kd:Int)(r:List UInt8):ay:=match r with| [x] =>if(x.toNat:Int)<120\/122< (x.toNat:Int) then iw else⟨tx,kd,(x.toNat:Int) -120⟩|_=>iw
theorem ig (tx kd:Int):lH tx kd [] =iw:=rfl
theorem iq (tx kd:Int)(a b:UInt8)(r:List UInt8):lH tx kd (a::b::r)=iw:=rfl
theorem iY {tx kd:Int}{x:UInt8}(h:(x.toNat:Int)<120):lH tx kd [x] =iw:=by unfold lH;simp only;rw[if_pos (.inl h)]
theorem iZ {tx kd:Int}{x:UInt8}(h:122< (x.toNat:Int)):lH tx kd [x] =iw:=by unfold lH;simp only;rw[if_pos (.inr h)]
theorem jc {tx kd:Int}{x:UInt8}(h:120<=(x.toNat:Int))(h2:(x.toNat:Int)<=122):lH tx kd [x] =⟨tx,kd,(x.toNat:Int) -120⟩:=by unfold lH;simp only;rw[if_neg (by omega)]
theorem Jj (t:UInt8)(r:List UInt8)(ht: ¬(t.toNat:Int)<48)(ht2: ¬ 57< (t.toNat:Int))(w:World):Calls Tryz.prog 47 #[.string ⟨⟨114::t::r⟩⟩] w fun e w'=>e=.returned (lH ((t.toNat:Int) -48) 0 r).val/\Below w.heap.size w w':=by
 have e1: ∀h,(⟨⟨114::t::r⟩⟩:ByteArray)[1]'h=t:=fun _=>rfl
 have e0: ∀h,(⟨⟨114::t::r⟩⟩:ByteArray)[0]'h=114:=fun _=>rfl
 have hE: ∀W,Calls Tryz.prog 87 #[.agg #[.int .i64 ((t.toNat:Int) -48),.int .i64 0,.int .i64 0]] W fun e w'=>e=.returned (.bool false)/\Below W.heap.size W w':=fun W=>bJ ⟨(t.toNat:Int) -48,0,0⟩ W
 have HE:=ah hE;have ht3:(t.toNat:Int)<=57:=by omega
 clear hE;obtain⟨u,hu⟩: ∃u:Int,(t.toNat:Int)=u:=⟨_,rfl⟩;rw[hu] at HE;obtain⟨W,hW⟩: ∃W:World,W=((w.alloc (.cells #[.int .i64 0,.int .i64 0,.int .i64 0] 89)).alloc (.cells #[.int .i64 (-1),.int .i64 0,.int .i64 0] 89)).alloc (.cells #[.int .i64 (u-48),.int .i64 0,.int .i64 0] 89):=⟨_,rfl⟩;obtain⟨q0,q1,q2,hbW⟩:=sS hW;have HW:=ah hW;have HQ:=ah (And.intro q0 (And.intro q1 (And.intro q2 hbW)));clear hW q0 q1 q2 hbW;go_enter Tryz.func47,Tryz.ntmps47;go_wp2_with fail
 rw[<-HW.out];refine(HE.out W).mono ?_;rintro e w2 ⟨rfl,hb2⟩;obtain⟨q0,q1,q2,hbW⟩:=HQ.out;have tu:=hbW.trans (hb2.mono hbW.size);obtain⟨c0,c1,c2,z0,z1,z2⟩:=fD (q0.below hb2 aj);obtain⟨d0,d1,d2,_,_,_⟩:=fD (q1.below hb2 aj);obtain⟨f0,f1,f2,y0,y1,y2⟩:=fD (q2.below hb2 aj);clear q0 q1 q2 hbW HQ HW HE hb2;rcases r with _|⟨x,_|⟨b,r⟩⟩
 case nil=>
  go_wp2_with fail
  refine bodyPost_ret (v:=.agg #[.int .i64 (-1),.int .i64 0,.int .i64 0]) (by simp[results,Tryz.results47,go_sem,c0,c1,c2]) rfl ?_
  exact⟨by first|rfl|(rw[ig];rfl)|(rw[iq];rfl)|(rw[iY (by omega)];rfl)|(rw[iZ (by omega)];rfl)|(rw[jc (by omega) (by omega),hu,hv];rfl),by(repeat(first|exact Below.refl _ _|assumption|refine aZ ?_ aj _|refine Below.drew ?_|refine bE ?_ _|refine bD (by assumption) ?_|(refine dF ?_ ?_;rotate_left; (first|exact Nat.le_refl _|(simp;done)|(simp at*;omega)))))⟩
 case cons.cons=>
  have hn2:(((r.length:Int)+1+1+1+1)==3)=false:=by rw[beq_eq_false_iff_ne];omega
  go_wp2_with fail
  refine bodyPost_ret (v:=.agg #[.int .i64 (-1),.int .i64 0,.int .i64 0]) (by simp[results,Tryz.results47,go_sem,c0,c1,c2]) rfl ?_
  exact⟨by first|rfl|(rw[ig];rfl)|(rw[iq];rfl)|(rw[iY (by omega)];rfl)|(rw[iZ (by omega)];rfl)|(rw[jc (by omega) (by omega),hu,hv];rfl),by(repeat(first|exact Below.refl _ _|assumption|refine aZ ?_ aj _|refine Below.drew ?_|refine bE ?_ _|refine bD (by assumption) ?_|(refine dF ?_ ?_;rotate_left; (first|exact Nat.le_refl _|(simp;done)|(simp at*;omega)))))⟩
 case cons.nil=>
  have e2: ∀h,(⟨⟨114::t:: [x]⟩⟩:ByteArray)[2]'h=x:=fun _=>rfl
  obtain⟨v,hv⟩: ∃v:Int,(x.toNat:Int)=v:=⟨_,rfl⟩;have hv3:v<=255:=by have:=x.toNat_lt;omega
  by_cases hx:v<120
  .go_wp2_with fail
   refine bodyPost_ret (v:=.agg #[.int .i64 (-1),.int .i64 0,.int .i64 0]) (by simp[results,Tryz.results47,go_sem,c0,c1,c2]) rfl ?_
   exact⟨by first|rfl|(rw[ig];rfl)|(rw[iq];rfl)|(rw[iY (by omega)];rfl)|(rw[iZ (by omega)];rfl)|(rw[jc (by omega) (by omega),hu,hv];rfl),by(repeat(first|exact Below.refl _ _|assumption|refine aZ ?_ aj _|refine Below.drew ?_|refine bE ?_ _|refine bD (by assumption) ?_|(refine dF ?_ ?_;rotate_left; (first|exact Nat.le_refl _|(simp;done)|(simp at*;omega)))))⟩
  .by_cases hx2:122<v
   .go_wp2_with fail
    refine bodyPost_ret (v:=.agg #[.int .i64 (-1),.int .i64 0,.int .i64 0]) (by simp[results,Tryz.results47,go_sem,c0,c1,c2]) rfl ?_
    exact⟨by first|rfl|(rw[ig];rfl)|(rw[iq];rfl)|(rw[iY (by omega)];rfl)|(rw[iZ (by omega)];rfl)|(rw[jc (by omega) (by omega),hu,hv];rfl),by(repeat(first|exact Below.refl _ _|assumption|refine aZ ?_ aj _|refine Below.drew ?_|refine bE ?_ _|refine bD (by assumption) ?_|(refine dF ?_ ?_;rotate_left; (first|exact Nat.le_refl _|(simp;done)|(simp at*;omega)))))⟩
   .go_wp2_with fail
    refine bodyPost_ret (v:=.agg #[.int .i64 (u-48),.int .i64 0,.int .i64 (v-120)]) (by simp[results,Tryz.results47,go_sem,c0,c1,c2]) rfl ?_
    exact⟨by first|rfl|(rw[ig];rfl)|(rw[iq];rfl)|(rw[iY (by omega)];rfl)|(rw[iZ (by omega)];rfl)|(rw[jc (by omega) (by omega),hu,hv];rfl),by(repeat(first|exact Below.refl _ _|assumption|refine aZ ?_ aj _|refine Below.drew ?_|refine bE ?_ _|refine bD (by assumption) ?_|(refine dF ?_ ?_;rotate_left; (first|exact Nat.le_refl _|(simp;done)|(simp at*;omega)))))⟩
theorem Jk (t:UInt8)(r:List UInt8)(ht: ¬(t.toNat:Int)<48)(ht2: ¬ 57< (t.toNat:Int))(w:World):Calls Tryz.prog 47 #[.string ⟨⟨119::t::r⟩⟩] w fun e w'=>e=.returned (lH ((t.toNat:Int) -48) 1 r).val/\Below w.heap.size w w':=by
 have e1: ∀h,(⟨⟨119::t::r⟩⟩:ByteArray)[1]'h=t:=fun _=>rfl
 have e0: ∀h,(⟨⟨119::t::r⟩⟩:ByteArray)[0]'h=119:=fun _=>rfl
 have hE: ∀W,Calls Tryz.prog 87 #[.agg #[.int .i64 ((t.toNat:Int) -48),.int .i64 1,.int .i64 0]] W fun e w'=>e=.returned (.bool false)/\Below W.heap.size W w':=fun W=>bJ ⟨(t.toNat:Int) -48,1,0⟩ W
 have HE:=ah hE;have ht3:(t.toNat:Int)<=57:=by omega
 clear hE;obtain⟨u,hu⟩: ∃u:Int,(t.toNat:Int)=u:=⟨_,rfl⟩;rw[hu] at HE;obtain⟨W,hW⟩: ∃W:World,W=((w.alloc (.cells #[.int .i64 0,.int .i64 0,.int .i64 0] 89)).alloc (.cells #[.int .i64 (-1),.int .i64 0,.int .i64 0] 89)).alloc (.cells #[.int .i64 (u-48),.int .i64 1,.int .i64 0] 89):=⟨_,rfl⟩;obtain⟨q0,q1,q2,hbW⟩:=sS hW;have HW:=ah hW;have HQ:=ah (And.intro q0 (And.intro q1 (And.intro q2 hbW)));clear hW q0 q1 q2 hbW;go_enter Tryz.func47,Tryz.ntmps47;go_wp2_with fail
 rw[<-HW.out];refine(HE.out W).mono ?_;rintro e w2 ⟨rfl,hb2⟩;obtain⟨q0,q1,q2,hbW⟩:=HQ.out;have tu:=hbW.trans (hb2.mono hbW.size);obtain⟨c0,c1,c2,z0,z1,z2⟩:=fD (q0.below hb2 aj);obtain⟨d0,d1,d2,_,_,_⟩:=fD (q1.below hb2 aj);obtain⟨f0,f1,f2,y0,y1,y2⟩:=fD (q2.below hb2 aj);clear q0 q1 q2 hbW HQ HW HE hb2;rcases r with _|⟨x,_|⟨b,r⟩⟩
 case nil=>
  go_wp2_with fail
  refine bodyPost_ret (v:=.agg #[.int .i64 (-1),.int .i64 0,.int .i64 0]) (by simp[results,Tryz.results47,go_sem,c0,c1,c2]) rfl ?_
  exact⟨by first|rfl|(rw[ig];rfl)|(rw[iq];rfl)|(rw[iY (by omega)];rfl)|(rw[iZ (by omega)];rfl)|(rw[jc (by omega) (by omega),hu,hv];rfl),by(repeat(first|exact Below.refl _ _|assumption|refine aZ ?_ aj _|refine Below.drew ?_|refine bE ?_ _|refine bD (by assumption) ?_|(refine dF ?_ ?_;rotate_left; (first|exact Nat.le_refl _|(simp;done)|(simp at*;omega)))))⟩
 case cons.cons=>
  have hn2:(((r.length:Int)+1+1+1+1)==3)=false:=by rw[beq_eq_false_iff_ne];omega
  go_wp2_with fail
  refine bodyPost_ret (v:=.agg #[.int .i64 (-1),.int .i64 0,.int .i64 0]) (by simp[results,Tryz.results47,go_sem,c0,c1,c2]) rfl ?_
  exact⟨by first|rfl|(rw[ig];rfl)|(rw[iq];rfl)|(rw[iY (by omega)];rfl)|(rw[iZ (by omega)];rfl)|(rw[jc (by omega) (by omega),hu,hv];rfl),by(repeat(first|exact Below.refl _ _|assumption|refine aZ ?_ aj _|refine Below.drew ?_|refine bE ?_ _|refine bD (by assumption) ?_|(refine dF ?_ ?_;rotate_left; (first|exact Nat.le_refl _|(simp;done)|(simp at*;omega)))))⟩
 case cons.nil=>
  have e2: ∀h,(⟨⟨119::t:: [x]⟩⟩:ByteArray)[2]'h=x:=fun _=>rfl
  obtain⟨v,hv⟩: ∃v:Int,(x.toNat:Int)=v:=⟨_,rfl⟩;have hv3:v<=255:=by have:=x.toNat_lt;omega
  by_cases hx:v<120
  .go_wp2_with fail
   refine bodyPost_ret (v:=.agg #[.int .i64 (-1),.int .i64 0,.int .i64 0]) (by simp[results,Tryz.results47,go_sem,c0,c1,c2]) rfl ?_
   exact⟨by first|rfl|(rw[ig];rfl)|(rw[iq];rfl)|(rw[iY (by omega)];rfl)|(rw[iZ (by omega)];rfl)|(rw[jc (by omega) (by omega),hu,hv];rfl),by(repeat(first|exact Below.refl _ _|assumption|refine aZ ?_ aj _|refine Below.drew ?_|refine bE ?_ _|refine bD (by assumption) ?_|(refine dF ?_ ?_;rotate_left; (first|exact Nat.le_refl _|(simp;done)|(simp at*;omega)))))⟩
  .by_cases hx2:122<v
   .go_wp2_with fail
    refine bodyPost_ret (v:=.agg #[.int .i64 (-1),.int .i64 0,.int .i64 0]) (by simp[results,Tryz.results47,go_sem,c0,c1,c2]) rfl ?_
    exact⟨by first|rfl|(rw[ig];rfl)|(rw[iq];rfl)|(rw[iY (by omega)];rfl)|(rw[iZ (by omega)];rfl)|(rw[jc (by omega) (by omega),hu,hv];rfl),by(repeat(first|exact Below.refl _ _|assumption|refine aZ ?_ aj _|refine Below.drew ?_|refine bE ?_ _|refine bD (by assumption) ?_|(refine dF ?_ ?_;rotate_left; (first|exact Nat.le_refl _|(simp;done)|(simp at*;omega)))))⟩
   .go_wp2_with fail
    refine bodyPost_ret (v:=.agg #[.int .i64 (u-48),.int .i64 1,.int .i64 (v-120)]) (by simp[results,Tryz.results47,go_sem,c0,c1,c2]) rfl ?_
    exact⟨by first|rfl|(rw[ig];rfl)|(rw[iq];rfl)|(rw[iY (by omega)];rfl)|(rw[iZ (by omega)];rfl)|(rw[jc (by omega) (by omega),hu,hv];rfl),by(repeat(first|exact Below.refl _ _|assumption|refine aZ ?_ aj _|refine Below.drew ?_|refine bE ?_ _|refine bD (by assumption) ?_|(refine dF ?_ ?_;rotate_left; (first|exact Nat.le_refl _|(simp;done)|(simp at*;omega)))))⟩
theorem K7 (a b:UInt8):(decide (a<b))=decide ((a.toNat:Int)< (b.toNat:Int)):=by
 rw[decide_eq_decide,UInt8.lt_iff_toNat_lt];omega
theorem UW (a b:UInt8):(a==b)=((a.toNat:Int)==(b.toNat:Int)):=by
 rw[Bool.eq_iff_iff,beq_iff_eq,beq_iff_eq,<-UInt8.toNat_inj];omega
theorem K8 (l:List UInt8)(w:World):Calls Tryz.prog 47 #[.string ⟨⟨l⟩⟩] w fun e w'=>e=.returned (tJ l).val/\Below w.heap.size w w':=by
 match l with
 | [] =>exact wU [] (by simp) w
 | [a] =>exact wU [a] (by simp) w
 |k::t::r=>
  by_cases ht:(t<48||57<t)=true
  .have e:tJ (k::t::r)=iw:=by dsimp only[tJ];rw[if_pos ht]
   rw[e];refine FH k t r ?_ w;simp only[Bool.or_eq_true,K7,decide_eq_true_eq] at ht;exact ht
  .have ht1: ¬(t.toNat:Int)<48:=fun h=>ht (by simp only[Bool.or_eq_true,K7,decide_eq_true_eq];exact .inl h)
   have ht2: ¬ 57< (t.toNat:Int):=fun h=>ht (by simp only[Bool.or_eq_true,K7,decide_eq_true_eq];exact .inr h)
   by_cases h0:k=114
   .subst h0;have e:tJ (114::t::r)=lH ((t.toNat:Int) -48) 0 r:=by
     dsimp only[tJ]
     rw[if_neg ht,if_pos (by decide)]
     match r with
     | [] =>rfl
     |_::_::_=>rfl
     | [x] =>
      unfold lH;simp only[Bool.or_eq_true,K7,decide_eq_true_eq];rfl
    rw[e];exact Jj t r ht1 ht2 w
   .by_cases h1:k=119
    .subst h1;have e:tJ (119::t::r)=lH ((t.toNat:Int) -48) 1 r:=by
      dsimp only[tJ]
      rw[if_neg ht,if_pos (by decide)]
      match r with
      | [] =>rfl
      |_::_::_=>rfl
      | [x] =>
       unfold lH;simp only[Bool.or_eq_true,K7,decide_eq_true_eq];rfl
     rw[e];exact Jk t r ht1 ht2 w
    .have hn: ¬(k==114||k==119)=true:=by simp[h0,h1]
     by_cases h2:k=99
     .subst h2;have e:tJ (99::t::r)=if r= [] then⟨(t.toNat:Int) -48,2,0⟩ else iw:=by
       dsimp only[tJ]
       rw[if_neg ht,if_neg hn,if_pos (by decide)]
       cases r<;>simp
      rw[e];exact Jh t r ht1 ht2 w
     .by_cases h3:k=97
      .subst h3;have e:tJ (97::t::r)=if r= [] then⟨(t.toNat:Int) -48,3,0⟩ else iw:=by
        dsimp only[tJ]
        rw[if_neg ht,if_neg hn,if_pos (by decide)]
        cases r<;>simp
       rw[e];exact Ji t r ht1 ht2 w
      .have hn2: ¬(k==99||k==97)=true:=by simp[h2,h3]
       have e:tJ (k::t::r)=iw:=by
        dsimp only[tJ]
        rw[if_neg ht,if_neg hn,if_neg hn2]
       rw[e];have f: ∀c:UInt8,k≠c->((k.toNat:Int)==(c.toNat:Int))=false:=fun c h=>by rw[<-UW];simpa using h
       exact Jg k t r ht1 ht2 (f 114 h0) (f 119 h1) (f 99 h2) (f 97 h3) w
theorem dI (l:List UInt8)(d:UInt8)(w:World)(hn:l.length<=1073741824):
 Calls Tryz.prog 24 #[.string ⟨⟨l⟩⟩,.int .u8 (d.toNat:Int)] w (dH w (fK d l)):=by
 have HST:Hid ((w.alloc (.cells #[] 9)).ownsRow w.heap.size 9 1 (.slice (some ⟨w.heap.size,0,none⟩) 0 0) 0 (strCells [])):=
  World.ownsRow_made w #[] 0 aj (by decide) rfl
 obtain⟨n,hl⟩: ∃n,l.length=n:=⟨_,rfl⟩;have HL:=ah hl;have hsz:(⟨⟨l⟩⟩:ByteArray).size=n:=hl;obtain⟨s,hs⟩: ∃s:ByteArray,s=⟨⟨l⟩⟩:=⟨_,rfl⟩;rw[<-hs] at hsz ⊢;rw[hl] at hn;have HS:=ah hs;clear hl hs;go_enter Tryz.func24,Tryz.ntmps24;go_wp2_with fail
 go_loopw [5,6,7] (fun ov fv iv wr=> ∃ (k f m:Nat) (out:List (List UInt8)),k<=n/\f<=k/\m<=k/\iv=.int .i64 k/\fv=.int .i64 f/\Hid (Dl d l k out f)/\Below w.heap.size w wr/\wr.ownsRow w.heap.size 9 1 ov m (strCells out)) (fun _ _ i _=>n- (intOf i).toNat)
 case atStart=>exact⟨0,0,0,[],Nat.zero_le _,Nat.le_refl _,Nat.le_refl _,rfl,rfl,ah (JH d l),aG.alloc aj _,HST.out⟩
 case round=>
  clear HST;obtain⟨k,f,m,out,hk,hf,hm,rfl,rfl,HP,hb,hown⟩:=hrel;obtain⟨Ao,co,rfl,hmc⟩:=aD hown;by_cases hlt:k<n
  .obtain⟨x,hx⟩: ∃x,l[k]? =some x:=⟨_,List.getElem?_eq_getElem (by rw[HL.out];exact hlt)⟩
   have e1: ∀h,s[k]'h=x:=by
    intro h;have hs:=HS.out;subst hs;have:=(List.getElem?_eq_some_iff.1 hx).2;exact this
   have hlt2:(k:Int)< (n:Int):=by omega
   have hlt3:k<s.size:=by omega
   have RI:=ah hx;clear hx;by_cases hxd:x=d
   .have HC:=ah (Pg HP.out (by rw[RI.out,hxd]))
    have hxe:((x.toNat:Int)==(d.toNat:Int))=true:=by rw[hxd];simp
    have MC:Hid (s.extract f k=⟨⟨(l.drop f).take (k-f)⟩⟩):=by show _=_;rw[HS.out];exact rH l f k
    subst hxd;go_wp2_with (at_builtin;refine oz (.tmp 20) (.tmp 25) (hown.alloc _) (by simp;have:=hb.size;omega) (rG rfl MC.out) (by omega) rfl rfl rfl rfl ?_;intro v5 w5 hown5 hg5 Dy)
    have hb5:=Below.own hb hown aj (World.grownBy.trans (World.grownBy_alloc wr _ _) hg5);go_wp2_with fail
    go_roundw
    case rel=>exact⟨k+1,k+1,m+1,_,by omega,by omega,by omega,by go_num,by go_num,HC,hb5,hown5⟩
    case measure=>simp[intOf];omega
   .have HC:=ah (R_ HP.out RI.out hxd);have hxe:((x.toNat:Int)==(d.toNat:Int))=false:=by rw[<-UW];simpa using hxd
    go_wp2_with fail
    go_roundw
    case rel=>exact⟨k+1,f,m,_,by omega,by omega,by omega,by go_num,rfl,HC,hb,hown⟩
    case measure=>simp[intOf];omega
  .obtain rfl:k=n:=by omega
   have HE:Hid (fK d l=out++ [l.drop f]):=by
    have h:=HP.out;rw[<-HL.out] at h;exact Ph h
   have MC:Hid (s.extract f k=⟨⟨l.drop f⟩⟩):=by
    show _=_
    rw[HS.out,rH l f k,List.take_of_length_le (by rw[List.length_drop,HL.out];exact Nat.le_refl _)]
   go_wp2_with (at_builtin;refine oz (.tmp 29) (.tmp 33) (hown.alloc _) (by simp;have:=hb.size;omega) (rG rfl MC.out) (by omega) rfl rfl rfl rfl ?_;intro v5 w5 hown5 hg5 Dy)
   have hb5:=Below.own hb hown aj (World.grownBy.trans (World.grownBy_alloc wr _ _) hg5);obtain⟨A5,c5,rfl,Jy⟩:=aD hown5;have HR:Hid (dH w (fK d l) (.returned (.slice A5 (m+1) c5)) w5):=by
    show dH _ _ _ _
    rw[HE.out];exact dH.mk (JI hown5) Jy (eO.aH hown5 (by omega)) (Sb hown5) hb5
   clear hown5 hg5 hb5;go_wp2_with fail
   go_ret;exact HR.out
def lU (w0:World)(xs:List ay)(b:Bool)(e:Ending)(w:World):Prop:=
 ∃A c,e=.returned (.tuple #[.slice A xs.length c,.bool b])/\xs.length<=c/\bR w0 w A xs.length xs/\Below w0.heap.size w0 w
theorem lU.mk {w0 w:World}{xs:List ay}{A:Option Addr}{n c:Nat}{b:Bool}(hn:xs.length=n)(hc:n<=c)(h1:bR w0 w A n xs)(hb:Below w0.heap.size w0 w):lU w0 xs b (.returned (.tuple #[.slice A n c,.bool b])) w:=by
 subst hn;exact⟨A,c,rfl,hc,h1,hb⟩
theorem lU.nil {w0 w:World}{b:Bool}(h:Below w0.heap.size w0 w):lU w0 [] b (.returned (.tuple #[.slice none 0 0,.bool b])) w:=⟨none,0,rfl,Nat.le_refl _,bR.none_,h⟩
theorem fE (l:List UInt8)(w:World)(hn:l.length<=1073741824):
 Calls Tryz.prog 25 #[.string ⟨⟨l⟩⟩] w (lU w (aX l) (aF (aX l))):=by
 have HST:Hid ((w.alloc (.cells #[] 89)).ownsRow w.heap.size 89 3 (.slice (some ⟨w.heap.size,0,none⟩) 0 0) 0 (aB [])):=
  World.ownsRow_made w #[] 0 aj (by decide) rfl
 have HB0:Hid (Below w.heap.size w (w.alloc (.cells #[] 89))):=aG.alloc aj _;cases l with
 |nil=>
  have HV:=ah (rJ (some ⟨w.heap.size,0,none⟩) 0 0 [] (w.alloc (.cells #[] 89)) (aC.aH HST.out (by omega)))
  have HR:Hid (∀w',Below (w.alloc (.cells #[] 89)).heap.size (w.alloc (.cells #[] 89)) w'->lU w (aX []) (aF (aX [])) (.returned (.tuple #[.slice (some ⟨w.heap.size,0,none⟩) 0 0,.bool (aF [])])) w'):=fun w' hb=>
   lU.mk rfl aj (bR.aH (own_below HST.out hb) aj (by omega)) (HB0.out.trans (hb.mono (by simp)))
  go_enter Tryz.func25,Tryz.ntmps25;go_wp2_with (go_at_call 48;refine HV.out.mono ?_;rintro e w1 ⟨rfl,hb1⟩)
  go_ret2
  exact HR.out _ hb1
 |cons a r=>
  have hpar:aX (a::r)=(fK 44 (a::r)).map tJ:=by unfold aX;rw[if_neg (by simp)]
  have hnl:(fK 44 (a::r)).length<=1073741825:=Nat.le_trans (Dj 44 (a::r)) (by omega)
  have HSP:Hid (Calls Tryz.prog 24 #[.string ⟨⟨a::r⟩⟩,.int .u8 44] (w.alloc (.cells #[] 89)) (dH (w.alloc (.cells #[] 89)) (fK 44 (a::r)))):=dI (a::r) 44 _ hn;rw[hpar];obtain⟨ps,hps⟩: ∃ps,fK 44 (a::r)=ps:=⟨_,rfl⟩;rw[hps] at HSP hnl ⊢;clear hps hpar hn;go_enter Tryz.func25,Tryz.ntmps25;go_wp2_with (go_at_call 24;refine HSP.out.mono ?_;rintro e w1 ⟨A,c,rfl,hc,hx,hA,hb1⟩)
  obtain⟨n,hlen⟩: ∃n,ps.length=n:=⟨_,rfl⟩;have hb1':Below w.heap.size w w1:=HB0.out.trans (hb1.mono (by simp))
  have HOW:Hid (w1.ownsRow w.heap.size 89 3 (.slice (some ⟨w.heap.size,0,none⟩) 0 0) 0 (aB [])):=own_below HST.out hb1;have hs1:=hb1'.size;have hs2:=hb1.size;have hs3:w.heap.size+1<=w1.heap.size:=by simpa using hs2
  have hA2: ∀ad,A=some ad->w.heap.size+1<=ad.block/\(0<ps.length->ad.block<w1.heap.size):=fun ad had=>⟨by have:=hA ad had;simpa using this,fun h0=>by obtain⟨b,off,e,hlt,_⟩:=hx.2.2 h0;rw[had] at e;injection e with e;rw[e];exact hlt⟩
  rw[hlen] at hx hc hnl hA2;have HA:=ah hA2;try rw[hlen]
  have HX:=ah hx;have HLEN:=ah hlen;clear hx hb1 HST HB0 HSP hlen hA hA2 hs2;go_loopw [4,6] (fun ov iv wr=> ∃ (k:Nat),k<=n/\iv=.int .i64 k/\Below w.heap.size w wr/\Hid (eO wr A n ps)/\Hid (∀q,ov.ownBlock=some q->q=w.heap.size\/w1.heap.size<=q)/\w1.heap.size<=wr.heap.size/\wr.ownsRow w.heap.size 89 3 ov k (aB ((ps.map tJ).take k))) (fun _ i _=>n- (intOf i).toNat)
  case atStart=>exact⟨0,Nat.zero_le _,rfl,hb1',HX,ah (fun q hq=>.inl (by simpa[Value.ownBlock,eq_comm] using hq)),Nat.le_refl _,HOW.out⟩
  case round=>
   clear HOW;obtain⟨k,hk,rfl,hb,RQ,HQ,hsz,hown⟩:=hrel;obtain⟨Ao,co,rfl,hmc⟩:=aD hown;by_cases hlt:k<n
   .obtain⟨b,off,x,rfl,hbl,hx,c0⟩:=RQ.out.at_ hlt;obtain⟨hA1,hA2⟩:=HA.out _ rfl;have hA3:=hA2 (by omega)
    simp only at hA1 hA3;clear hA2;have hlt2:(k:Int)< (n:Int):=by omega
    have HT:Hid ((ps.map tJ).take (k+1)=(ps.map tJ).take k++ [tJ x]):=aR (by rw[List.getElem?_map,hx];rfl)
    have X3:=ah (K8 x);unfold ay.val at X3;clear hx;generalize tJ x=o at*;obtain⟨tx,kd,it⟩:=o;go_wp2_with (first
     |(go_at_call 47;refine(X3.out wr).mono ?_;rintro e w2 ⟨rfl,hb3⟩;have hown2:=own_below hown hb3)
     |(at_builtin;refine gX (.tmp 18) (.tmp 24) (hown2.alloc _) (by simp;have:=hb.size;have:=hb3.size;omega) (aC.dB _ ⟨_,_,_⟩ _) (by omega) rfl rfl rfl rfl ?_;intro v5 w5 hown5 hg5 Dy))
    have vv:=World.grownBy.trans (World.grownBy_alloc w2 _ _) hg5;have hb5:=Below.own (hb.trans (hb3.mono hb.size)) hown2 aj vv;have hgs:=World.grownBy.size vv;have acR:=hb3.size;have HX5:Hid (eO w5 (some ⟨b,off,none⟩) n ps):=(RQ.out.below hb3 aj).grown vv (fun ad had e=>by
     injection had with had;subst had;have:=HQ.out _ e;simp only at this;omega)
    have Xf:Hid (∀q,v5.ownBlock=some q->q=w.heap.size\/w1.heap.size<=q):=by
     intro q hq;rcases Dy with h|h
     .rw[h] at hq;exact HQ.out q hq
     .rw[h] at hq;injection hq with hq;simp at hq;exact .inr (by omega)
    clear hg5 Dy;go_wp2_with fail
    go_roundw
    case rel=>exact⟨k+1,by omega,by go_num,hb5,HX5,Xf,by omega,by rw[HT.out];exact hown5⟩
    case measure=>simp[intOf];omega
   .obtain rfl:k=n:=by omega
    have hall:(ps.map tJ).take k=ps.map tJ:=List.take_of_length_le (by rw[List.length_map,HLEN.out];exact Nat.le_refl _)
    rw[hall] at hown;have HOWN:=ah hown;have HV:=ah (rJ Ao k co (ps.map tJ) wr (aC.aH hown (by omega)))
    have HR:Hid (∀w',Below wr.heap.size wr w'->lU w (ps.map tJ) (aF (ps.map tJ)) (.returned (.tuple #[.slice Ao k co,.bool (aF (ps.map tJ))])) w'):=fun w' h=>
     lU.mk (by rw[List.length_map];exact HLEN.out) hmc (bR.aH (own_below HOWN.out h) aj (by omega)) (hb.trans (h.mono hb.size))
    clear hown hall RQ HQ;go_wp2_with (go_at_call 48;refine HV.out.mono ?_;rintro e w2 ⟨rfl,hb2⟩)
    go_ret2
    exact HR.out _ hb2
end Go.Proofs.YtddkjbibjjehjaaGreatDoor
