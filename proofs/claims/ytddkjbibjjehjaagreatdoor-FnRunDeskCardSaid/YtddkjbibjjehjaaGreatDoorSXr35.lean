/-
  Texts that the proof rests on, joined: part 35.
-/
import Derived.Test.YtddkjbibjjehjaaGreatDoorSXr34
set_option maxHeartbeats 16000000
set_option maxRecDepth 100000
namespace Go.Proofs.YtddkjbibjjehjaaGreatDoor
open Go.RowKit Go.BigFrame
set_option linter.unusedVariables false
theorem Bq (A:Option Addr)(n c i:Nat)(s:List ay)(w:World)(hx:aC w A n s)(hi:i<n):
 Calls Tryz.prog 49 #[.string { data:= #[115,116,114,105,99,116] },.slice A n c,.int .i64 (i:Int)] w fun e w'=>e=.returned (.tuple #[.bool (kU false s i),.bool true])/\Below w.heap.size w w':=by
 have hn:=hx.2.1;have hl:=hx.1;obtain⟨b,off,q,hA,_,hq,_,_,_⟩:=hx.at_ hi;subst hA;have HX:=ah hx;have HQ:=ah hq;have HR:Hid (kU false s i=(List.range i).any (iR false s q i)):=by
  show _=_
  unfold kU;rw[hq]
 obtain⟨qt,qk,qi⟩:=q;clear hx hq;have hi0:(0:Int)<=(i:Int):=by omega
 have hin:(i:Int)< (n:Int):=by omega
 have s0:(({ data:= #[115,116,114,105,99,116] } :ByteArray)== { data:= #[114,101,99,111,118,101,114,97,98,108,101] })=false:=by decide
 have s1:(({ data:= #[115,116,114,105,99,116] } :ByteArray)== { data:= #[99,97,115,99,97,100,101,115] })=false:=by decide
 have s2:(({ data:= #[115,116,114,105,99,116] } :ByteArray)== { data:= #[115,116,114,105,99,116] })=true:=by decide
 have s3:(({ data:= #[115,116,114,105,99,116] } :ByteArray)== { data:= #[114,105,103,111,114,111,117,115] })=false:=by decide
 rw[HR.out];go_enter Tryz.func49,Tryz.ntmps49;go_wp2_with fail
 go_loopw [11] (fun x wr=> ∃k:Nat,k<=i/\x=.int .i64 k/\Below w.heap.size w wr/\(List.range k).any (iR false s ⟨qt,qk,qi⟩ i)=false) (fun x _=>i- (intOf x).toNat)
 case atStart=>exact⟨0,by omega,rfl,Below.refl _ _,rfl⟩
 case round=>
  obtain⟨wo,rfl⟩: ∃z:World,z=wr:=⟨_,rfl⟩;obtain⟨k,hk,rfl,hb,hno⟩:=hrel;by_cases hlt:k<i
  .have iM:=HX.out.below hb aj;obtain⟨b',off',q',hA',_,hq',c0,c1,c2⟩:=iM.at_ hi;injection hA' with hA';injection hA' with e1 e2 _;subst e1;subst e2;rw[HQ.out] at hq';injection hq' with hq';subst hq';simp only at c0 c1 c2;obtain⟨b',off',o,hA',_,ho,d0,d1,d2⟩:=iM.at_ (k:=k) (by omega)
   injection hA' with hA';injection hA' with e1 e2 _;subst e1;subst e2;obtain⟨cb,hcb⟩: ∃cb,oI o ⟨qt,qk,qi⟩=cb:=⟨_,rfl⟩;obtain⟨ab,hab⟩: ∃ab,KX s o.tx i=ab:=⟨_,rfl⟩;have hs:iR false s ⟨qt,qk,qi⟩ i k=(cb&&ab&& (false||o.kind==1)):=by
    unfold iR;rw[ho];simp only;rw[hcb,hab]
   have BJ: ∀z:Later wo,Calls Tryz.prog 53 #[.agg #[.int .i64 o.tx,.int .i64 o.kind,.int .i64 o.item],.agg #[.int .i64 qt,.int .i64 qk,.int .i64 qi]] z.1 fun e w'=>e=.returned (.bool cb)/\Below z.1.heap.size z.1 w':=fun z=>by
    have:=mF o ⟨qt,qk,qi⟩ z.1;rw[hcb] at this;exact this
   have hC2: ∀z:Later wo,Calls Tryz.prog 91 #[.slice (some ⟨b,off,none⟩) n c,.int .i64 o.tx,.int .i64 (i:Int)] z.1 fun e w'=>e=.returned (.bool ab)/\Below z.1.heap.size z.1 w':=fun z=>by
    have:=y9 _ n c s o.tx i z.1 (iM.later z) (by omega);rw[hab] at this;exact this
   have HT:Hid (iR false s ⟨qt,qk,qi⟩ i k=true->(List.range i).any (iR false s ⟨qt,qk,qi⟩ i)=true):=fun h=>j_ hlt h
   have HN:Hid (iR false s ⟨qt,qk,qi⟩ i k=false->(List.range (k+1)).any (iR false s ⟨qt,qk,qi⟩ i)=false):=fun h=>by rw[jG,hno,h];rfl
   have ER:=ah hs;have HB:=ah hb;obtain⟨ot,ok,oi⟩:=o;simp only at ER d0 d1 d2 BJ hC2;have H1:=ah BJ;have H2:=ah hC2;have L0:=Later.cell c0;have L1:=Later.cell c1;have L2:=Later.cell c2;have M0:=Later.cell d0;have M1:=Later.cell d1;have M2:=Later.cell d2;have hki:(k:Int)< (i:Int):=by omega
   have hkn:(k:Int)< (n:Int):=by omega
   have hk0:(0:Int)<=(k:Int):=by omega
   clear hs BJ hC2 hcb hab ho hno iM hb c0 c1 c2 d0 d1 d2;cases cb
   .have hf:=ah (HN.out (by rw[ER.out];rfl))
    go_wp2_with fail
    refine aQ ?_;repeat(go_big_quiet_step (first|(go_at_call 53;exact aA _ (H1.out _))|(go_at_call 91;exact aA _ (H2.out _))))
    refine wpQuiet_nil ?_;rintro _ ⟨z,rfl⟩;have hbz:=HB.out.trans (z.2.mono HB.out.size);go_wp2_with fail
    go_roundw
    case rel=>exact⟨k+1,by omega,by go_num,hbz,hf.out⟩
    case measure=>simp[intOf];omega
   .cases ab
    .have hf:=ah (HN.out (by rw[ER.out];rfl))
     go_wp2_with fail
     refine aQ ?_;repeat(go_big_quiet_step (first|(go_at_call 53;exact aA _ (H1.out _))|(go_at_call 91;exact aA _ (H2.out _))))
     refine wpQuiet_nil ?_;rintro _ ⟨z,rfl⟩;have hbz:=HB.out.trans (z.2.mono HB.out.size);go_wp2_with fail
     go_roundw
     case rel=>exact⟨k+1,by omega,by go_num,hbz,hf.out⟩
     case measure=>simp[intOf];omega
    .by_cases h1:ok=1
     .subst h1;have ht:=ah (HT.out (by rw[ER.out];rfl))
      go_wp2_with fail
      refine aQ ?_;repeat(go_big_quiet_step (first|(go_at_call 53;exact aA _ (H1.out _))|(go_at_call 91;exact aA _ (H2.out _))))
      refine wpQuiet_nil ?_;rintro _ ⟨z,rfl⟩;have hbz:=HB.out.trans (z.2.mono HB.out.size);go_wp2_with fail
      go_ret2
      exact⟨by rw[ht.out];rfl,hbz⟩
     .have h1':(ok==1)=false:=by rw[beq_eq_false_iff_ne];exact h1
      have hf:=ah (HN.out (by rw[ER.out];rw[h1'];rfl))
      go_wp2_with fail
      refine aQ ?_;repeat(go_big_quiet_step (first|(go_at_call 53;exact aA _ (H1.out _))|(go_at_call 91;exact aA _ (H2.out _))))
      refine wpQuiet_nil ?_;rintro _ ⟨z,rfl⟩;have hbz:=HB.out.trans (z.2.mono HB.out.size);go_wp2_with fail
      go_roundw
      case rel=>exact⟨k+1,by omega,by go_num,hbz,hf.out⟩
      case measure=>simp[intOf];omega
  .obtain rfl:k=i:=by omega
   have HN:=ah hno;have hki: ¬(k:Int)< (k:Int):=by omega
   clear hno;go_wp2_with fail
   go_ret2
   exact⟨by rw[HN.out];rfl,hb⟩
theorem Br (A:Option Addr)(n c i:Nat)(s:List ay)(w:World)(hx:aC w A n s)(hi:i<n):
 Calls Tryz.prog 49 #[.string { data:= #[114,105,103,111,114,111,117,115] },.slice A n c,.int .i64 (i:Int)] w fun e w'=>e=.returned (.tuple #[.bool (kU true s i),.bool true])/\Below w.heap.size w w':=by
 have hn:=hx.2.1;have hl:=hx.1;obtain⟨b,off,q,hA,_,hq,_,_,_⟩:=hx.at_ hi;subst hA;have HX:=ah hx;have HQ:=ah hq;have HR:Hid (kU true s i=(List.range i).any (iR true s q i)):=by
  show _=_
  unfold kU;rw[hq]
 obtain⟨qt,qk,qi⟩:=q;clear hx hq;have hi0:(0:Int)<=(i:Int):=by omega
 have hin:(i:Int)< (n:Int):=by omega
 have s0:(({ data:= #[114,105,103,111,114,111,117,115] } :ByteArray)== { data:= #[114,101,99,111,118,101,114,97,98,108,101] })=false:=by decide
 have s1:(({ data:= #[114,105,103,111,114,111,117,115] } :ByteArray)== { data:= #[99,97,115,99,97,100,101,115] })=false:=by decide
 have s2:(({ data:= #[114,105,103,111,114,111,117,115] } :ByteArray)== { data:= #[115,116,114,105,99,116] })=false:=by decide
 have s3:(({ data:= #[114,105,103,111,114,111,117,115] } :ByteArray)== { data:= #[114,105,103,111,114,111,117,115] })=true:=by decide
 rw[HR.out];go_enter Tryz.func49,Tryz.ntmps49;go_wp2_with fail
 go_loopw [11] (fun x wr=> ∃k:Nat,k<=i/\x=.int .i64 k/\Below w.heap.size w wr/\(List.range k).any (iR true s ⟨qt,qk,qi⟩ i)=false) (fun x _=>i- (intOf x).toNat)
 case atStart=>exact⟨0,by omega,rfl,Below.refl _ _,rfl⟩
 case round=>
  obtain⟨wo,rfl⟩: ∃z:World,z=wr:=⟨_,rfl⟩;obtain⟨k,hk,rfl,hb,hno⟩:=hrel;by_cases hlt:k<i
  .have iM:=HX.out.below hb aj;obtain⟨b',off',q',hA',_,hq',c0,c1,c2⟩:=iM.at_ hi;injection hA' with hA';injection hA' with e1 e2 _;subst e1;subst e2;rw[HQ.out] at hq';injection hq' with hq';subst hq';simp only at c0 c1 c2;obtain⟨b',off',o,hA',_,ho,d0,d1,d2⟩:=iM.at_ (k:=k) (by omega)
   injection hA' with hA';injection hA' with e1 e2 _;subst e1;subst e2;obtain⟨cb,hcb⟩: ∃cb,oI o ⟨qt,qk,qi⟩=cb:=⟨_,rfl⟩;obtain⟨ab,hab⟩: ∃ab,KX s o.tx i=ab:=⟨_,rfl⟩;have hs:iR true s ⟨qt,qk,qi⟩ i k=(cb&&ab&& (true||o.kind==1)):=by
    unfold iR;rw[ho];simp only;rw[hcb,hab]
   have BJ: ∀z:Later wo,Calls Tryz.prog 53 #[.agg #[.int .i64 o.tx,.int .i64 o.kind,.int .i64 o.item],.agg #[.int .i64 qt,.int .i64 qk,.int .i64 qi]] z.1 fun e w'=>e=.returned (.bool cb)/\Below z.1.heap.size z.1 w':=fun z=>by
    have:=mF o ⟨qt,qk,qi⟩ z.1;rw[hcb] at this;exact this
   have hC2: ∀z:Later wo,Calls Tryz.prog 91 #[.slice (some ⟨b,off,none⟩) n c,.int .i64 o.tx,.int .i64 (i:Int)] z.1 fun e w'=>e=.returned (.bool ab)/\Below z.1.heap.size z.1 w':=fun z=>by
    have:=y9 _ n c s o.tx i z.1 (iM.later z) (by omega);rw[hab] at this;exact this
   have HT:Hid (iR true s ⟨qt,qk,qi⟩ i k=true->(List.range i).any (iR true s ⟨qt,qk,qi⟩ i)=true):=fun h=>j_ hlt h
   have HN:Hid (iR true s ⟨qt,qk,qi⟩ i k=false->(List.range (k+1)).any (iR true s ⟨qt,qk,qi⟩ i)=false):=fun h=>by rw[jG,hno,h];rfl
   have ER:=ah hs;have HB:=ah hb;obtain⟨ot,ok,oi⟩:=o;simp only at ER d0 d1 d2 BJ hC2;have H1:=ah BJ;have H2:=ah hC2;have L0:=Later.cell c0;have L1:=Later.cell c1;have L2:=Later.cell c2;have M0:=Later.cell d0;have M1:=Later.cell d1;have M2:=Later.cell d2;have hki:(k:Int)< (i:Int):=by omega
   have hkn:(k:Int)< (n:Int):=by omega
   have hk0:(0:Int)<=(k:Int):=by omega
   clear hs BJ hC2 hcb hab ho hno iM hb c0 c1 c2 d0 d1 d2;cases cb
   .have hf:=ah (HN.out (by rw[ER.out];rfl))
    go_wp2_with fail
    refine aQ ?_;repeat(go_big_quiet_step (first|(go_at_call 53;exact aA _ (H1.out _))|(go_at_call 91;exact aA _ (H2.out _))))
    refine wpQuiet_nil ?_;rintro _ ⟨z,rfl⟩;have hbz:=HB.out.trans (z.2.mono HB.out.size);go_wp2_with fail
    go_roundw
    case rel=>exact⟨k+1,by omega,by go_num,hbz,hf.out⟩
    case measure=>simp[intOf];omega
   .cases ab
    .have hf:=ah (HN.out (by rw[ER.out];rfl))
     go_wp2_with fail
     refine aQ ?_;repeat(go_big_quiet_step (first|(go_at_call 53;exact aA _ (H1.out _))|(go_at_call 91;exact aA _ (H2.out _))))
     refine wpQuiet_nil ?_;rintro _ ⟨z,rfl⟩;have hbz:=HB.out.trans (z.2.mono HB.out.size);go_wp2_with fail
     go_roundw
     case rel=>exact⟨k+1,by omega,by go_num,hbz,hf.out⟩
     case measure=>simp[intOf];omega
    .have ht:=ah (HT.out (by rw[ER.out];rfl))
     go_wp2_with fail
     refine aQ ?_;repeat(go_big_quiet_step (first|(go_at_call 53;exact aA _ (H1.out _))|(go_at_call 91;exact aA _ (H2.out _))))
     refine wpQuiet_nil ?_;rintro _ ⟨z,rfl⟩;have hbz:=HB.out.trans (z.2.mono HB.out.size);go_wp2_with fail
     go_ret2
     exact⟨by rw[ht.out];rfl,hbz⟩
  .obtain rfl:k=i:=by omega
   have HN:=ah hno;have hki: ¬(k:Int)< (k:Int):=by omega
   clear hno;go_wp2_with fail
   go_ret2
   exact⟨by rw[HN.out];rfl,hb⟩
theorem Bt (A:Option Addr)(n c i:Nat)(s:List ay)(w:World)(hx:aC w A n s)(hi:i<n):
 Calls Tryz.prog 49 #[.string { data:= #[99,111,109,109,105,116,115] },.slice A n c,.int .i64 (i:Int)] w fun e w'=>e=.returned (.tuple #[.bool (wD s i),.bool true])/\Below w.heap.size w w':=by
 have hn:=hx.2.1;have hl:=hx.1;obtain⟨b,off,q,hA,_,hq,_,_,_⟩:=hx.at_ hi;subst hA;have HX:=ah hx;have HQ:=ah hq;have HR:Hid (wD s i=(q.kind==2&& (List.range i).any (nI s q i))):=by
  show _=_
  unfold wD;rw[hq]
 obtain⟨qt,qk,qi⟩:=q;clear hx hq;have hi0:(0:Int)<=(i:Int):=by omega
 have hin:(i:Int)< (n:Int):=by omega
 have s0:(({ data:= #[99,111,109,109,105,116,115] } :ByteArray)== { data:= #[114,101,99,111,118,101,114,97,98,108,101] })=false:=by decide
 have s1:(({ data:= #[99,111,109,109,105,116,115] } :ByteArray)== { data:= #[99,97,115,99,97,100,101,115] })=false:=by decide
 have s2:(({ data:= #[99,111,109,109,105,116,115] } :ByteArray)== { data:= #[115,116,114,105,99,116] })=false:=by decide
 have s3:(({ data:= #[99,111,109,109,105,116,115] } :ByteArray)== { data:= #[114,105,103,111,114,111,117,115] })=false:=by decide
 have s4:(({ data:= #[99,111,109,109,105,116,115] } :ByteArray)== { data:= #[99,111,109,109,105,116,115] })=true:=by decide
 rw[HR.out];simp only;go_enter Tryz.func49,Tryz.ntmps49;go_wp2_with fail
 go_loopw [12] (fun x wr=> ∃k:Nat,k<=i/\x=.int .i64 k/\Below w.heap.size w wr/\(List.range k).any (nI s ⟨qt,qk,qi⟩ i)=false) (fun x _=>i- (intOf x).toNat)
 case atStart=>exact⟨0,by omega,rfl,Below.refl _ _,rfl⟩
 case round=>
  obtain⟨wo,rfl⟩: ∃z:World,z=wr:=⟨_,rfl⟩;obtain⟨k,hk,rfl,hb,hno⟩:=hrel;have iM:=HX.out.below hb aj;obtain⟨b',off',q',hA',_,hq',c0,c1,c2⟩:=iM.at_ hi;injection hA' with hA';injection hA' with e1 e2 _;subst e1;subst e2;rw[HQ.out] at hq';injection hq' with hq';subst hq';simp only at c0 c1 c2;by_cases hk2:qk=2
  .subst hk2;by_cases hlt:k<i
   .obtain⟨b',off',o,hA',_,ho,_,_,_⟩:=iM.at_ (k:=k) (by omega)
    injection hA' with hA';injection hA' with e1 e2 _;subst e1;subst e2;have HO:=ah ho;have hs:nI s ⟨qt,2,qi⟩ i k=(List.range (s.length- (k+1))).any fun d=>uS s ⟨qt,2,qi⟩ o i (k+1+d):=by
     unfold nI;rw[ho]
    have ER:=ah hs;have HT:Hid (nI s ⟨qt,2,qi⟩ i k=true->(List.range i).any (nI s ⟨qt,2,qi⟩ i)=true):=fun h=>j_ hlt h
    have HN:Hid (nI s ⟨qt,2,qi⟩ i k=false->(List.range (k+1)).any (nI s ⟨qt,2,qi⟩ i)=false):=fun h=>by rw[jG,hno,h];rfl
    have hki:(k:Int)< (i:Int):=by omega
    have hdk:decide ((k:Int)< (i:Int))=true:=decide_eq_true hki;clear hs hno ho;go_wp2_with fail
    clear c0 c1 c2 iM;go_loopw [13] (fun x wr=> ∃d:Nat,k+1+d<=n/\x=.int .i64 ((k+1+d:Nat):Int)/\Below w.heap.size w wr/\((List.range d).any fun d=>uS s ⟨qt,2,qi⟩ o i (k+1+d))=false) (fun x _=>n- (intOf x).toNat)
    case atStart=>exact⟨0,by omega,by go_num,hb,rfl⟩
    case round=>
     obtain⟨wi,rfl⟩: ∃z:World,z=wr:=⟨_,rfl⟩;obtain⟨d,hd,rfl,hbi,hno⟩:=hrel;by_cases Zo:k+1+d<n
     .have hxi:=HX.out.below hbi aj;obtain⟨b',off',q',hA',_,hq',c0,c1,c2⟩:=hxi.at_ hi;injection hA' with hA';injection hA' with e1 e2 _;subst e1;subst e2;rw[HQ.out] at hq';injection hq' with hq';subst hq';obtain⟨b',off',o',hA',_,ho',d0,d1,d2⟩:=hxi.at_ (k:=k) (by omega)
      injection hA' with hA';injection hA' with e1 e2 _;subst e1;subst e2;rw[HO.out] at ho';injection ho' with ho';subst ho';obtain⟨b',off',p,hA',_,hp,f0,f1,f2⟩:=hxi.at_ Zo;injection hA' with hA';injection hA' with e1 e2 _;subst e1;subst e2;obtain⟨cb,hcb⟩: ∃cb,oI o p=cb:=⟨_,rfl⟩;obtain⟨cm,hcm⟩: ∃cm,I9 s p.tx i=cm:=⟨_,rfl⟩;have hj:uS s ⟨qt,2,qi⟩ o i (k+1+d)=(o.tx==qt&&cb&&cm):=by
       unfold uS;rw[hp];simp only;rw[hcb,hcm]
      have BJ: ∀z:Later wi,Calls Tryz.prog 53 #[.agg #[.int .i64 o.tx,.int .i64 o.kind,.int .i64 o.item],.agg #[.int .i64 p.tx,.int .i64 p.kind,.int .i64 p.item]] z.1 fun e w'=>e=.returned (.bool cb)/\Below z.1.heap.size z.1 w':=fun z=>by
       have:=mF o p z.1;rw[hcb] at this;exact this
      have hC2: ∀z:Later wi,Calls Tryz.prog 90 #[.slice (some ⟨b,off,none⟩) n c,.int .i64 p.tx,.int .i64 (i:Int)] z.1 fun e w'=>e=.returned (.bool cm)/\Below z.1.heap.size z.1 w':=fun z=>by
       have:=nJ _ n c s p.tx i z.1 (hxi.later z) (by omega);rw[hcm] at this;exact this
      have HT2:Hid (uS s ⟨qt,2,qi⟩ o i (k+1+d)=true->(List.range i).any (nI s ⟨qt,2,qi⟩ i)=true):=fun h=>HT.out (by rw[ER.out];exact j_ (f:=fun d=>uS s ⟨qt,2,qi⟩ o i (k+1+d)) (k:=d) (by omega) h)
      have Sc:Hid (uS s ⟨qt,2,qi⟩ o i (k+1+d)=false->((List.range (d+1)).any fun d=>uS s ⟨qt,2,qi⟩ o i (k+1+d))=false):=fun h=>by rw[jG,hno,h];rfl
      have HJ:=ah hj;have HB:=ah hbi;obtain⟨K,hK⟩: ∃K:Nat,k+1+d=K:=⟨_,rfl⟩;have HKK:=ah hK;rw[hK] at Zo f0 f1 f2;obtain⟨ot,ok,oi⟩:=o;obtain⟨pt,pk,pi⟩:=p;simp only at HJ c0 c1 c2 d0 d1 d2 f0 f1 f2 BJ hC2;have H1:=ah BJ;have H2:=ah hC2;have L0:=Later.cell c0;have M0:=Later.cell d0;have M1:=Later.cell d1;have M2:=Later.cell d2;have F0:=Later.cell f0;have F1:=Later.cell f1;have F2:=Later.cell f2;have hKn:(K:Int)< (n:Int):=by omega
      have hK0:(0:Int)<=(K:Int):=by omega
      have hkn:(k:Int)< (n:Int):=by omega
      have hk0:(0:Int)<=(k:Int):=by omega
      rw[hK];clear hj BJ hC2 hcb hcm hp hno hxi hbi c0 c1 c2 d0 d1 d2 f0 f1 f2 hK hb hd;by_cases h1:ot=qt
      .subst h1;rw[beq_self_eq_true,Bool.true_and] at HJ;cases cb
       .have hf:=ah (Sc.out (by rw[HJ.out];rfl))
        go_wp2_with fail
        refine aQ ?_;repeat(go_big_quiet_step (first|(go_at_call 53;exact aA _ (H1.out _))|(go_at_call 90;exact aA _ (H2.out _))))
        refine wpQuiet_nil ?_;rintro _ ⟨z,rfl⟩;have hbz:=HB.out.trans (z.2.mono HB.out.size);go_wp2_with fail
        go_roundw
        case rel=>exact⟨d+1,by have:=HKK.out;omega,by have:=HKK.out;go_num,hbz,hf.out⟩
        case measure=>have:=HKK.out;simp[intOf];omega
       .cases cm
        .have hf:=ah (Sc.out (by rw[HJ.out];rfl))
         go_wp2_with fail
         refine aQ ?_;repeat(go_big_quiet_step (first|(go_at_call 53;exact aA _ (H1.out _))|(go_at_call 90;exact aA _ (H2.out _))))
         refine wpQuiet_nil ?_;rintro _ ⟨z,rfl⟩;have hbz:=HB.out.trans (z.2.mono HB.out.size);go_wp2_with fail
         go_roundw
         case rel=>exact⟨d+1,by have:=HKK.out;omega,by have:=HKK.out;go_num,hbz,hf.out⟩
         case measure=>have:=HKK.out;simp[intOf];omega
        .have ht:=ah (HT2.out (by rw[HJ.out];rfl))
         go_wp2_with fail
         refine aQ ?_;repeat(go_big_quiet_step (first|(go_at_call 53;exact aA _ (H1.out _))|(go_at_call 90;exact aA _ (H2.out _))))
         refine wpQuiet_nil ?_;rintro _ ⟨z,rfl⟩;have hbz:=HB.out.trans (z.2.mono HB.out.size);go_wp2_with fail
         go_ret2
         exact⟨by rw[ht.out];rfl,hbz⟩
      .have h1':(ot==qt)=false:=by rw[beq_eq_false_iff_ne];exact h1
       have hf:=ah (Sc.out (by rw[HJ.out,h1'];rfl))
       go_wp2_with fail
       refine aQ ?_;repeat(go_big_quiet_step (first|(go_at_call 53;exact aA _ (H1.out _))|(go_at_call 90;exact aA _ (H2.out _))))
       refine wpQuiet_nil ?_;rintro _ ⟨z,rfl⟩;have hbz:=HB.out.trans (z.2.mono HB.out.size);go_wp2_with fail
       go_roundw
       case rel=>exact⟨d+1,by have:=HKK.out;omega,by have:=HKK.out;go_num,hbz,hf.out⟩
       case measure=>have:=HKK.out;simp[intOf];omega
     .have hdn:s.length- (k+1)=d:=by omega
      have hf:=ah (HN.out (by rw[ER.out,hdn];exact hno))
      obtain⟨K,hK⟩: ∃K:Nat,k+1+d=K:=⟨_,rfl⟩;rw[hK] at Zo ⊢;have hKn: ¬(K:Int)< (n:Int):=by omega
      clear hno hdn hK;go_wp2_with fail
      go_roundw
      case rel=>exact⟨k+1,by omega,by go_num,hbi,hf.out⟩
      case measure=>simp[intOf];omega
   .obtain rfl:k=i:=by omega
    have HN:=ah hno;have hki: ¬(k:Int)< (k:Int):=by omega
    clear hno;go_wp2_with fail
    go_ret2
    exact⟨by rw[HN.out];rfl,hb⟩
  .have LZ:(qk==2)=false:=by rw[beq_eq_false_iff_ne];exact hk2
   by_cases hlt:k<i
   .have hki:(k:Int)< (i:Int):=by omega
    go_wp2_with fail
    go_ret2
    exact⟨by first|rfl|(rw[LZ];rfl)|simp[hk2],hb⟩
   .have hki: ¬(k:Int)< (i:Int):=by omega
    go_wp2_with fail
    go_ret2
    exact⟨by first|rfl|(rw[LZ];rfl)|simp[hk2],hb⟩
def Ev (b:ByteArray)(B:List ay->Nat->Bool):Prop:= ∀ (A:Option Addr) (n c i:Nat) (s:List ay) (w:World),aC w A n s->i<n->
 Calls Tryz.prog 49 #[.string b,.slice A n c,.int .i64 (i:Int)] w fun e w'=>e=.returned (.tuple #[.bool (B s i),.bool true])/\Below w.heap.size w w'
theorem mg {b:ByteArray}{B:List ay->Nat->Bool}(hB:Ev b B)(A:Option Addr)(n c:Nat)(s:List ay)(w:World)(hx:aC w A n s):
 Calls Tryz.prog 38 #[.string b,.slice A n c] w fun e w'=>e=.returned (.int .i64 (aY (B s) s.length))/\Below w.heap.size w w':=by
 have hn:=hx.2.1;have hl:=hx.1;have HX:=ah hx;have HBR:=ah hB;clear hx hB;rw[hl];clear hl;go_enter Tryz.func38,Tryz.ntmps38;go_wp2_with fail
 go_loopw [5] (fun x wr=> ∃k:Nat,k<=n/\x=.int .i64 k/\Below w.heap.size w wr/\ ∀j,j<k->B s j=false) (fun x _=>n- (intOf x).toNat)
 case atStart=>exact⟨0,by omega,rfl,Below.refl _ _,by omega⟩
 case round=>
  obtain⟨wo,rfl⟩: ∃z:World,z=wr:=⟨_,rfl⟩;obtain⟨k,hk,rfl,hb,hno⟩:=hrel;by_cases hlt:k<n
  .obtain⟨bb,hbb⟩: ∃bb,B s k=bb:=⟨_,rfl⟩;have hC:Calls Tryz.prog 49 #[.string b,.slice A n c,.int .i64 (k:Int)] wo fun e w'=>e=.returned (.tuple #[.bool bb,.bool true])/\Below wo.heap.size wo w':=by
    have:=HBR.out A n c k s wo (HX.out.below hb aj) hlt;rw[hbb] at this;exact this
   have HC:=ah hC;have HT:Hid (bb=true->aY (B s) n=(k:Int)):=fun h=>l8 hlt (hbb.trans h) hno
   have HN:Hid (bb=false-> ∀j,j<k+1->B s j=false):=fun h j hj=>by
    by_cases e:j=k
    .subst e;exact hbb.trans h
    .exact hno j (by omega)
   have hki:(k:Int)< (n:Int):=by omega
   clear hC hno hbb;go_wp2_with fail
   refine HC.out.mono ?_;rintro e w2 ⟨rfl,hb2⟩;have hbb:=hb.trans (hb2.mono hb.size);cases bb
   .have hf:=ah (HN.out rfl);go_wp2_with fail
    go_roundw
    case rel=>exact⟨k+1,by omega,by go_num,hbb,hf.out⟩
    case measure=>simp[intOf];omega
   .have ht:=ah (HT.out rfl);go_wp2_with fail
    go_ret;exact⟨gW (by rw[ht.out]),hbb⟩
  .have ht:Hid (aY (B s) n= -1):=kS (fun j hj=>hno j (by omega))
   have hki: ¬(k:Int)< (n:Int):=by omega
   clear hno;go_wp2_with fail
   go_ret;exact⟨gW (by rw[ht.out]),hb⟩
theorem I_ {b:ByteArray}{B:List ay->Nat->Bool}(hB:Ev b B)(A:Option Addr)(n c:Nat)(s:List ay)(w:World)(hx:aC w A n s):
 Calls Tryz.prog 26 #[.string b,.slice A n c] w (eF s w (aY (B s) s.length)):=by
 have HX:=ah hx;have HF:=ah (fun W hW=>mg hB A n c s W (hx.below (w:=w) (w':=W) hW aj))
 obtain⟨W,hW⟩: ∃W:World,W=w.alloc (.cells #[.int .i64 0,.int .i64 2,.int .i64 0] 89):=⟨_,rfl⟩;have hbW:Below w.heap.size w W:=by rw[hW];exact aG.alloc aj _
 have hl1:aC W (some ⟨w.heap.size,0,none⟩) 1 [⟨0,2,0⟩] :=by rw[hW];exact aC.dB w ⟨0,2,0⟩ _
 have HC:=ah (hB (some ⟨w.heap.size,0,none⟩) 1 1 0 _ W hl1 (by omega))
 have HW:=ah hW;obtain⟨b0,hb0⟩: ∃b0,B [⟨0,2,0⟩] 0=b0:=⟨_,rfl⟩;rw[hb0] at HC;clear hx hB hW hl1 hb0;go_enter Tryz.func26,Tryz.ntmps26;go_wp2_with fail
 rw[<-HW.out];refine HC.out.mono ?_;rintro e w2 ⟨rfl,hb2⟩;have HB2:=ah (hbW.trans (hb2.mono hbW.size));clear hb2 hbW;go_wp2_with fail
 refine(rJ A n c s w2 (HX.out.below HB2.out aj)).mono ?_;rintro e w3 ⟨rfl,hb3⟩;have HB3:=ah (HB2.out.trans (hb3.mono HB2.out.size));clear hb3;cases hv:aF s
 .have HV:=ah hv;clear hv;go_wp2_with fail
  go_ret2
  exact eF.no HV.out HB3.out
 .have HV:=ah hv;clear hv;go_wp2_with fail
  refine(HF.out w3 HB3.out).mono ?_;rintro e w4 ⟨rfl,hb4⟩;have tu:=HB3.out.trans (hb4.mono HB3.out.size);go_wp2_with fail
  go_ret2
  exact eF.yes HV.out rfl tu
end Go.Proofs.YtddkjbibjjehjaaGreatDoor
