/-
  Texts that the proof rests on, joined: part 20.
-/
import Derived.Scope
import Derived.WalkMore
import Derived.Test.YtddkjbibjjehjaaGreatDoorSXr17
import Derived.Test.YtddkjbibjjehjaaGreatDoorSXr19
set_option maxHeartbeats 16000000
set_option maxRecDepth 100000
namespace Go.Proofs.YtddkjbibjjehjaaGreatDoor
open Go.RowKit Go.BigFrame Go.Shelf
set_option linter.unusedVariables false
attribute [local go_sem] Oper.semAt_some
theorem zZ (A:Option Addr)(n c:Nat)(w:World)(hn:n<=1099511627776)(hnc:n<=c):
 Calls Tryz.prog 129 #[.slice A n c] w fun e w'=>e=.returned (.slice A n n)/\w=w':=by
 go_enter Tryz.func129,Tryz.ntmps129;go_wp2
 go_ret;exact⟨rfl,rfl⟩
theorem Qg (A:Option Addr)(n c:Nat)(w:World)(hn:n<=1099511627776)(hnc:n<=c):
 Calls Tryz.prog 147 #[.slice A n c] w fun e w'=>e=.returned (.slice A n n)/\w=w':=by
 go_enter Tryz.func147,Tryz.ntmps147;go_wp2
 go_ret;exact⟨rfl,rfl⟩
section
variable {w:World} {ops:Array Oper} {o:Oper} {a:Act} {K:Act->World->Prop} {Q:Exit->Act->World->Prop} {E:Prop} {l m:Nat}
theorem pV (s x:Operand){base:Nat}{v:Value}{n:Nat}{rv:List Value}(hown:w.ownsRow base 45 1 v n rv)(hbase:base<=w.heap.size)
 {A:Option Addr} {k c:Nat} {rs:List Value} (hr:Src w 1 A k rs) (hn:n+k<=1099511627776)
 (hgd:o.guard=none) (ho:o.op=.call { callee:=.builtin .append,args:= #[s,x],argTypes:= #[59,59] }) (hs:a.eval s=v) (hx:a.eval x=.slice A k c)
 (h: ∀v' w',w'.ownsRow base 45 1 v' (n+k) (rv++rs)->w.grownBy w' v.ownBlock->(v'.ownBlock=v.ownBlock\/v'.ownBlock=some w.heap.size)->K (a.put o.dst v') w'):
 if Region.wanted o (yielded ops a.tmps)=true then Oper.wpIn (Fence.wide.inRound l) m Tryz.prog o a w K Q else E:=by
 have hw:Region.wanted o (yielded ops a.tmps)=true:=by simp[Region.wanted,hgd]
 rw[if_pos hw];obtain⟨i0,hi,hz0,hz1,hz2⟩:=info_parts Kg;obtain⟨v',w',hrun,h2,h3,h4⟩:=Hl (P:=Tryz.prog) base 59 o.type 45 i0 _ 1 24 Tryz.underlying59 hi hz0 hz1 hz2 rfl (by decide) v n rv hown A k c rs hr (by simp only[maxLen];omega) (by omega) hbase
 unfold Oper.wpIn;refine⟨?_,?_⟩
 .simp[Oper.about,ho,resolve,Target.leads,Sem.run_pure]
 .rw[Oper.semAt_plain _ _ _ (by rw[ho];intro c hc';cases hc')]
  simp[execOp,ho,resolve,invoke,builtin,hs,hx,hrun,Result.andThen];exact h v' w' h2 h3 h4
end
theorem IG (w:World)(A G:Option Addr)(n c gc:Nat)(wL:World)(BL:(((w.alloc (.cells #[.slice G 4 gc] 45)).alloc (.cells #[] 45)).alloc (.cells #[.slice (some ⟨w.heap.size+1,0,none⟩) 0 0] 59)).alloc (.cells #[.slice A n c] 45)=wL):
 Below w.heap.size w wL/\wL.heap.size=w.heap.size+4/\wL.cell? ⟨w.heap.size,0,none⟩=some (.slice G 4 gc)/\wL.cell? ⟨w.heap.size+2,0,none⟩=some (.slice (some ⟨w.heap.size+1,0,none⟩) 0 0)/\
  wL.frozen? ⟨w.heap.size+2,0,none⟩=false/\wL.cell? ⟨w.heap.size+3,0,none⟩=some (.slice A n c)/\wL.ownsRow w.heap.size 45 1 (.slice (some ⟨w.heap.size+1,0,none⟩) 0 0) 0 [] :=by
 obtain⟨w1,h1⟩: ∃w1,w.alloc (.cells #[.slice G 4 gc] 45)=w1:=⟨_,rfl⟩;rw[h1] at BL;obtain⟨w2,h2⟩: ∃w2,w1.alloc (.cells #[] 45)=w2:=⟨_,rfl⟩;rw[h2] at BL;obtain⟨w3,h3⟩: ∃w3,w2.alloc (.cells #[.slice (some ⟨w.heap.size+1,0,none⟩) 0 0] 59)=w3:=⟨_,rfl⟩;rw[h3] at BL;have s1:w1.heap.size=w.heap.size+1:=by rw[<-h1];simp
 have s2:w2.heap.size=w.heap.size+2:=by rw[<-h2];simp;omega
 have s3:w3.heap.size=w.heap.size+3:=by rw[<-h3];simp;omega
 have s4:wL.heap.size=w.heap.size+4:=by rw[<-BL];simp;omega
 have b3:Below w3.heap.size w3 wL:=by rw[<-BL];exact aG.alloc aj _
 have b2:Below w2.heap.size w2 wL:=by
  refine Below.trans ?_ (b3.mono (by omega))
  rw[<-h3];exact aG.alloc aj _
 have b1:Below w1.heap.size w1 wL:=by
  refine Below.trans ?_ (b2.mono (by omega))
  rw[<-h2];exact aG.alloc aj _
 have b0:Below w.heap.size w wL:=by
  refine Below.trans ?_ (b1.mono (by omega))
  rw[<-h1];exact aG.alloc aj _
 have k1:w1.heap[w.heap.size]? =some (.cells #[.slice G 4 gc] 45 (0,0)):=by rw[<-h1];exact heap_alloc_new w _
 have k2:w2.ownsRow w.heap.size 45 1 (.slice (some ⟨w.heap.size+1,0,none⟩) 0 0) 0 [] :=by
  have:=World.ownsRow_made (base:=w.heap.size) (e:=45) (size:=1) w1 #[] 0 (by omega) (by decide) rfl
  rw[s1,h2] at this;exact this
 have k3:w3.heap[w.heap.size+2]? =some (.cells #[.slice (some ⟨w.heap.size+1,0,none⟩) 0 0] 59 (0,0)):=by
  have:=heap_alloc_new w2 (.cells #[.slice (some ⟨w.heap.size+1,0,none⟩) 0 0] 59);rw[h3,s2] at this;exact this
 have k4:wL.heap[w.heap.size+3]? =some (.cells #[.slice A n c] 45 (0,0)):=by
  have:=heap_alloc_new w3 (.cells #[.slice A n c] 45);rw[BL,s3] at this;exact this
 have k1':=(b1.block _ (by omega)).trans k1
 have k3':=(b3.block _ (by omega)).trans k3
 refine⟨b0,s4,?_,?_,?_,?_,own_below k2 b2⟩
 .rw[cell_of_row _ _ _ _ _ _ k1'];rfl
 .rw[cell_of_row _ _ _ _ _ _ k3'];rfl
 .simp[World.frozen?,k3']
 .rw[cell_of_row _ _ _ _ _ _ k4];rfl
theorem Src.one (w:World)(u:Value)(t:TypeId)(h1:u.oneCell'=true):Src (w.alloc (.cells #[u] t)) 1 (some ⟨w.heap.size,0,none⟩) 1 [u] :=
 ⟨rfl,by simp[h1],fun _=>⟨_,rfl,fun j v hv=>cell_one_new w u t j v hv⟩⟩
theorem II (A G:Option Addr)(n c gc:Nat)(list:List Int)(R:List Nat)(w:World)(hl:aM w A n list)(hA: ∀ad,A=some ad->ad.block<w.heap.size)(hg:aM w G 4 (dD R))(h4:dA R)(hr: ∀t∈list,0<=t/\t<=3)(Pt:n<=4):
 Calls Tryz.prog 103 #[.slice A n c,.slice G 4 gc] w (gV w (Ih list R)):=by
 have hlen:=hl.1;have HL:=ah hl;have HG:=ah hg;have H4:=ah h4;have HR:=ah hr;have HA:=ah hA;have HLEN:=ah hlen;clear hl hg h4 hr hA hlen;refine(callsIn_wide (n:=9)).1 ?_;refine callsIn_of_wp_marks Tryz.func103 rfl trivial ?_ rfl;simp only[Tryz.ntmps103,List.size_toArray,List.length_cons,List.length_nil,Nat.reduceAdd,Nat.reduceSub,Array.replicate_succ,Array.replicate_zero,List.push_toArray,List.append_toArray,List.nil_append,List.cons_append]
 gi_wp2
 refine(wpIn_wide (n:=9)).2 (wp_scope_straight ((wpIn_wide (n:=9)).1 ?_))
 gi_wp2
 refine wpIn_label ?_
 gi_wp2_with (refine⟨trivial,?_⟩;gi_at_call 146;refine(callsIn_wide.2 (zW A n c _)).mono ?_;rintro e w' ⟨rfl,rfl⟩)
 obtain⟨wL,BL⟩: ∃wL,(((w.alloc (.cells #[.slice G 4 gc] 45)).alloc (.cells #[] 45)).alloc (.cells #[.slice (some ⟨w.heap.size+1,0,none⟩) 0 0] 59)).alloc (.cells #[.slice A n c] 45)=wL:=⟨_,rfl⟩;have Y0:Below w.heap.size w wL/\wL.heap.size=w.heap.size+4/\wL.cell? ⟨w.heap.size,0,none⟩=some (.slice G 4 gc)/\wL.cell? ⟨w.heap.size+2,0,none⟩=some (.slice (some ⟨w.heap.size+1,0,none⟩) 0 0)/\
  wL.frozen? ⟨w.heap.size+2,0,none⟩=false/\wL.cell? ⟨w.heap.size+3,0,none⟩=some (.slice A n c)/\wL.ownsRow w.heap.size 45 1 (.slice (some ⟨w.heap.size+1,0,none⟩) 0 0) 0 [] :=IG w A G n c gc wL BL
 rw[BL];clear BL;obtain⟨hbL,hsL,cg,co,fo,cl,hoL⟩:=Y0;have hS:w.heap.size+2<wL.heap.size:=by omega
 refine uI (w.heap.size+3) w.heap.size n c A list rfl rfl cl (HL.out.below hbL aj) HA.out (by omega) Pt
  (fun acc V=>fV w wL (w.heap.size+2) (w.heap.size+1) (acc.filter (fM R [])) V/\V.cell? ⟨w.heap.size,0,none⟩=some (.slice G 4 gc)) ?hI ⟨fV.start hbL co fo hoL,cg⟩
  (fun v=> { tmps:= #[.slice A n c,.slice G 4 gc,undef,.pointer (some ⟨w.heap.size,0,none⟩),.slice none 0 0,.pointer (some ⟨w.heap.size+1+1,0,none⟩),v,undef,undef,undef,.slice (some ⟨w.heap.size+1,0,none⟩) 0 0,.slice A n c,.func (.func 173) #[] #[.pointer (some ⟨w.heap.size+3,0,none⟩)],v,undef,undef,undef,undef,undef,undef,undef,undef,undef,undef,undef,undef,undef,undef,undef,undef,undef,undef,undef,undef,undef,undef,undef,undef,undef],defers:= [] }) ?assign ?body ?done
 case hI=>
  rintro s V W ⟨h1,h2⟩ hst;exact⟨h1.step (by omega) (by omega) (by omega) hst,(World.cell?_of_block (w:=V) (a:=⟨w.heap.size,0,none⟩) (hst.block _ (block_lt_of_cell h2) (by simp;omega))).trans h2⟩
 case assign=>
  intro l m v W K hK
  gi_wp2
  exact hK
 case done=>
  rintro W ⟨hO,_⟩ hsz hdf;have hO2:=hO.step (by omega) (by omega) (by omega) (gu.put W (l:=wL.heap.size) (.deferred none) (by omega))
  obtain⟨hb,hf,ov,rv,hc,hown,hrows,Wv,hgo⟩:=hO;obtain⟨Ao,Y2,rfl,hco⟩:=aD hown;have aaM:Hid (gV w ((fP list n []).filter (fM R [])) (.returned (.slice Ao ((fP list n []).filter (fM R [])).length ((fP list n []).filter (fM R [])).length)) (W.putObj wL.heap.size (.deferred none))):=by
   obtain⟨hb2,_,ov2,rv2,hc2,hown2,hrows2,abV,_⟩:=hO2;have ek:(W.putObj wL.heap.size (.deferred none)).cell? ⟨w.heap.size+2,0,none⟩=W.cell? ⟨w.heap.size+2,0,none⟩:=World.cell?_of_block (w:=W) (World.putObj_heap_other (by simp;omega))
   rw[ek,hc] at hc2;injection hc2 with hc2;subst hc2;exact⟨Ao,_,rv2,rfl,Nat.le_refl _,uF.aH hown2 aj hrows2.one,hrows2.since (by rw[uG];omega),abV,hb2⟩
  have hN:((fP list n []).filter (fM R [])).length<=256:=by
   refine Nat.le_trans (List.length_filter_le _ _) (Nat.le_trans (Gy (by rw[HLEN.out];exact Pt) n []) ?_)
   exact Nat.pow_le_pow_right (by omega) Pt
  have HOR:Hid (Ih list R=(fP list n []).filter (fM R [])):=by show _=_;unfold Ih;rw[HLEN.out]
  generalize(fP list n []).filter (fM R [])=res at*;generalize res.length=N at*;clear hO2 hown hrows hgo hb Wv
  gi_wp2_with (refine⟨trivial,?_⟩;gi_at_call 147;refine(callsIn_wide.2 (Qg Ao N Y2 _ (by omega) hco)).mono ?_;rintro e w' ⟨rfl,rfl⟩)
  rw[Exit.noGoto_ret];rw[hsL] at hdf aaM;refine⟨by simp,.inl ⟨_,_,rfl,run_takeDeferred hdf,?_⟩⟩
  exact⟨_,results_tmp rfl _ _ _,by rw[HOR.out];exact aaM.out⟩
 case body=>
  rintro l m pre x V W A' c' ⟨hOV,RS⟩ TN abW hfV hc' hpx;have hO:fV w wL (w.heap.size+2) (w.heap.size+1) (pre.filter (fM R [])) W:=hOV.step (by omega) (by omega) (by omega) TN
  have hgc:W.cell? ⟨w.heap.size,0,none⟩=some (.slice G 4 gc):=(World.cell?_of_block (w:=V) (a:=⟨w.heap.size,0,none⟩) (TN.block _ (block_lt_of_cell RS) (by simp;omega))).trans RS
  have hlo:wL.heap.size+6<=W.heap.size:=by have:=TN.size;omega
  have hfx:aN (six wL) W A' n x:=hfV.since (by rw[uG];omega)
  have Vg:=ah (hOV.open_ (by omega) (by omega) (by omega) TN)
  have HFV:=ah hfV;clear hOV RS TN abW hfV;have hxm:x∈fP list n [] :=List.IsPrefix.subset hpx (by simp)
  have hxl:x.length=n:=by have:=su n [] x hxm;simpa using this
  have iM: ∀t∈x,0<=t/\t<=3:=fun t ht=>by
   rcases Gz n [] x hxm t ht with h|h
   .cases h
   .exact HR.out t h
  have hpl:(pre.filter (fM R [])).length+1<=256:=by
   have h1:=hpx.length_le;have h2:=Gy (list:=list) (by rw[HLEN.out];exact Pt) n []
   have h3:(4:Nat)^n<=256:=Nat.pow_le_pow_right (by omega) Pt
   have h4:=List.length_filter_le (fM R []) pre;simp at h1;omega
  have HX:=ah hfx;have HO:=ah hO;have RQ:=ah iM;have HXL:=ah hxl;have HGW:Hid (aM W G 4 (dD R)):=HG.out.below hO.below aj;have HF1:Hid (fM R [] x=true->(pre++ [x]).filter (fM R [])=pre.filter (fM R [])++ [x]):=fun h=>by rw[List.filter_append,List.filter_cons,if_pos h,List.filter_nil]
  have TP:Hid (fM R [] x=false->(pre++ [x]).filter (fM R [])=pre.filter (fM R [])):=fun h=>by rw[List.filter_append,List.filter_cons,if_neg (by rw[h];simp),List.filter_nil,List.append_nil]
  clear hO hfx hpx hxm iM hxl
  gi_wp2
  gi_loopw [7,16] (fun g i wr=> ∃k:Nat,k<=n/\i=.int .i64 k/\g=.int .i64 (kP (x.take k):Nat)/\fM R [] (x.take k)=true/\wr=W) (fun _ i _=>n- (intOf i).toNat)
  case atStart=>exact⟨0,Nat.zero_le _,rfl,by simp[kP],by simp[fM],rfl⟩
  case round=>
   obtain⟨k,hk,rfl,rfl,hacc,rfl⟩:=hrel;have Ww:=ah hacc;clear hacc;by_cases hlt:k<n
   .obtain⟨b,off,t,rfl,hbl,ho,ct⟩:=HX.out.1.at_ hlt;have htr:=RQ.out t (List.mem_of_getElem? ho);have acB:kP (x.take k)<16:=TG fun u hu=>RQ.out u (List.mem_of_mem_take hu)
    have IJ:Hid (kP (x.take (k+1))=kP (x.take k)|||1<<<t.toNat):=P_ ho
    have kJ:Hid (¬(R.getD t.toNat 0&&&kP (x.take k)=0)->fM R [] x=false):=YP ho;have TQ:Hid (R.getD t.toNat 0&&&kP (x.take k)=0->fM R [] (x.take (k+1))=true):=fun h=>YO ho Ww.out h
    clear ho Ww;generalize kP (x.take k)=g at*;obtain⟨tn,rfl⟩:=Int.eq_ofNat_of_zero_le htr.1;have htn:tn<4:=by omega
    obtain⟨bg,acC,rfl,hbg,cgr,xH⟩:=jM H4.out HGW.out htn;simp only[Int.toNat_natCast] at kJ TQ IJ;generalize R.getD tn 0=r at*;have hand:=Ht r g (by omega) (by omega)
    obtain⟨v,hv⟩: ∃v,r&&&g=v:=⟨_,rfl⟩;rw[hv] at hand kJ TQ;have l1:(tn:Int)<4:=by omega
    have l2:(0:Int)<=(tn:Int):=by omega
    have l3:(k:Int)<n:=by omega
    have l4:(0:Int)<=(k:Int):=by omega
    clear hv;by_cases hv0:v=0
    .subst hv0;have HY:=ah (TQ.out rfl);have e1:bits .or .i64 (g:Int) 1=((g|||1:Nat):Int):=jl g 1 (by omega) (by omega)
     have e2:bits .or .i64 (g:Int) 2=((g|||2:Nat):Int):=jl g 2 (by omega) (by omega)
     have e4:bits .or .i64 (g:Int) 4=((g|||4:Nat):Int):=jl g 4 (by omega) (by omega)
     have e8:bits .or .i64 (g:Int) 8=((g|||8:Nat):Int):=jl g 8 (by omega) (by omega)
     clear TQ kJ;rcases(by omega:tn=0\/tn=1\/tn=2\/tn=3) with rfl|rfl|rfl|rfl
     all_goals
      try simp only[Nat.add_zero] at cgr
      gi_wp2
      go_roundw
      case rel=>exact⟨k+1,by omega,by go_num,by rw[IJ.out];rfl,HY.out,by first|rfl|trivial⟩
      case measure=>simp[intOf];omega
    .have hvn:((v:Int) !=0)=true:=by simp;omega
     have HN:=ah (kJ.out hv0);clear TQ kJ
     gi_wp2
     refine⟨sj.of_below aG,?_,hgc⟩;show fV _ _ _ _ ((pre++ [x]).filter (fM R [])) _
     rw[TP.out HN.out];exact HO.out
   .obtain rfl:k=n:=by omega
    have aaN:fM R [] x=true:=by
     have:=Ww.out
     rwa [List.take_of_length_le (by rw[HXL.out];exact Nat.le_refl _)] at this
    have HF:=ah (HF1.out aaN);obtain⟨hb,hf,ov,rv,hc,hown,hrows,Wv,hgo,hblk⟩:=Vg.out;obtain⟨Ao,Y2,rfl,hco⟩:=aD hown;have Wx:Hid (nG (rv++ [.slice A' k k])):=Wv.snoc fun i a m d b hAb hi=>by
     obtain⟨b',cur,e1,e2,_,_⟩:=HFV.out.2 b hAb;have:=hblk i a m d hi;rw[e1];simp only;omega
    have hcA:(wr.alloc (.cells #[.slice A' k k] 45)).drew.cell? ⟨w.heap.size+2,0,none⟩=some (.slice Ao (pre.filter (fM R [])).length Y2):=(((Below.refl _ wr).alloc aj (.cells #[.slice A' k k] 45)).drew.cell (p:=⟨w.heap.size+2,0,none⟩) (block_lt_of_cell hc)).trans hc;have hbA:Below wr.heap.size wr (wr.alloc (.cells #[.slice A' k k] 45)).drew:=((Below.refl _ wr).alloc aj _).drew;have kV:=ah hbA;have HOWN:=ah hown;have Wy:=ah (own_below hown hbA);have Gw:=ah hrows;have IJ:=ah hgo;have hs2:w.heap.size<=wr.heap.size:=hb.size;have HB:=ah hb;have HGC:=ah hgc;have XJ:=ah hf;have HHC:=ah hc;generalize hN:(pre.filter (fM R [])).length=N at*;have HN:=ah hN;clear Wv hblk HFV Vg hown hrows hgo hbA hb aaN Ww TP HF1 hN
    gi_wp2
    refine wpIn_region_any (by kernel_rfl) ?_
    change wpAnyIn _ _ _ _ _ _ _ _ _ (World.drew _);refine wpAnyIn_ready (rs:= [0,1]) (by kernel_rfl) (by simp) ?_
    refine AllReadyIn.cons rfl (fun K hK=>?_) ?_
    .skip;go_simp;refine hK _ _ ?_;clear hK K;refine wpAnyIn_ready (rs:= [1]) (by kernel_rfl) (by simp) ?_
     refine AllReadyIn.cons rfl (fun K hK=>?_) ?_
     .skip;go_simp;refine hK _ _ ?_;clear hK K;refine wpAnyIn_ready (rs:= [2]) (by kernel_rfl) (by simp) ?_
      refine AllReadyIn.cons rfl (fun K hK=>?_) ?_
      .skip;go_simp;refine⟨trivial,fun h=>(by simp[Fence.wide] at h),?_⟩
       gi_at_call 129
       refine(CallsIn.inRound l (callsIn_wide.2 (zZ A' k c' _ (by omega) hc'))).mono ?_
       rintro e w' ⟨rfl,rfl⟩;go_simp;refine hK _ _ ?_;clear hK K;refine wpAnyIn_ready (rs:= [3]) (by kernel_rfl) (by simp) ?_
       refine AllReadyIn.cons rfl (fun K hK=>?_) ?_
       .skip;go_simp;refine hK _ _ ?_;clear hK K;refine wpAnyIn_ready (rs:= [4]) (by kernel_rfl) (by simp) ?_
        refine AllReadyIn.cons rfl (fun K hK=>?_) ?_
        .skip;refine pV (.tmp 32) (.tmp 35) Wy.out (by have:=kV.out.size;omega) (Src.one wr.drew (.slice A' k k) 45 rfl) (by omega) rfl rfl rfl rfl ?_
         intro v1 w1 hown1 hg1 jN;obtain⟨A1,c1,rfl,hc1⟩:=aD hown1;have hne:(Value.slice Ao N Y2).ownBlock≠some (w.heap.size+2):=fun e=>by have:=IJ.out _ e;omega
         have c2w:=(cell_grown hg1 (p:=⟨w.heap.size+2,0,none⟩) (block_lt_of_cell hcA) (fun e=>hne e.symm)).trans hcA
         have f2w:w1.frozen? ⟨w.heap.size+2,0,none⟩=false:=(jO hg1 (p:=⟨w.heap.size+2,0,none⟩) (block_lt_of_cell hcA) (fun e=>hne e.symm)).trans ((kV.out.frozen (p:=⟨w.heap.size+2,0,none⟩) (block_lt_of_cell hc)).trans hf)
         have hfin:=And.intro (vL (w:=wL) (bo:=w.heap.size+2) (q:=w.heap.size+1) (bx:=w.heap.size+3) (n0:=w.heap.size) (Gp:=.slice A1 (N+1) c1) (by omega) ⟨by omega,by omega⟩ ⟨by omega,by omega,by omega⟩ (by omega) IJ.out (by omega) kV.out hg1) (And.intro (fV.push (w:=wL) (bo:=w.heap.size+2) (q:=w.heap.size+1) (xss:=pre.filter (fM R [])) (by omega) (by omega) (by omega) ⟨by omega,by omega⟩ HB.out XJ.out HHC.out (by rw[HN.out];exact HOWN.out) Gw.out Wx.out IJ.out HX.out HXL.out kV.out hlo (by rw[HN.out];exact hown1) hg1 jN) (vM (w:=wL) (bo:=w.heap.size+2) (q:=w.heap.size+1) (p:=w.heap.size) (Gp:=.slice A1 (N+1) c1) IJ.out (by omega) (by omega) (by omega) kV.out hg1 HGC.out))
         have qo:=ah hfin;clear hfin hown1 hg1 jN;go_simp;refine hK _ _ ?_;clear hK K;refine wpAnyIn_ready (rs:= [5]) (by kernel_rfl) (by simp) ?_
         refine AllReadyIn.cons rfl (fun K hK=>?_) ?_
         .skip;go_simp;refine hK _ _ ?_;clear hK K;refine wpAnyIn_done (by kernel_rfl) ?_ _
          have hgoal:uH wL.heap.size (w.heap.size+3) w.heap.size (fun acc V=>fV w wL (w.heap.size+2) (w.heap.size+1) (acc.filter (fM R [])) V/\V.cell? ⟨w.heap.size,0,none⟩=some (.slice G 4 gc)) (pre++ [x]) wr .normal { tmps:= #[],defers:= [] } (w1.setCell ⟨w.heap.size+2,0,none⟩ (.slice A1 (N+1) c1)):=by
           refine⟨qo.out.1,?_,qo.out.2.2⟩;show fV _ _ _ _ ((pre++ [x]).filter (fM R [])) _
           rw[HF.out];exact qo.out.2.1
          exact hgoal
         exact AllReadyIn.nil
        exact AllReadyIn.nil
       exact AllReadyIn.nil
      exact AllReadyIn.nil
     exact AllReadyIn.nil
    refine AllReadyIn.cons rfl (fun K hK=>?_) ?_
    .skip;go_simp;refine hK _ _ ?_;clear hK K;refine wpAnyIn_ready (rs:= [0,2]) (by kernel_rfl) (by simp) ?_
     refine AllReadyIn.cons rfl (fun K hK=>?_) ?_
     .skip;go_simp;refine hK _ _ ?_;clear hK K;refine wpAnyIn_ready (rs:= [2]) (by kernel_rfl) (by simp) ?_
      refine AllReadyIn.cons rfl (fun K hK=>?_) ?_
      .skip;go_simp;refine⟨trivial,fun h=>(by simp[Fence.wide] at h),?_⟩
       gi_at_call 129
       refine(CallsIn.inRound l (callsIn_wide.2 (zZ A' k c' _ (by omega) hc'))).mono ?_
       rintro e w' ⟨rfl,rfl⟩;go_simp;refine hK _ _ ?_;clear hK K;refine wpAnyIn_ready (rs:= [3]) (by kernel_rfl) (by simp) ?_
       refine AllReadyIn.cons rfl (fun K hK=>?_) ?_
       .skip;go_simp;refine hK _ _ ?_;clear hK K;refine wpAnyIn_ready (rs:= [4]) (by kernel_rfl) (by simp) ?_
        refine AllReadyIn.cons rfl (fun K hK=>?_) ?_
        .skip;refine pV (.tmp 32) (.tmp 35) Wy.out (by have:=kV.out.size;omega) (Src.one wr.drew (.slice A' k k) 45 rfl) (by omega) rfl rfl rfl rfl ?_
         intro v1 w1 hown1 hg1 jN;obtain⟨A1,c1,rfl,hc1⟩:=aD hown1;have hne:(Value.slice Ao N Y2).ownBlock≠some (w.heap.size+2):=fun e=>by have:=IJ.out _ e;omega
         have c2w:=(cell_grown hg1 (p:=⟨w.heap.size+2,0,none⟩) (block_lt_of_cell hcA) (fun e=>hne e.symm)).trans hcA
         have f2w:w1.frozen? ⟨w.heap.size+2,0,none⟩=false:=(jO hg1 (p:=⟨w.heap.size+2,0,none⟩) (block_lt_of_cell hcA) (fun e=>hne e.symm)).trans ((kV.out.frozen (p:=⟨w.heap.size+2,0,none⟩) (block_lt_of_cell hc)).trans hf)
         have hfin:=And.intro (vL (w:=wL) (bo:=w.heap.size+2) (q:=w.heap.size+1) (bx:=w.heap.size+3) (n0:=w.heap.size) (Gp:=.slice A1 (N+1) c1) (by omega) ⟨by omega,by omega⟩ ⟨by omega,by omega,by omega⟩ (by omega) IJ.out (by omega) kV.out hg1) (And.intro (fV.push (w:=wL) (bo:=w.heap.size+2) (q:=w.heap.size+1) (xss:=pre.filter (fM R [])) (by omega) (by omega) (by omega) ⟨by omega,by omega⟩ HB.out XJ.out HHC.out (by rw[HN.out];exact HOWN.out) Gw.out Wx.out IJ.out HX.out HXL.out kV.out hlo (by rw[HN.out];exact hown1) hg1 jN) (vM (w:=wL) (bo:=w.heap.size+2) (q:=w.heap.size+1) (p:=w.heap.size) (Gp:=.slice A1 (N+1) c1) IJ.out (by omega) (by omega) (by omega) kV.out hg1 HGC.out))
         have qo:=ah hfin;clear hfin hown1 hg1 jN;go_simp;refine hK _ _ ?_;clear hK K;refine wpAnyIn_ready (rs:= [5]) (by kernel_rfl) (by simp) ?_
         refine AllReadyIn.cons rfl (fun K hK=>?_) ?_
         .skip;go_simp;refine hK _ _ ?_;clear hK K;refine wpAnyIn_done (by kernel_rfl) ?_ _
          have hgoal:uH wL.heap.size (w.heap.size+3) w.heap.size (fun acc V=>fV w wL (w.heap.size+2) (w.heap.size+1) (acc.filter (fM R [])) V/\V.cell? ⟨w.heap.size,0,none⟩=some (.slice G 4 gc)) (pre++ [x]) wr .normal { tmps:= #[],defers:= [] } (w1.setCell ⟨w.heap.size+2,0,none⟩ (.slice A1 (N+1) c1)):=by
           refine⟨qo.out.1,?_,qo.out.2.2⟩;show fV _ _ _ _ ((pre++ [x]).filter (fM R [])) _
           rw[HF.out];exact qo.out.2.1
          exact hgoal
         exact AllReadyIn.nil
        exact AllReadyIn.nil
       exact AllReadyIn.nil
      exact AllReadyIn.nil
     refine AllReadyIn.cons rfl (fun K hK=>?_) ?_
     .skip;go_simp;refine⟨trivial,fun h=>(by simp[Fence.wide] at h),?_⟩
      gi_at_call 129
      refine(CallsIn.inRound l (callsIn_wide.2 (zZ A' k c' _ (by omega) hc'))).mono ?_
      rintro e w' ⟨rfl,rfl⟩;go_simp;refine hK _ _ ?_;clear hK K;refine wpAnyIn_ready (rs:= [0,3]) (by kernel_rfl) (by simp) ?_
      refine AllReadyIn.cons rfl (fun K hK=>?_) ?_
      .skip;go_simp;refine hK _ _ ?_;clear hK K;refine wpAnyIn_ready (rs:= [3]) (by kernel_rfl) (by simp) ?_
       refine AllReadyIn.cons rfl (fun K hK=>?_) ?_
       .skip;go_simp;refine hK _ _ ?_;clear hK K;refine wpAnyIn_ready (rs:= [4]) (by kernel_rfl) (by simp) ?_
        refine AllReadyIn.cons rfl (fun K hK=>?_) ?_
        .skip;refine pV (.tmp 32) (.tmp 35) Wy.out (by have:=kV.out.size;omega) (Src.one wr.drew (.slice A' k k) 45 rfl) (by omega) rfl rfl rfl rfl ?_
         intro v1 w1 hown1 hg1 jN;obtain⟨A1,c1,rfl,hc1⟩:=aD hown1;have hne:(Value.slice Ao N Y2).ownBlock≠some (w.heap.size+2):=fun e=>by have:=IJ.out _ e;omega
         have c2w:=(cell_grown hg1 (p:=⟨w.heap.size+2,0,none⟩) (block_lt_of_cell hcA) (fun e=>hne e.symm)).trans hcA
         have f2w:w1.frozen? ⟨w.heap.size+2,0,none⟩=false:=(jO hg1 (p:=⟨w.heap.size+2,0,none⟩) (block_lt_of_cell hcA) (fun e=>hne e.symm)).trans ((kV.out.frozen (p:=⟨w.heap.size+2,0,none⟩) (block_lt_of_cell hc)).trans hf)
         have hfin:=And.intro (vL (w:=wL) (bo:=w.heap.size+2) (q:=w.heap.size+1) (bx:=w.heap.size+3) (n0:=w.heap.size) (Gp:=.slice A1 (N+1) c1) (by omega) ⟨by omega,by omega⟩ ⟨by omega,by omega,by omega⟩ (by omega) IJ.out (by omega) kV.out hg1) (And.intro (fV.push (w:=wL) (bo:=w.heap.size+2) (q:=w.heap.size+1) (xss:=pre.filter (fM R [])) (by omega) (by omega) (by omega) ⟨by omega,by omega⟩ HB.out XJ.out HHC.out (by rw[HN.out];exact HOWN.out) Gw.out Wx.out IJ.out HX.out HXL.out kV.out hlo (by rw[HN.out];exact hown1) hg1 jN) (vM (w:=wL) (bo:=w.heap.size+2) (q:=w.heap.size+1) (p:=w.heap.size) (Gp:=.slice A1 (N+1) c1) IJ.out (by omega) (by omega) (by omega) kV.out hg1 HGC.out))
         have qo:=ah hfin;clear hfin hown1 hg1 jN;go_simp;refine hK _ _ ?_;clear hK K;refine wpAnyIn_ready (rs:= [5]) (by kernel_rfl) (by simp) ?_
         refine AllReadyIn.cons rfl (fun K hK=>?_) ?_
         .skip;go_simp;refine hK _ _ ?_;clear hK K;refine wpAnyIn_done (by kernel_rfl) ?_ _
          have hgoal:uH wL.heap.size (w.heap.size+3) w.heap.size (fun acc V=>fV w wL (w.heap.size+2) (w.heap.size+1) (acc.filter (fM R [])) V/\V.cell? ⟨w.heap.size,0,none⟩=some (.slice G 4 gc)) (pre++ [x]) wr .normal { tmps:= #[],defers:= [] } (w1.setCell ⟨w.heap.size+2,0,none⟩ (.slice A1 (N+1) c1)):=by
           refine⟨qo.out.1,?_,qo.out.2.2⟩;show fV _ _ _ _ ((pre++ [x]).filter (fM R [])) _
           rw[HF.out];exact qo.out.2.1
          exact hgoal
         exact AllReadyIn.nil
        exact AllReadyIn.nil
       exact AllReadyIn.nil
      refine AllReadyIn.cons rfl (fun K hK=>?_) ?_
      .skip;go_simp;refine hK _ _ ?_;clear hK K;refine wpAnyIn_ready (rs:= [0]) (by kernel_rfl) (by simp) ?_
       refine AllReadyIn.cons rfl (fun K hK=>?_) ?_
       .skip;go_simp;refine hK _ _ ?_;clear hK K;refine wpAnyIn_ready (rs:= [4]) (by kernel_rfl) (by simp) ?_
        refine AllReadyIn.cons rfl (fun K hK=>?_) ?_
        .skip;refine pV (.tmp 32) (.tmp 35) Wy.out (by have:=kV.out.size;omega) (Src.one wr.drew (.slice A' k k) 45 rfl) (by omega) rfl rfl rfl rfl ?_
         intro v1 w1 hown1 hg1 jN;obtain⟨A1,c1,rfl,hc1⟩:=aD hown1;have hne:(Value.slice Ao N Y2).ownBlock≠some (w.heap.size+2):=fun e=>by have:=IJ.out _ e;omega
         have c2w:=(cell_grown hg1 (p:=⟨w.heap.size+2,0,none⟩) (block_lt_of_cell hcA) (fun e=>hne e.symm)).trans hcA
         have f2w:w1.frozen? ⟨w.heap.size+2,0,none⟩=false:=(jO hg1 (p:=⟨w.heap.size+2,0,none⟩) (block_lt_of_cell hcA) (fun e=>hne e.symm)).trans ((kV.out.frozen (p:=⟨w.heap.size+2,0,none⟩) (block_lt_of_cell hc)).trans hf)
         have hfin:=And.intro (vL (w:=wL) (bo:=w.heap.size+2) (q:=w.heap.size+1) (bx:=w.heap.size+3) (n0:=w.heap.size) (Gp:=.slice A1 (N+1) c1) (by omega) ⟨by omega,by omega⟩ ⟨by omega,by omega,by omega⟩ (by omega) IJ.out (by omega) kV.out hg1) (And.intro (fV.push (w:=wL) (bo:=w.heap.size+2) (q:=w.heap.size+1) (xss:=pre.filter (fM R [])) (by omega) (by omega) (by omega) ⟨by omega,by omega⟩ HB.out XJ.out HHC.out (by rw[HN.out];exact HOWN.out) Gw.out Wx.out IJ.out HX.out HXL.out kV.out hlo (by rw[HN.out];exact hown1) hg1 jN) (vM (w:=wL) (bo:=w.heap.size+2) (q:=w.heap.size+1) (p:=w.heap.size) (Gp:=.slice A1 (N+1) c1) IJ.out (by omega) (by omega) (by omega) kV.out hg1 HGC.out))
         have qo:=ah hfin;clear hfin hown1 hg1 jN;go_simp;refine hK _ _ ?_;clear hK K;refine wpAnyIn_ready (rs:= [5]) (by kernel_rfl) (by simp) ?_
         refine AllReadyIn.cons rfl (fun K hK=>?_) ?_
         .skip;go_simp;refine hK _ _ ?_;clear hK K;refine wpAnyIn_done (by kernel_rfl) ?_ _
          have hgoal:uH wL.heap.size (w.heap.size+3) w.heap.size (fun acc V=>fV w wL (w.heap.size+2) (w.heap.size+1) (acc.filter (fM R [])) V/\V.cell? ⟨w.heap.size,0,none⟩=some (.slice G 4 gc)) (pre++ [x]) wr .normal { tmps:= #[],defers:= [] } (w1.setCell ⟨w.heap.size+2,0,none⟩ (.slice A1 (N+1) c1)):=by
           refine⟨qo.out.1,?_,qo.out.2.2⟩;show fV _ _ _ _ ((pre++ [x]).filter (fM R [])) _
           rw[HF.out];exact qo.out.2.1
          exact hgoal
         exact AllReadyIn.nil
        exact AllReadyIn.nil
       exact AllReadyIn.nil
      exact AllReadyIn.nil
     exact AllReadyIn.nil
    exact AllReadyIn.nil
open Go.RowKit Go.BigFrame
theorem gV.from {w W w':World}{xss:List (List Int)}{e:Ending}(hb:Below w.heap.size w W)(h:gV W xss e w'):gV w xss e w':=by
 obtain⟨A6,c6,rv,rfl,h2,h3,h4,h5,h6⟩:=h;have hs:=hb.size;exact⟨A6,c6,rv,rfl,h2,⟨h3.1,fun ad had=>by obtain⟨b,cur,e1,e2,e3⟩:=h3.2 ad had;exact⟨b,cur,e1,by omega,e3⟩⟩,h4.since hs,h5,hb.trans (h6.mono hs)⟩
theorem dP.from {w W w':World}{xss:List (List Int)}{e:Ending}(hb:Below w.heap.size w W)(h:dP W xss e w'):dP w xss e w':=by
 obtain⟨A6,c6,rv,rfl,h2,h3,h4,h6⟩:=h;have hs:=hb.size;exact⟨A6,c6,rv,rfl,h2,⟨h3.1,fun ad had=>by obtain⟨b,cur,e1,e2,e3⟩:=h3.2 ad had;exact⟨b,cur,e1,by omega,e3⟩⟩,h4.since hs,hb.trans (h6.mono hs)⟩
theorem IK (A:Option Addr)(n c:Nat)(s:List ay)(w:World)(hx:aC w A n s)(hv:aF s=true):
 Calls Tryz.prog 68 #[.slice A n c] w (gV w (JY s)):=by
 have HX:=ah hx;have HV:=ah hv;clear hx hv;go_enter Tryz.func68,Tryz.ntmps68;go_wp2_with fail
 refine(tq A n c s w HX.out).mono ?_;rintro e w1 ⟨C,cc,rfl,hcc,hf,hb1⟩;have hf1:=hf.1;have HT:=ah (O6 C (committed s).length cc (committed s) w1 hf1);clear hf;go_wp2_with fail
 refine HT.out.mono ?_;rintro e w2 ⟨L,lc,rfl,hlc,hf2,hb2⟩;have wh:=hb1.trans (hb2.mono hb1.size);have hG:=Bd A n c s w2 (HX.out.below wh aj) HV.out;have HG:=ah hG;have hL4:(ji (committed s)).length<=4:=Gg _;have Wn:=ah (rW (committed s));have HLR:=ah hf2.1;have HLB:Hid (∀ad,L=some ad->ad.block<w2.heap.size):=aN.blk hf2;have HOO:Hid (JY s=Ih (ji (committed s)) (qA (committed s))):=rfl;have HR4:Hid (dA (qA (committed s))):=Ig (um HV.out);clear hf2 hG hf1 HT;generalize ji (committed s)=LL at*;go_wp2_with fail
 refine HG.out.mono ?_;rintro e w3 ⟨G,gc,rfl,hgc,⟨hg3,_⟩,hb3⟩;have hlen:(dD (qA (committed s))).length=4:=by simp[dD,HR4.out.1]
 rw[hlen] at hg3 hgc ⊢;have BM:=wh.trans (hb3.mono wh.size);have HO:=ah (II L G LL.length lc gc LL (qA (committed s)) w3 (HLR.out.below hb3 aj) (fun ad h=>Nat.lt_of_lt_of_le (HLB.out ad h) hb3.size) hg3 HR4.out Wn.out hL4)
 rw[<-HOO.out] at HO;clear hg3 hlen hb3;go_wp2_with fail
 refine HO.out.mono ?_;intro e w4 hret;obtain⟨A6,c6,rv,rfl,h2,h3,h4,h5,h6⟩:=hret;have HR:Hid (gV w (JY s) (.returned (.slice A6 (JY s).length c6)) w4):=gV.from BM ⟨A6,c6,rv,rfl,h2,h3,h4,h5,h6⟩
 clear h2 h3 h4 h5 h6 HO;go_wp2_with fail
 go_ret;exact HR.out
theorem Fu (A:Option Addr)(n c:Nat)(s:List ay)(w:World)(hx:aC w A n s)(hnc:n<=c):
 Calls Tryz.prog 30 #[.slice A n c] w (dP w (wF (aF s) (jY s))):=by
 have HX:=ah hx;clear hx;go_enter Tryz.func30,Tryz.ntmps30;go_wp2_with fail
 refine(rJ A n c s w HX.out).mono ?_;rintro e w1 ⟨rfl,hb⟩;cases hv:aF s
 .have HV:=ah hv;clear hv;go_wp2_with fail
  go_ret;rw[HV.out];exact dP.nil hb
 .have HV:=ah hv;have HC:=ah (uD A n c s w1 (HX.out.below hb aj));have hcv: ∀o∈committed s,aJ o=true:=fun o ho=>ou hv o (yI ho)
  have HCV:=ah hcv;have HR4:Hid (dA (qA (committed s))):=Ig (um hv);have HOO:Hid (jY s=ql (ji (committed s)) (qA (committed s)) (ji (committed s)).length []):=rfl;have Wn:=ah (rW (committed s));have hL4:(ji (committed s)).length<=4:=Gg _;clear hv hcv;generalize committed s=K at*;go_wp2_with fail
  refine HC.out.mono ?_;rintro e w2 ⟨C,cc,rfl,hcc,⟨hfc,_⟩,hb2⟩;have HT:=ah (Ti C K.length cc K w2 hfc);have MH:=ah hfc;have aaO:=hb.trans (hb2.mono hb.size);clear hfc HC hb2;go_wp2_with fail
  refine HT.out.mono ?_;rintro e w3 ⟨L,lc,rfl,hlc,⟨hfl,_⟩,hb3⟩;have HG:=ah (DZ C K.length cc K w3 (MH.out.below hb3 aj) HCV.out);have BH:=ah hfl;have TM:=aaO.trans (hb3.mono aaO.size);clear hfl HT hb3 MH;generalize ji K=LL at*;go_wp2_with fail
  refine HG.out.mono ?_;rintro e w4 ⟨G,gc,rfl,hgc,⟨hg4,_⟩,hb4⟩;have hlen:(dD (qA K)).length=4:=by simp[dD,HR4.out.1]
  rw[hlen] at hg4 hgc ⊢;have aaP:=TM.trans (hb4.mono TM.size);have ha4:Below w4.heap.size w4 (w4.alloc (.cells #[] 3)):=aG.alloc aj _;have hT:Kl L (some ⟨w4.heap.size,0,none⟩) G LL.length 0 LL [] (qA K) (w4.alloc (.cells #[] 3)):=⟨(BH.out.below hb4 aj).below ha4 aj,aM.nil,hg4.below ha4 aj⟩;have Y3:=ah (Wq LL.length L (some ⟨w4.heap.size,0,none⟩) G LL.length lc 0 0 gc LL [] (qA K) _ hT HR4.out Wn.out hL4 (by omega))
  rw[<-HOO.out] at Y3;have HB:Hid (Below w.heap.size w (w4.alloc (.cells #[] 3))):=aaP.trans (ha4.mono aaP.size);clear hg4 hlen hb4 ha4 hT HG;go_wp2_with fail
  refine Y3.out.mono ?_;intro e w6 hret;obtain⟨A6,c6,rv,rfl,h2,h3,h4,h6⟩:=hret;have HR:Hid (dP w (jY s) (.returned (.slice A6 (jY s).length c6)) w6):=dP.from HB.out ⟨A6,c6,rv,rfl,h2,h3,h4,h6⟩
  clear h2 h3 h4 h6 Y3;go_wp2_with fail
  go_ret;rw[HV.out];exact HR.out
end Go.Proofs.YtddkjbibjjehjaaGreatDoor
