/-
  IsSame of the program: the walk.
-/
import Derived.Test.YtkbclcgdkbhgdaaQIvsView4
import Derived.Test.YtkbclcgdkbhgdaaQIvsView5
import Derived.Test.YtkbclcgdkbhgdaaPkOrdX1
namespace Go.Proofs.Ytkbclcgdkbhgdaa
open Go.RowKit Go.BigFrame
set_option linter.unusedVariables false

theorem pl_sameKey {t u t' u' : Int} (h1 : (Lit.int .i64 t).wf = true) (h2 : (Lit.int .i64 u).wf = true) (h3 : (Lit.int .i64 t').wf = true) (h4 : (Lit.int .i64 u').wf = true) (h : (pllit t u).sameKey (pllit t' u') = true) : t = t' ∧ u = u' := by
  by_cases e : pllit t u = pllit t' u'
  · exact pllit_inj h1 h2 h3 h4 e
  · rw [Maps.sameKey_ne e] at h; cases h
/-- Each operation whose key has come passes the test. -/
def KDone (a : List OpV) (left : Lit → Bool) (T : Nat → OpV → Prop) : Prop := ∀ i o, a[i]? = some o → left (pllit o.tx (cntN a o.tx i : Int)) = false → T i o
theorem KvIs.start {D : DataW Unit} {a : List OpV} {f : Nat → OpV → Option Int} (h : KvIs D a f) (hx : Tx4 a) (hn : a.length ≤ 1099511627776) {T : Nat → OpV → Prop} (hT : ∀ i o, a[i]? = some o → f i o = none → T i o) : KDone a (Maps.has D) T := by
  intro i o hi hl
  have hil := (List.getElem?_eq_some_iff.1 hi).1
  refine hT i o hi ?_
  cases e : f i o with
  | none => rfl
  | some v =>
    exfalso
    have := (h.has o.tx (cntN a o.tx i : Int) (wf_small (hx o (List.mem_of_getElem? hi))) (wf_nat (by have := cntN_le (s := a) (t := o.tx) (i := i); omega))).2 ⟨i, o, hi, rfl, rfl, by rw [e]; rfl⟩
    rw [this] at hl
    cases hl
theorem KDone.step {a : List OpV} {left : Lit → Bool} {T : Nat → OpV → Prop} (h : KDone a left T) (hx : Tx4 a) (hn : a.length ≤ 1099511627776) {i : Nat} {o : OpV} {u : Int} (hi : a[i]? = some o) (hu : (cntN a o.tx i : Int) = u) (hT : T i o) : KDone a (fun z => left z && !z.sameKey (pllit o.tx u)) T := by
  subst hu
  intro j p hj hl
  have hil := (List.getElem?_eq_some_iff.1 hi).1
  have hjl := (List.getElem?_eq_some_iff.1 hj).1
  have b1 := cntN_le (s := a) (t := o.tx) (i := i)
  have b2 := cntN_le (s := a) (t := p.tx) (i := j)
  by_cases e : left (pllit p.tx (cntN a p.tx j : Int)) = false
  · exact h j p hj e
  · have e1 : left (pllit p.tx (cntN a p.tx j : Int)) = true := by cases hh : left (pllit p.tx (cntN a p.tx j : Int)) <;> simp_all
    simp only at hl
    rw [e1, Bool.true_and, Bool.not_eq_false'] at hl
    obtain ⟨e2, e3⟩ := pl_sameKey (wf_small (hx p (List.mem_of_getElem? hj))) (wf_nat (by omega)) (wf_small (hx o (List.mem_of_getElem? hi))) (wf_nat (by omega)) hl
    have e4 : cntN a p.tx j = cntN a o.tx i := by omega
    rw [e2] at e4
    have hji : j = i := At.uniq (s := a) (t := o.tx) (k := cntN a o.tx i) ⟨p, hj, e2, e4⟩ ⟨o, hi, rfl, rfl⟩
    subst hji
    rw [hi] at hj
    injection hj with hj
    subst hj
    exact hT
theorem ranges_blk {w w' : World} {b r n : Nat} {D : DataW Unit} {left : Lit → Bool} {cnt : Nat} (h : w.ranges Try.prog 73 (plainElem (H := Unit) Try.prog 3) b r n D left cnt) (hb : w'.heap[b]? = w.heap[b]?) (hr : w'.heap[r]? = w.heap[r]?) :
    w'.ranges Try.prog 73 (plainElem (H := Unit) Try.prog 3) b r n D left cnt := by
  obtain ⟨es, clock, since, seen, c0, h1, h2, h3, h4, h5, h6⟩ := h
  exact ⟨es, clock, since, seen, c0, hb.trans h1, h2, h3, h4, hr.trans h5, h6⟩
set_option maxRecDepth 100000 in
/-- What the map of the other schedule says at the key of an operation. -/
theorem lookup_at {W : World} {b n : Nat} {D : DataW Unit} {s : List OpV} {f : Nat → OpV → Option Int} (hown : W.ownsMap Try.prog 73 (plainElem (H := Unit) Try.prog 3) b n D) (h : KvIs D s f) (hx : Tx4 s) (hn : s.length ≤ 1099511627776) {j : Nat} {o : OpV} {u v : Int} (hj : s[j]? = some o) (hu : (cntN s o.tx j : Int) = u) (hf : f j o = some v) :
    ∀ z : Later W, (Instr.lookup 70 (.map (some b)) (.agg #[.int .i64 o.tx, .int .i64 u]) false).run Try.prog z.1 = .ok (.int .i64 v) z.1 := by
  intro z
  subst hu
  have hjl := (List.getElem?_eq_some_iff.1 hj).1
  have b1 := cntN_le (s := s) (t := o.tx) (i := j)
  have w1 := wf_small (hx o (List.mem_of_getElem? hj))
  have w2 : (Lit.int .i64 (cntN s o.tx j : Int)).wf = true := wf_nat (by omega)
  have hownz := ownsMap_blk hown (z.2.block b hown.lt)
  obtain ⟨c, hrun, hat, _⟩ := hownz.lookup_int plkeyed Try.underlying70 Try.underlying3 (by first | exact Try.zeroValue3 _ | exact Try.zeroValue3) (plkey w1 w2)
  rw [h.val j o v hj hf] at hat
  injection hat with hat
  injection hat with _ hat
  subst hat
  exact hrun
noncomputable def tstI (a b : List OpV) (i k : Nat) : Bool := decide (i < k) != decide (mirN a b i < mirN a b k)

theorem same_failT {a b : List OpV} {i k : Nat} {o p : OpV} (hi : a[i]? = some o) (hk : a[k]? = some p) (hc : confB o p = true) (h : tstI a b i k = true) : sameB a b = false := by
  unfold tstI at h
  exact same_failI hi hk hc h

set_option maxRecDepth 100000 in
set_option maxHeartbeats 1500000 in
theorem IsSame_any (A B : Option Addr) (n m c d : Nat) (a b : List OpV) (w : World) (hx : ROps w A n a) (hnc : n ≤ c) (hy : ROps w B m b) (hmd : m ≤ d) :
    Calls Try.prog 40 #[.slice A n c, .slice B m d] w fun e w' => e = .returned (.bool (validS a && validS b && sameB a b)) ∧ Below w.heap.size w w' := by
  have hn := hx.2.1
  have hla := hx.1
  have hlb := hy.1
  have hm := hy.2.1
  have HX := Lib.hid hx
  have HY := Lib.hid hy
  have HV := Lib.hid (ValidSchedule_any A n c a w hx hnc)
  clear hx hy
  go_enter Try.func40, Try.ntmps40
  go_wp2_with fail
  refine HV.out.mono ?_
  rintro e w1 ⟨rfl, hb1⟩
  clear HV
  cases hva : validS a
  · have HVA := Lib.hid hva
    clear hva
    go_wp2_with fail
    go_ret
    exact ⟨ret_bool (by rw [HVA.out]; rfl), hb1⟩
  have HV2 := Lib.hid (ValidSchedule_any B m d b w1 (HY.out.below hb1 (Nat.le_refl _)) hmd)
  have HVA := Lib.hid hva
  clear hva
  go_wp2_with fail
  refine HV2.out.mono ?_
  rintro e w2 ⟨rfl, hb2'⟩
  have hb2 := hb1.trans (hb2'.mono hb1.size)
  clear HV2 hb2'
  cases hvb : validS b
  · have HVB := Lib.hid hvb
    clear hvb
    go_wp2_with fail
    go_ret
    exact ⟨ret_bool (by rw [HVA.out, HVB.out]; rfl), hb2⟩
  have HVB := Lib.hid hvb
  have hxa : Tx4 a := fun o ho => validS_tx3 HVA.out ho
  have hxb : Tx4 b := fun o ho => validS_tx3 hvb ho
  have HSO := Lib.hid (sameOps_any A B n m c d a b w2 (HX.out.below hb2 (Nat.le_refl _)) (HY.out.below hb2 (Nat.le_refl _)))
  have HSI := Lib.hid (sameOps_iff hxa hxb)
  have HXA := Lib.hid hxa
  have HXB := Lib.hid hxb
  have hna : a.length ≤ 1099511627776 := by omega
  have hnb : b.length ≤ 1099511627776 := by omega
  have HNA := Lib.hid hna
  have HNB := Lib.hid hnb
  clear hvb hxa hxb
  cases hso : sameOpsB a b
  · have HF : Hid (sameB a b = false) := same_not_ops fun h => by have := HSI.out.2 h; rw [hso] at this; cases this
    rw [hso] at HSO
    go_wp2_with fail
    refine HSO.out.mono ?_
    rintro e w3 ⟨rfl, hb3⟩
    go_wp2_with fail
    go_ret
    exact ⟨ret_bool (by rw [HVA.out, HVB.out, HF.out]; rfl), hb2.trans (hb3.mono hb2.size)⟩
  have HS : Hid (SameOps a b) := HSI.out.1 hso
  rw [hso] at HSO
  clear hso HSI
  go_wp2_with fail
  refine HSO.out.mono ?_
  rintro e w3 ⟨rfl, hb3'⟩
  have hb3 := hb2.trans (hb3'.mono hb2.size)
  have HP1 := Lib.hid (placesOf_any A n c a w3 (HX.out.below hb3 (Nat.le_refl _)) HXA.out)
  clear HSO hb3' hb2 hb1
  go_wp2_with fail
  refine HP1.out.mono ?_
  rintro e w4 ⟨m1, D1, N1, rfl, hm1, hN1, hown1, hkv1, hb4'⟩
  have hb4 := hb3.trans (hb4'.mono hb3.size)
  have HP2 := Lib.hid (placesOf_any B m d b w4 (HY.out.below hb4 (Nat.le_refl _)) HXB.out)
  have hm1l := hown1.lt
  have HO1 := Lib.hid hown1
  have HKV1 := Lib.hid hkv1
  clear HP1 hown1 hkv1 hb4' hm1
  go_wp2_with fail
  refine HP2.out.mono ?_
  rintro e wP ⟨m2, D2, N2, rfl, hm2, hN2, hown2, hkv2, hbP'⟩
  have hbP := hb4.trans (hbP'.mono hb4.size)
  have hown1 := ownsMap_blk HO1.out (hbP'.block m1 hm1l)
  have hm2l := hown2.lt
  have hm1P : m1 < wP.heap.size := by have := hbP'.size; omega
  have HO2 := Lib.hid hown2
  have HKV2 := Lib.hid hkv2
  have HO1P := Lib.hid hown1
  have HBP := Lib.hid hbP
  have hwP := hbP.size
  clear HP2 hown2 hkv2 hbP' hb4 hb3 HO1 hown1 hbP
  go_wp2_with (at_range; refine wpList_range_own _ rfl _ 70 rfl 73 3 plkeyed Try.underlying70 (plainElem (H := Unit) Try.prog 3) m1 N1 D1 rfl HO1P.out ?_; intro w0 hrg0 hg0 hs0)
  have hb0 : Below wP.heap.size wP w0 := ⟨hg0.os, hg0.tape, hg0.output, hg0.size, fun k hk => hg0.block k hk (by simp)⟩
  have HST : Hid (∃ left cnt, Below wP.heap.size wP w0 ∧ w0.ranges Try.prog 73 (plainElem (H := Unit) Try.prog 3) m1 wP.heap.size N1 D1 left cnt ∧ (∀ kl, left kl = true → Maps.has D1 kl = true) ∧ KDone a left (fun i o => ∀ k p, a[k]? = some p → confB o p = true → tstI a b i k = false)) := by
    refine ⟨_, _, hb0, hrg0, fun _ h => h, HKV1.out.start HXA.out HNA.out fun i o hi hf => ?_⟩
    have := (List.getElem?_eq_some_iff.1 hi).1
    simp [plF, this] at hf
  clear hrg0 hg0 hs0 hb0
  try go_frame
  obtain ⟨r1, hr1⟩ : ∃ r1, wP.heap.size = r1 := ⟨_, rfl⟩
  rw [hr1] at HST hm1P hm2l hwP ⊢
  have HR1 := Lib.hid hr1
  clear hr1
  go_loopw [8] (fun _ wr => ∃ left cnt, Below r1 wP wr ∧ wr.ranges Try.prog 73 (plainElem (H := Unit) Try.prog 3) m1 r1 N1 D1 left cnt ∧ (∀ kl, left kl = true → Maps.has D1 kl = true) ∧ KDone a left (fun i o => ∀ k p, a[k]? = some p → confB o p = true → tstI a b i k = false)) (fun _ wr => wr.rangeLeft m1 r1)
  case atStart => exact HST.out
  case round =>
    clear HST
    obtain ⟨wo, rfl⟩ : ∃ wo : World, wo = wr := ⟨_, rfl⟩
    obtain ⟨left, cnt, hbo, hrg, hlh, hdone⟩ := hrel
    have HRG := Lib.hid hrg
    have HLH := Lib.hid hlh
    have HDN := Lib.hid hdone
    have hro := hrg.lt
    clear hrg hlh hdone
    go_wp2_with (first
      | (at_next; refine plint_next rfl _ rfl _ _ _ D1 left cnt rfl HRG.out (fun hc0 hl0 => ?_) (fun t u i0 w1 cnt1 hwt hwu hwi hlx hat hrg1 hlt1 hg1 hs1 hen1 => ?_))
      | (at_range; refine wpList_range_own _ rfl _ 70 rfl 73 3 plkeyed Try.underlying70 (plainElem (H := Unit) Try.prog 3) m1 N1 D1 rfl (hrg1.owns.alloc _) ?_; intro wR hrgR hgR hsR))
    · have HF : Hid (sameB a b = true) := same_doneI HS.out fun i k o p hi hk hcf => HDN.out i o hi (hl0 _) k p hk hcf
      clear hl0
      go_ret
      exact ⟨ret_bool (by rw [HVA.out, HVB.out, HF.out]; rfl), HBP.out.trans (hbo.mono hwP)⟩
    · obtain ⟨i, o, hi, hot, hcu, hfi⟩ := HKV1.out.key hwt hwu (HLH.out _ hlx) hat
      obtain rfl : i0 = (i : Int) := by
        unfold plF at hfi
        split at hfi
        · injection hfi with hfi; exact hfi.symm
        · cases hfi
      obtain ⟨ot, ok, oi⟩ := o
      simp only at hot
      subst hot
      have hin : i < n := by have := (List.getElem?_eq_some_iff.1 hi).1; omega
      obtain ⟨mi, hmi⟩ : ∃ mi, mirN a b i = mi := ⟨_, rfl⟩
      obtain ⟨hbi1, hbi2⟩ := mirN_spec HS.out hi
      rw [hmi] at hbi1 hbi2
      simp only at hbi2
      have hmil : mi < b.length := (List.getElem?_eq_some_iff.1 hbi1).1
      have hb1o : Below r1 wP w1 := hbo.grown hg1 (by omega) (fun k e => by cases e; exact Nat.le_refl _)
      obtain ⟨V, hV⟩ : ∃ V, V = w1.alloc (.cells #[.int .i64 ot, .int .i64 u] 73) := ⟨_, rfl⟩
      rw [← hV] at hrgR hgR hsR
      have hbV : Below w1.heap.size w1 V := by rw [hV]; exact (Below.refl _ _).alloc (Nat.le_refl _) _
      have hsV : V.heap.size = wo.heap.size + 1 := by rw [hV]; simp; omega
      have v0 : V.cell? ⟨wo.heap.size, 0, none⟩ = some (.int .i64 ot) := by rw [hV, ← hs1]; exact box_at _ _ _ _ _ rfl
      have v1 : V.cell? ⟨wo.heap.size, 1, none⟩ = some (.int .i64 u) := by rw [hV, ← hs1]; exact box_at _ _ _ _ _ rfl
      have hbR : Below V.heap.size V wR := ⟨hgR.os, hgR.tape, hgR.output, hgR.size, fun k hk => hgR.block k hk (by simp)⟩
      have hr1w : r1 ≤ w1.heap.size := by omega
      have hb1V : Below r1 wP V := hb1o.trans (hbV.mono hr1w)
      have hrgV := ranges_blk hrg1 (hbV.block m1 (by omega)) (hbV.block r1 (by omega))
      rw [hsV] at hrgR hbR
      have HRGV := Lib.hid hrgV
      have HV0 := Lib.hid (And.intro v0 v1)
      have HIN := Lib.hid (And.intro hi hcu)
      have HMI := Lib.hid (And.intro hmi (And.intro hbi1 hbi2))
      have HB1V := Lib.hid hb1V
      have HSV := Lib.hid hsV
      have HLT1 := Lib.hid hlt1
      have HWF := Lib.hid (And.intro hwt hwu)
      have HST2 : Hid (∃ left2 cnt2, Below (wo.heap.size + 1) V wR ∧ wR.ranges Try.prog 73 (plainElem (H := Unit) Try.prog 3) m1 (wo.heap.size + 1) N1 D1 left2 cnt2 ∧ (∀ kl, left2 kl = true → Maps.has D1 kl = true) ∧ KDone a left2 (fun k p => confB ⟨ot, ok, oi⟩ p = true → tstI a b i k = false)) := by
        refine ⟨_, _, hbR, hrgR, fun _ h => h, HKV1.out.start HXA.out HNA.out fun k p hk hf => ?_⟩
        have := (List.getElem?_eq_some_iff.1 hk).1
        simp [plF, this] at hf
      have HOUT : Hid (∀ wi : World, Below (wo.heap.size + 1) V wi → (∀ k p, a[k]? = some p → confB ⟨ot, ok, oi⟩ p = true → tstI a b i k = false) →
          (∃ left cnt, Below r1 wP wi ∧ wi.ranges Try.prog 73 (plainElem (H := Unit) Try.prog 3) m1 r1 N1 D1 left cnt ∧ (∀ kl, left kl = true → Maps.has D1 kl = true) ∧ KDone a left (fun i o => ∀ k p, a[k]? = some p → confB o p = true → tstI a b i k = false)) ∧ wi.rangeLeft m1 r1 < wo.rangeLeft m1 r1) := by
        intro wi hbi hall
        have hrg9 := ranges_blk hrgV (hbi.block m1 (by omega)) (hbi.block r1 (by omega))
        have e1 := hrg9.left_eq
        have e2 := HRG.out.left_eq
        have h1 : Below r1 wP wi := hb1V.trans (hbi.mono (by omega))
        have h2 : ∀ kl, (fun z => left z && !z.sameKey (pllit ot u)) kl = true → Maps.has D1 kl = true := fun kl hk => HLH.out kl (by simp only [Bool.and_eq_true] at hk; exact hk.1)
        have h3 := HDN.out.step HXA.out HNA.out HIN.out.1 HIN.out.2 hall
        refine ⟨⟨_, cnt1, h1, hrg9, h2, h3⟩, ?_⟩
        rw [e1, e2]
        exact hlt1
      try go_frame
      rw [← hV, hsV]
      clear hV hrgR hgR hsR hbR hrgV v0 v1 hi hcu hmi hbi1 hbi2 hb1V hlt1 hwt hwu hlx hat hrg1 hg1 hen1 hfi hb1o hbV hr1w hsV hs1 hwi
      go_loopw [10] (fun _ wr => ∃ left2 cnt2, Below (wo.heap.size + 1) V wr ∧ wr.ranges Try.prog 73 (plainElem (H := Unit) Try.prog 3) m1 (wo.heap.size + 1) N1 D1 left2 cnt2 ∧ (∀ kl, left2 kl = true → Maps.has D1 kl = true) ∧ KDone a left2 (fun k p => confB ⟨ot, ok, oi⟩ p = true → tstI a b i k = false)) (fun _ wr => wr.rangeLeft m1 (wo.heap.size + 1))
      case atStart => exact HST2.out
      case round =>
        clear HST2
        obtain ⟨wi, rfl⟩ : ∃ wi : World, wi = wr := ⟨_, rfl⟩
        obtain ⟨left2, cnt2, hbi, hrg2, hlh2, hdone2⟩ := hrel
        have HRG2 := Lib.hid hrg2
        have HLH2 := Lib.hid hlh2
        have HDN2 := Lib.hid hdone2
        have hri := hrg2.lt
        have HBI := Lib.hid hbi
        clear hrg2 hlh2 hdone2
        go_wp2_with (at_next; refine plint_next rfl _ rfl _ _ _ D1 left2 cnt2 rfl HRG2.out (fun hc0 hl0 => ?_) (fun t' u' k0 w2 cnt2' hwt hwu hwi hlx hat hrg1 hlt1 hg1 hs1 hen1 => ?_))
        · exact HOUT.out wi hbi (fun k p hk hcf => HDN2.out k p hk (hl0 _) hcf)
        · obtain ⟨k, p, hk, hpt, hcu2, hfk⟩ := HKV1.out.key hwt hwu (HLH2.out _ hlx) hat
          obtain rfl : k0 = (k : Int) := by
            unfold plF at hfk
            split at hfk
            · injection hfk with hfk; exact hfk.symm
            · cases hfk
          obtain ⟨pt, pk, pi⟩ := p
          simp only at hpt
          subst hpt
          have hkn : k < n := by have := (List.getElem?_eq_some_iff.1 hk).1; omega
          obtain ⟨mk, hmk⟩ : ∃ mk, mirN a b k = mk := ⟨_, rfl⟩
          obtain ⟨hbk1, hbk2⟩ := mirN_spec HS.out hk
          rw [hmk] at hbk1 hbk2
          simp only at hbk2
          have hmkl : mk < b.length := (List.getElem?_eq_some_iff.1 hbk1).1
          obtain ⟨V2, hV2⟩ : ∃ V2, V2 = w2.alloc (.cells #[.int .i64 pt, .int .i64 u'] 73) := ⟨_, rfl⟩
          have hbw2 : Below (wo.heap.size + 1) V w2 := hbi.grown hg1 (by omega) (fun k e => by cases e; exact Nat.le_refl _)
          have hbV2 : Below w2.heap.size w2 V2 := by rw [hV2]; exact (Below.refl _ _).alloc (Nat.le_refl _) _
          have hbVV : Below (wo.heap.size + 1) V V2 := hbw2.trans (hbV2.mono (by omega))
          have hbw : Below w.heap.size w V2 := HBP.out.trans ((HB1V.out.mono hwP).trans (hbVV.mono (by omega)))
          have q0 : V2.cell? ⟨wi.heap.size, 0, none⟩ = some (.int .i64 pt) := by rw [hV2, ← hs1]; exact box_at _ _ _ _ _ rfl
          have q1 : V2.cell? ⟨wi.heap.size, 1, none⟩ = some (.int .i64 u') := by rw [hV2, ← hs1]; exact box_at _ _ _ _ _ rfl
          have p0 : V2.cell? ⟨wo.heap.size, 0, none⟩ = some (.int .i64 ot) := (hbVV.cell (p := ⟨wo.heap.size, 0, none⟩) (by simp)).trans HV0.out.1
          have p1 : V2.cell? ⟨wo.heap.size, 1, none⟩ = some (.int .i64 u) := (hbVV.cell (p := ⟨wo.heap.size, 1, none⟩) (by simp)).trans HV0.out.2
          have hrx := HX.out.below hbw (Nat.le_refl _)
          obtain ⟨bA, offA, o', hA, hbl, ho', c0, c1, c2⟩ := hrx.at_ hin
          rw [HIN.out.1] at ho'
          injection ho' with ho'
          subst ho'
          obtain ⟨bA2, offA2, p', hA2, hbl2, hp', d0, d1, d2⟩ := hrx.at_ hkn
          rw [hk] at hp'
          injection hp' with hp'
          subst hp'
          rw [hA] at hA2
          injection hA2 with hA2; injection hA2 with z1 z2 _; subst z1; subst z2
          subst hA
          simp only at c0 c1 c2 d0 d1 d2
          have hown2 := ownsMap_blk (ownsMap_blk HO2.out (HB1V.out.block m2 (by omega))) (hbVV.block m2 (by omega))
          have hl1 := lookup_at hown2 HKV2.out HXB.out HNB.out HMI.out.2.1 (u := u) (v := (mi : Int)) (by rw [HMI.out.2.2]; exact HIN.out.2) (by simp [plF, hmil])
          have hl2 := lookup_at hown2 HKV2.out HXB.out HNB.out hbk1 (u := u') (v := (mk : Int)) (by rw [hbk2]; exact hcu2) (by simp [plF, hmkl])
          simp only at hl1 hl2
          have hrgN := ranges_blk hrg1 (hbV2.block m1 (by omega)) (hbV2.block (wo.heap.size + 1) (by omega))
          obtain ⟨cb, hcb⟩ : ∃ cb, confB ⟨ot, ok, oi⟩ ⟨pt, pk, pi⟩ = cb := ⟨_, rfl⟩
          have hcf : ∀ z : Later V2, Calls Try.prog 88 #[.agg #[.int .i64 ot, .int .i64 ok, .int .i64 oi], .agg #[.int .i64 pt, .int .i64 pk, .int .i64 pi]] z.1 fun e w' => e = .returned (.bool cb) ∧ Below z.1.heap.size z.1 w' := fun z => by
            have := conflicts_any ⟨ot, ok, oi⟩ ⟨pt, pk, pi⟩ z.1; rw [hcb] at this; exact this
          obtain ⟨x, hx⟩ : ∃ x, decide ((i : Int) < (k : Int)) = x := ⟨_, rfl⟩
          obtain ⟨y, hy⟩ : ∃ y, decide ((mi : Int) < (mk : Int)) = y := ⟨_, rfl⟩
          have htst : tstI a b i k = (x != y) := by
            unfold tstI
            rw [HMI.out.1, hmk, ← hx, ← hy]
            congr 1 <;> exact decide_eq_decide.2 (by omega)
          have hxn : decide (i < k) = x := by rw [← hx]; exact decide_eq_decide.2 (by omega)
          have hyn : decide (mi < mk) = y := by rw [← hy]; exact decide_eq_decide.2 (by omega)
          have HF : Hid (cb = true → (x != y) = true → sameB a b = false) := fun h1 h2 => same_failT HIN.out.1 hk (hcb.trans h1) (htst.trans h2)
          have HN : Hid ((cb = true → (x != y) = false) → ∀ z : Later V2, (∃ left2 cnt2, Below (wo.heap.size + 1) V z.1 ∧ z.1.ranges Try.prog 73 (plainElem (H := Unit) Try.prog 3) m1 (wo.heap.size + 1) N1 D1 left2 cnt2 ∧ (∀ kl, left2 kl = true → Maps.has D1 kl = true) ∧ KDone a left2 (fun k p => confB ⟨ot, ok, oi⟩ p = true → tstI a b i k = false)) ∧ z.1.rangeLeft m1 (wo.heap.size + 1) < wi.rangeLeft m1 (wo.heap.size + 1)) := by
            intro h z
            have hs2 := hbV2.size
            have hzz := z.2.size
            have hrz := ranges_blk hrgN (z.2.block m1 (by omega)) (z.2.block (wo.heap.size + 1) (by omega))
            have e1 := hrz.left_eq
            have e2 := HRG2.out.left_eq
            have g1 : Below (wo.heap.size + 1) V z.1 := hbVV.trans (z.2.mono (by omega))
            have g2 : ∀ kl, (fun z => left2 z && !z.sameKey (pllit pt u')) kl = true → Maps.has D1 kl = true := fun kl hk => HLH2.out kl (by simp only [Bool.and_eq_true] at hk; exact hk.1)
            have g4 : confB ⟨ot, ok, oi⟩ ⟨pt, pk, pi⟩ = true → tstI a b i k = false := fun hc => htst.trans (h (hcb.symm.trans hc))
            have g3 := HDN2.out.step HXA.out HNA.out hk hcu2 g4
            refine ⟨⟨_, cnt2', g1, hrz, g2, g3⟩, ?_⟩
            rw [e1, e2]
            exact hlt1
          have L0 := Later.cell c0
          have L1 := Later.cell c1
          have L2 := Later.cell c2
          have M0 := Later.cell d0
          have M1 := Later.cell d1
          have M2 := Later.cell d2
          have P0 := Later.cell p0
          have P1 := Later.cell p1
          have Q0 := Later.cell q0
          have Q1 := Later.cell q1
          have hii : (i : Int) < (n : Int) := by omega
          have hi0 : (0 : Int) ≤ (i : Int) := by omega
          have hki : (k : Int) < (n : Int) := by omega
          have hk0 : (0 : Int) ≤ (k : Int) := by omega
          have HBW := Lib.hid hbw
          have HCF := Lib.hid hcf
          have HV2 := Lib.hid hV2
          clear hV2 hbw2 hbV2 hbVV hbw q0 q1 p0 p1 hrx hbl hbl2 hown2 hrgN hcb hcf htst hbk1 hbk2 hmk hk hcu2 hfk hwt hwu hwi hlx hat hrg1 hlt1 hg1 hs1 hen1 c0 c1 c2 d0 d1 d2 hmkl
          rw [← HV2.out]
          cases cb
          · have HNZ := Lib.hid (HN.out (fun h => by cases h))
            clear HN HF hl1 hl2 hx hy hxn hyn
            go_wp2_with fail
            refine region_later (by kernel_rfl) (by kernel_rfl) ?_
            repeat (go_big_quiet_step ((go_at_call 88; exact later_call _ (HCF.out _))))
            refine wpQuiet_nil ?_
            rintro _ ⟨z, rfl⟩
            go_wp2_with fail
            exact HNZ.out z
          · cases x <;> cases y
            all_goals
              go_wp2_with fail
              refine region_later (by kernel_rfl) (by kernel_rfl) ?_
              repeat (go_big_quiet_step ((go_at_call 88; exact later_call _ (HCF.out _))))
              refine wpQuiet_nil ?_
              rintro _ ⟨z, rfl⟩
              first
                | (have HNZ := Lib.hid (HN.out (fun _ => rfl))
                   go_wp2_with fail
                   exact HNZ.out z)
                | (have HFF := Lib.hid (HF.out (by trivial) rfl)
                   go_wp2_with fail
                   go_ret
                   exact ⟨ret_bool (by rw [HVA.out, HVB.out, HFF.out]; rfl), HBW.out.trans (z.2.mono HBW.out.size)⟩)
end Go.Proofs.Ytkbclcgdkbhgdaa
