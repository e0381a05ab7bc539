/-
  Texts that the proof rests on, joined: part 21.
-/
import Derived.Carry
import Derived.IntWalk
import Derived.StillTailTactics
import Derived.Test.YtncebpmckbcabaaSSt4
import Derived.Test.YtncebpmckbcabaaSSt7
import Derived.Test.YtncebpmckbcabaaSSt13
namespace Go.Proofs.Ytncebpmckbcabaa
open Go.RowKit Go.BigFrame
set_option linter.unusedVariables false

/-- What lies while the pairs are found. -/
structure GrInv (w : World) (bm : Nat) (C : Option Addr) (m : Nat) (L : List OpV) (R : List Nat) (N : Nat) (wr : World) : Prop where
  below : Below w.heap.size w wr
  map : ∃ D, wr.ownsMap Try.prog 167 (plainElem (H := Unit) Try.prog 4) bm N D ∧ MapIs D R
  list : ROps wr C m L
theorem ownsMap_block {w w' : World} {b n : Nat} {D : DataW Unit} (h : w.ownsMap Try.prog 167 (plainElem (H := Unit) Try.prog 4) b n D) (hk : w'.heap[b]? = w.heap[b]?) : w'.ownsMap Try.prog 167 (plainElem (H := Unit) Try.prog 4) b n D := by
  obtain ⟨es, clock, hb, F, hs, hD⟩ := h
  exact ⟨es, clock, hk.trans hb, F, hs, hD⟩
theorem GrInv.lt {w : World} {bm : Nat} {C : Option Addr} {m : Nat} {L : List OpV} {R : List Nat} {N : Nat} {wr : World} (h : GrInv w bm C m L R N wr) : bm < wr.heap.size := by
  obtain ⟨D, h1, _⟩ := h.map
  exact h1.lt
theorem GrInv.later {w : World} {bm : Nat} {C : Option Addr} {m : Nat} {L : List OpV} {R : List Nat} {N : Nat} {wr W : World} (h : GrInv w bm C m L R N wr) (hb : Below wr.heap.size wr W) : GrInv w bm C m L R N W := by
  obtain ⟨D, h1, h2⟩ := h.map
  exact ⟨h.below.trans (hb.mono h.below.size), ⟨D, ownsMap_block h1 (hb.block bm h1.lt), h2⟩, h.list.below hb (Nat.le_refl _)⟩
theorem GrInv.more {w : World} {bm : Nat} {C : Option Addr} {m : Nat} {L : List OpV} {R : List Nat} {N N' : Nat} {wr : World} (h : GrInv w bm C m L R N wr) (hn : N ≤ N') : GrInv w bm C m L R N' wr := by
  obtain ⟨D, h1, h2⟩ := h.map
  exact ⟨h.below, ⟨D, h1.mono hn, h2⟩, h.list⟩
theorem ROps.grown_ {w w' : World} {A : Option Addr} {n b : Nat} {xs : List OpV} (h : ROps w A n xs) (hg : w.grownBy w' (some b)) (hne : ∀ ad, A = some ad → ad.block ≠ b) : ROps w' A n xs := by
  obtain ⟨h1, h2, h3⟩ := h
  refine ⟨h1, h2, fun hn => ?_⟩
  obtain ⟨c, off, hA, hlt, hc⟩ := h3 hn
  have hk : w'.heap[c]? = w.heap[c]? := hg.block c hlt (fun e => hne _ hA (by injection e))
  have hs := World.grownBy.size hg
  have ce : ∀ o : Nat, w'.cell? ⟨c, o, none⟩ = w.cell? ⟨c, o, none⟩ := fun o => World.cell?_of_block (w := w) (a := ⟨c, o, none⟩) hk
  refine ⟨c, off, hA, by omega, fun i o ho => ?_⟩
  obtain ⟨c0, c1, c2⟩ := hc i o ho
  exact ⟨(ce _).trans c0, (ce _).trans c1, (ce _).trans c2⟩

/-- While the rows are filled: those pairs that have come stand in the rows. -/
structure GrFill (w : World) (bm r g N : Nat) (R : List Nat) (left : Lit → Bool) (cnt : Nat) (wr : World) : Prop where
  below : Below w.heap.size w wr
  rng : ∃ D, wr.ranges Try.prog 167 (plainElem (H := Unit) Try.prog 4) bm r N D left cnt ∧ MapIs D R ∧ ∀ kl, left kl = true → Maps.has D kl = true
  row : ∃ O, Rows4 O ∧ RowIs wr g 3 (intCells (rowsI O) ++ []) ∧ ∀ t u : Nat, t < 4 → u < 4 → (O.getD t 0).testBit u = ((R.getD t 0).testBit u && !left (gplit t u))
  ne : r ≠ g ∧ bm ≠ g ∧ w.heap.size ≤ g ∧ w.heap.size ≤ r
theorem GrFill.later {w : World} {bm r g N : Nat} {R : List Nat} {left : Lit → Bool} {cnt : Nat} {wr W : World} (h : GrFill w bm r g N R left cnt wr) (hb : Below wr.heap.size wr W) : GrFill w bm r g N R left cnt W := by
  obtain ⟨h1, ⟨D, h2, h3⟩, ⟨O, h5, h6, h7⟩, h8⟩ := h
  exact ⟨h1.trans (hb.mono h1.size), ⟨D, h2.kept (grown_below hb (row := none)) (by simp) (by simp), h3⟩, ⟨O, h5, h6.below hb (Nat.le_refl _), h7⟩, h8⟩
theorem sameKey_gp {t u t' u' : Nat} (ht : t < 4) (hu : u < 4) (ht' : t' < 4) (hu' : u' < 4) : (gplit t' u').sameKey (gplit t u) = (decide (t' = t) && decide (u' = u)) := by
  by_cases h : t' = t ∧ u' = u
  · obtain ⟨rfl, rfl⟩ := h
    rw [WideAt.sameKey_self (gplit_key _ _)]; simp
  · rw [Maps.sameKey_ne (fun e => h ?_)]
    · have : (decide (t' = t) && decide (u' = u)) = false := by simpa using h
      exact this.symm
    · obtain ⟨h1, h2⟩ := gplit_inj (wf_small (by omega)) (wf_small (by omega)) (wf_small (by omega)) (wf_small (by omega)) e
      exact ⟨by omega, by omega⟩

theorem GrFill.step {w wi w1 V : World} {bm r g N : Nat} {R O : List Nat} {left : Lit → Bool} {cnt1 : Nat} {D : DataW Unit} {T U : Nat} (hb : Below w.heap.size w wi) (hmi : MapIs D R) (hlh : ∀ kl, left kl = true → Maps.has D kl = true)
    (h4 : Rows4 O) (hrow : RowIs wi g 3 (intCells (rowsI O) ++ [])) (hbit : ∀ t u : Nat, t < 4 → u < 4 → (O.getD t 0).testBit u = ((R.getD t 0).testBit u && !left (gplit t u)))
    (hne : r ≠ g ∧ bm ≠ g ∧ w.heap.size ≤ g ∧ w.heap.size ≤ r) (hT : T < 4) (hU : U < 4) (hR : (R.getD T 0).testBit U = true)
    (hrg1 : w1.ranges Try.prog 167 (plainElem (H := Unit) Try.prog 4) bm r N D (fun z => left z && !z.sameKey (gplit T U)) cnt1) (hg1 : wi.grownBy w1 (some r)) (hV : Below w1.heap.size w1 V) (v : Int) (hv : v = ((O.getD T 0 ||| 1 <<< U : Nat) : Int)) :
    GrFill w bm r g N R (fun z => left z && !z.sameKey (gplit T U)) cnt1 (V.setCell ⟨g, T, none⟩ (.int .i64 v)) := by
  have hlt := hrow.lt
  have hz1 := World.grownBy.size hg1
  have hz2 := hV.size
  have hrow1 : RowIs w1 g 3 (intCells (rowsI O) ++ []) := (hg1.block g hlt (by intro e; injection e with e; exact hne.1 e.symm)).trans hrow
  have hrowV := hrow1.below hV (Nat.le_refl _)
  have hs := row_setInt (v := v) (k := T) hrowV (by simp [rowsI, h4.1]; omega)
  rw [hv, ← Int.toNat_natCast U, ← rowsI_set] at hs
  have hgs : V.grownBy (V.setCell ⟨g, T, none⟩ (.int .i64 v)) (some g) := grown_set
  refine ⟨?_, ⟨D, (hrg1.kept (grown_below hV (row := none)) (by simp) (by simp)).kept hgs (by intro e; injection e with e; exact hne.2.1 e) (by intro e; injection e with e; exact hne.1 e), hmi, fun kl hk => hlh kl (by simp only [Bool.and_eq_true] at hk; exact hk.1)⟩, ⟨rowSet O T U, rowSet_ok h4 (by omega), by rw [hv]; exact hs, fun t u ht hu => ?_⟩, hne⟩
  · have h1 : Below w.heap.size w w1 := hb.grown hg1 hb.size (fun k e => by cases e; exact hne.2.2.2)
    exact (h1.trans (hV.mono h1.size)).setCell (by simpa using hne.2.2.1) _
  · rw [rowSet_bit h4 (by omega), hbit t u ht hu, sameKey_gp hT hU ht hu]
    by_cases e : t = T ∧ u = U
    · obtain ⟨rfl, rfl⟩ := e
      rw [hR]; simp
    · have : (decide (t = T) && decide (u = U)) = false := by simpa using e
      rw [this]; simp

set_option maxRecDepth 100000 in
set_option maxHeartbeats 4000000 in
theorem graphOf_any (A : Option Addr) (n c : Nat) (s : List OpV) (w : World) (hx : ROps w A n s) (hv : validS s = true) :
    Calls Try.prog 121 #[.slice A n c] w (RetInts w (rowsI (grI (committed s)))) := by
  have hn := hx.2.1
  have hl := hx.1
  have hmm := @run_makeMap Try.prog
  obtain ⟨i0, hi, hz0, hz1, hz2⟩ := info_parts intInfo
  have HX := Lib.hid hx
  have HV := Lib.hid hv
  have hb0 : Below w.heap.size w (w.alloc (.map #[] 0)) := (Below.refl _ w).alloc (Nat.le_refl _) _
  have HM0 : Hid ((w.alloc (.map #[] 0)).ownsMap Try.prog 167 (plainElem (H := Unit) Try.prog 4) w.heap.size 0 (.map [])) := World.ownsMap_made w _ _ _
  have HC := Lib.hid (committedOf_any A n c s (w.alloc (.map #[] 0)) (hx.below hb0 (Nat.le_refl _)))
  have HB0 := Lib.hid hb0
  clear hx hv hb0
  go_enter Try.func121, Try.ntmps121
  go_wp2_with fail
  refine HC.out.mono ?_
  rintro e w1 ⟨C, cc, rfl, hcc, hfr, hb1⟩
  clear hmm
  obtain ⟨L, hL⟩ : ∃ L, committed s = L := ⟨_, rfl⟩
  have hCb : ∀ ad, C = some ad → ad.block ≠ w.heap.size := fun ad had => by
    obtain ⟨b, cur, e, h1, _, _⟩ := hfr.2 ad had
    simp at h1
    rw [e]; simp only; omega
  have hR3 : ∀ o ∈ L, 0 ≤ o.tx ∧ o.tx ≤ 3 := fun o ho => by
    rw [← hL] at ho
    exact validS_tx3 HV.out (List.mem_filter.1 ho).1
  have h16 : L.length ≤ 16 := by
    rw [← hL]
    refine Nat.le_trans (List.length_filter_le _ _) ?_
    have := HV.out
    unfold validS at this
    simp only [Bool.and_eq_true, decide_eq_true_eq] at this
    exact this.1
  have HST : Hid (GrInv w w.heap.size C L.length L (grTo L 0) 0 w1) := by
    refine ⟨HB0.out.trans (hb1.mono HB0.out.size), ⟨_, ownsMap_block HM0.out (hb1.block w.heap.size (by simp)), MapIs.empty⟩, ?_⟩
    rw [← hL]; exact hfr.1
  have HCB := Lib.hid hCb
  have HR3 := Lib.hid hR3
  have HGI : Hid (grI (committed s) = grTo L L.length) := by show _ = _; rw [hL]; rfl
  rw [hL] at hcc ⊢
  obtain ⟨m, hm⟩ : ∃ m, L.length = m := ⟨_, rfl⟩
  rw [hm] at HST HGI hcc h16 ⊢
  have HLEN := Lib.hid hm
  clear hfr hb1 hCb hR3 hL HC HM0 hm
  go_wp2_with fail
  go_loopw [16] (fun i wr => ∃ k : Nat, k ≤ m ∧ i = .int .i64 k ∧ GrInv w w.heap.size C m L (grTo L k) (16 * k) wr) (fun i _ => m - (intOf i).toNat)
  case atStart => exact ⟨0, Nat.zero_le _, rfl, HST.out⟩
  case round =>
    clear HST
    obtain ⟨wo, rfl⟩ : ∃ wo : World, wo = wr := ⟨_, rfl⟩
    obtain ⟨k, hk, rfl, hinv⟩ := hrel
    have HINV := Lib.hid hinv
    by_cases hlt : k < m
    · obtain ⟨b, off, a, hCe, hbl, ho, c0, c1, c2⟩ := HINV.out.list.at_ hlt
      subst hCe
      have har := HR3.out a (List.mem_of_getElem? ho)
      have HGS := Lib.hid (grTo_succ ho)
      obtain ⟨at_, ak, ai⟩ := a
      simp only at c0 c1 c2 har
      obtain ⟨M, hM⟩ : ∃ M : Nat, M = m - (k + 1) := ⟨_, rfl⟩
      have hMi : (m : Int) - ((k : Int) + 1) = (M : Int) := by omega
      have hjw : IntKind.i64.wrap ((k : Int) + 1) = (k : Int) + 1 := IntWalk.i64_in _ (by omega)
      have hjt : ((k : Int) + 1).toNat = k + 1 := by omega
      have HHO := Lib.hid ho
      have HHM := Lib.hid hM
      clear hinv ho hM
      by_cases hkc : k + 1 = cc
      · obtain rfl : m = k + 1 := by omega
        subst hkc
        have hfin : ∀ W, Below wo.heap.size wo W → GrInv w w.heap.size (some ⟨b, off, none⟩) (k + 1) L (grTo L (k + 1)) (16 * (k + 1)) W := fun W hW => by
          rw [HGS.out, HLEN.out, Nat.sub_self, grRow_zero]
          exact (HINV.out.later hW).more (by omega)
        have HN := Lib.hid hfin
        clear hfin
        go_wp2_with fail
        have hba : Below wo.heap.size wo (wo.alloc (.cells #[.int .i64 at_, .int .i64 ak, .int .i64 ai] 62)) := (Below.refl _ _).alloc (Nat.le_refl _) _
        go_loopw [26] (fun i wr2 => i = .int .i64 0 ∧ Below wo.heap.size wo wr2) (fun _ _ => 0)
        case atStart => exact ⟨rfl, hba⟩
        case round =>
          obtain ⟨rfl, hb2⟩ := hrel
          go_wp2_with fail
          go_roundw
          case rel => exact ⟨k + 1, by omega, by go_num, HN.out _ hb2⟩
          case measure => simp [intOf] <;> omega
      · have hjc2 : ¬ ((k : Int) + 1 = (cc : Int)) := by omega
        have hjc3 : ¬ (cc ≤ k + 1) := by omega
        have hjm : k + 1 ≤ m := by omega
        go_wp2_with fail
        have hwas : (wo.alloc (.cells #[.int .i64 at_, .int .i64 ak, .int .i64 ai] 62)).heap.size = wo.heap.size + 1 := by simp
        have hbox : ∀ i v, (#[Value.int .i64 at_, .int .i64 ak, .int .i64 ai] : Array Value)[i]? = some v → (wo.alloc (.cells #[.int .i64 at_, .int .i64 ak, .int .i64 ai] 62)).cell? ⟨wo.heap.size, i, none⟩ = some v := fun i v h => box_at _ _ _ _ _ h
        have hlt0 := HINV.out.lt
        have HW1 : Hid (GrInv w w.heap.size (some ⟨b, off, none⟩) m L (grTo L k) (16 * k) (wo.alloc (.cells #[.int .i64 at_, .int .i64 ak, .int .i64 ai] 62))) := HINV.out.later ((Below.refl _ _).alloc (Nat.le_refl _) _)
        obtain ⟨wa, hwa⟩ : ∃ wa, wo.alloc (.cells #[.int .i64 at_, .int .i64 ak, .int .i64 ai] 62) = wa := ⟨_, rfl⟩
        rw [hwa] at hwas hbox HW1 ⊢
        have a0 := hbox 0 _ rfl
        have a1 := hbox 1 _ rfl
        have a2 := hbox 2 _ rfl
        clear hbox hwa c0 c1 c2
        go_loopw [26] (fun i wr2 => ∃ q : Nat, q ≤ m - (k + 1) ∧ i = .int .i64 q ∧ wa.grownBy wr2 (some w.heap.size) ∧ GrInv w w.heap.size (some ⟨b, off, none⟩) m L (grRow L k ⟨at_, ak, ai⟩ (grTo L k) q) (16 * k + q) wr2) (fun i _ => m - (k + 1) - (intOf i).toNat)
        case atStart => exact ⟨0, Nat.zero_le _, rfl, World.grownBy.refl _ _, HW1.out⟩
        case round =>
          clear HW1
          obtain ⟨wi, rfl⟩ : ∃ wi : World, wi = wr := ⟨_, rfl⟩
          obtain ⟨q, hq, rfl, hgr, hinv2⟩ := hrel
          have HI2 := Lib.hid hinv2
          have HGR := Lib.hid hgr
          by_cases hlq : q < m - (k + 1)
          · obtain ⟨b', off', p, hCe, hbl2, hp, d0, d1, d2⟩ := hinv2.list.at_ (k := k + 1 + q) (by omega)
            injection hCe with hCe
            injection hCe with q1 q2 _
            subst q1; subst q2
            have hpr := HR3.out p (List.mem_of_getElem? hp)
            have HGR2 := Lib.hid (grRow_succ (a := ⟨at_, ak, ai⟩) (rows := grTo L k) hp)
            obtain ⟨pt, pk, pit⟩ := p
            simp only at d0 d1 d2 hpr
            have eo : off + (k + 1 + q) * 3 = off + (k + 1) * 3 + q * 3 := by omega
            rw [eo] at d0 d1 d2
            have e0 := (cell_grown hgr (p := ⟨wo.heap.size, 0, none⟩) (by simp; omega) (by simp; omega)).trans a0
            have e1 := (cell_grown hgr (p := ⟨wo.heap.size, 1, none⟩) (by simp; omega) (by simp; omega)).trans a1
            have e2 := (cell_grown hgr (p := ⟨wo.heap.size, 2, none⟩) (by simp; omega) (by simp; omega)).trans a2
            have hbI := hinv2.lt
            obtain ⟨wb, hwb⟩ : ∃ wb, wi.alloc (.cells #[.int .i64 pt, .int .i64 pk, .int .i64 pit] 62) = wb := ⟨_, rfl⟩
            have hbb : Below wi.heap.size wi wb := by rw [← hwb]; exact (Below.refl _ _).alloc (Nat.le_refl _) _
            have hb0x : ∀ i v, (#[Value.int .i64 pt, .int .i64 pk, .int .i64 pit] : Array Value)[i]? = some v → wb.cell? ⟨wi.heap.size, i, none⟩ = some v := fun i v h => by rw [← hwb]; exact box_at _ _ _ _ _ h
            have hwbs : wb.heap.size = wi.heap.size + 1 := by rw [← hwb]; simp
            have p0 := hb0x 0 _ rfl
            have p1 := hb0x 1 _ rfl
            have p2 := hb0x 2 _ rfl
            have hwoi : wo.heap.size < wi.heap.size := by have := World.grownBy.size hgr; omega
            have f0 := (hbb.cell (p := ⟨wo.heap.size, 0, none⟩) hwoi).trans e0
            have f1 := (hbb.cell (p := ⟨wo.heap.size, 1, none⟩) hwoi).trans e1
            have f2 := (hbb.cell (p := ⟨wo.heap.size, 2, none⟩) hwoi).trans e2
            obtain ⟨cb, hcb⟩ : ∃ cb, confB ⟨at_, ak, ai⟩ ⟨pt, pk, pit⟩ = cb := ⟨_, rfl⟩
            have hcf : Calls Try.prog 146 #[.agg #[.int .i64 at_, .int .i64 ak, .int .i64 ai], .agg #[.int .i64 pt, .int .i64 pk, .int .i64 pit]] wb fun e w' => e = .returned (.bool cb) ∧ Below wb.heap.size wb w' := by
              have := conflicts_any ⟨at_, ak, ai⟩ ⟨pt, pk, pit⟩ wb; rw [hcb] at this; exact this
            have HCF := Lib.hid hcf
            have hst : grRow L k ⟨at_, ak, ai⟩ (grTo L k) (q + 1) = if cb then rowSet (grRow L k ⟨at_, ak, ai⟩ (grTo L k) q) at_ pt else grRow L k ⟨at_, ak, ai⟩ (grTo L k) q := by
              rw [HGR2.out]; unfold grStep; rw [hcb]
            have HST := Lib.hid hst
            have HOK : Hid (Rows4 (grRow L k ⟨at_, ak, ai⟩ (grTo L k) q)) := grRow_ok HR3.out (grTo_ok HR3.out k) q
            have HWB := Lib.hid hwb
            have HBB := Lib.hid hbb
            clear hinv2 hgr hp hb0x hcb hcf hst HGR2 hwb eo
            have lq : (q : Int) < ((m - (k + 1) : Nat) : Int) := by omega
            go_wp2_with fail
            rw [HWB.out]
            clear d0 d1 d2 e0 e1 e2
            refine HCF.out.mono ?_
            rintro e w3 ⟨rfl, hb3⟩
            have hb03 : Below wi.heap.size wi w3 := HBB.out.trans (hb3.mono HBB.out.size)
            have HI3 := Lib.hid (HI2.out.later hb03)
            have HG3 : Hid (wa.grownBy w3 (some w.heap.size)) := HGR.out.trans (grown_below hb03)
            cases cb
            · clear f0 f1 f2 p0 p1 p2
              go_wp2_with fail
              go_roundw
              case rel => exact ⟨q + 1, by omega, by go_num, HG3.out, by rw [HST.out, if_neg (by simp)]; exact HI3.out.more (by omega)⟩
              case measure => simp [intOf]; omega
            · have g0 := (hb3.cell (p := ⟨wo.heap.size, 0, none⟩) (by simp; omega)).trans f0
              have g1 := (hb3.cell (p := ⟨wi.heap.size, 0, none⟩) (by simp; omega)).trans p0
              obtain ⟨D3, hown3, hmi3⟩ := HI3.out.map
              clear f0 f1 f2 p0 p1 p2
              go_wp2_with (at_mapUpdate; refine wpList_mapUpdate_own _ rfl _ _ _ 165 rfl 167 4 gpkeyed Try.underlying165 (plainElem (H := Unit) Try.prog 4) w.heap.size (16 * k + q) D3 rfl hown3 (by unfold maxLen; omega) _ _ (gplit at_ pt) rfl rfl (gpkey (wf_small har) (wf_small hpr)) (.lit (.bool true)) [] (plainElem_bool Try.underlying4 true) ?_; intro w4 hown4 hg4)
              have hn : GrInv w w.heap.size (some ⟨b, off, none⟩) m L (grRow L k ⟨at_, ak, ai⟩ (grTo L k) (q + 1)) (16 * k + (q + 1)) w4 := by
                refine ⟨HI3.out.below.grown hg4 HI3.out.below.size (fun k e => by cases e; exact Nat.le_refl _), ⟨_, hown4, ?_⟩, HI3.out.list.grown_ hg4 HCB.out⟩
                rw [HST.out, if_pos (by trivial)]
                exact hmi3.put HOK.out har hpr _
              have HN := Lib.hid hn
              have HG4 := Lib.hid (HG3.out.trans hg4)
              clear hn hown3 hmi3 hown4 hg4 g0 g1
              go_wp2_with fail
              go_roundw
              case rel => exact ⟨q + 1, by omega, by go_num, HG4.out, HN.out⟩
              case measure => simp [intOf]; omega
          · have hfin : GrInv w w.heap.size (some ⟨b, off, none⟩) m L (grTo L (k + 1)) (16 * (k + 1)) wi := by
              rw [HGS.out, HLEN.out]
              have : q = m - (k + 1) := by omega
              subst this
              exact HI2.out.more (by omega)
            have HN := Lib.hid hfin
            clear hfin hinv2 hgr
            go_wp2_with fail
            go_roundw
            case rel => exact ⟨k + 1, by omega, by go_num, HN.out⟩
            case measure => simp [intOf]; omega
    · obtain rfl : k = m := by omega
      obtain ⟨D, hown, hmi⟩ := HINV.out.map
      have HMI := Lib.hid hmi
      have hbs := HINV.out.below.size
      have hlt0 := HINV.out.lt
      go_wp2_with (first | (at_make; refine wpList_make_full _ rfl _ _ 26 rfl wo.heap.size 3 i0 _ 1 Try.underlying26 hi hz0 hz1 .i64 .i64 _ _ 4 rfl rfl rfl rfl (by rw [hz2]; omega) (by unfold maxLen; omega) (Nat.le_refl _) ?_; intro w2 hown2 hg2) | (at_range; refine wpList_range_own _ rfl _ 165 rfl 167 4 gpkeyed Try.underlying165 (plainElem (H := Unit) Try.prog 4) w.heap.size (16 * k) D rfl (ownsMap_block hown (hg2.block w.heap.size hlt0 (by simp))) ?_; intro w0 hrg0 hg0 hs0))
      have hbw2 : Below wo.heap.size wo w2 := ⟨hg2.os, hg2.tape, hg2.output, hg2.size, fun k hk => hg2.block k hk (by simp)⟩
      have hrow : RowIs w2 wo.heap.size 3 (intCells (rowsI [0, 0, 0, 0]) ++ []) := by
        rcases hown2.2 with ⟨h1, _⟩ | ⟨g, cap, cur, h1, h2, h3, h4, h5, h6, h7⟩
        · cases h1
        · injection h1 with ha hb hc
          injection ha with ha
          injection ha with ha
          subst ha; subst hc
          unfold RowIs
          rw [h3]
          congr 2
          apply Array.ext'
          rw [List.take_of_length_le (by simpa using Nat.le_of_eq h6)] at h7
          rw [h7, made_ints]
          rfl
      have hown2m := ownsMap_block hown (hbw2.block w.heap.size hlt0)
      have HROW := Lib.hid hrow
      have HB2 := Lib.hid (HINV.out.below.trans (hbw2.mono HINV.out.below.size))
      have hz2 := hbw2.size
      have hgl := hrow.lt
      clear hown2 hg2 hbw2 hrow hown HINV
      try go_frame
      have hb20 : Below w2.heap.size w2 w0 := ⟨hg0.os, hg0.tape, hg0.output, hg0.size, fun k hk => hg0.block k hk (by simp)⟩
      have HST : Hid (GrFill w w.heap.size w2.heap.size wo.heap.size (16 * k) (grTo L k) (Maps.has D) (Maps.size D) w0) := by
        refine ⟨HB2.out.trans (hb20.mono HB2.out.size), ⟨D, hrg0, HMI.out, fun _ h => h⟩, ⟨[0, 0, 0, 0], zero4, HROW.out.below hb20 (Nat.le_refl _), fun t u ht hu => ?_⟩, by omega, by omega, hbs, by omega⟩
        have h1 := HMI.out.has t u (wf_small (by omega)) (wf_small (by omega))
        rw [Int.toNat_natCast, Int.toNat_natCast] at h1
        have h0 : (([0, 0, 0, 0] : List Nat).getD t 0).testBit u = false := by
          rcases (by omega : t = 0 ∨ t = 1 ∨ t = 2 ∨ t = 3) with rfl | rfl | rfl | rfl <;> simp
        rw [h0]
        cases hbt : ((grTo L k).getD t 0).testBit u
        · rfl
        · rw [h1.2 ⟨by omega, by omega, by omega, by omega, hbt⟩]; rfl
      clear hrg0 hg0 hs0 hb20 HROW HB2 HMI
      go_loopw [10] (fun _ wr' => ∃ left cnt, GrFill w w.heap.size w2.heap.size wo.heap.size (16 * k) (grTo L k) left cnt wr') (fun _ wr' => wr'.rangeLeft w.heap.size w2.heap.size)
      case atStart => exact ⟨_, _, HST.out⟩
      case round =>
        obtain ⟨left, cnt, hF⟩ := hrel
        obtain ⟨wi, rfl⟩ : ∃ z : World, z = wr := ⟨_, rfl⟩
        have HF := Lib.hid hF
        obtain ⟨hbi, ⟨D', hrg, hmi, hlh⟩, ⟨O, h4O, hrow, hbit⟩, hne⟩ := hF
        have HRG := Lib.hid hrg
        have HMI := Lib.hid hmi
        have HLH := Lib.hid hlh
        have HROW := Lib.hid hrow
        have HBIT := Lib.hid hbit
        have H4O := Lib.hid h4O
        have hok := grTo_ok HR3.out k
        have HOK := Lib.hid hok
        clear hrg hmi hlh hrow hbit h4O hok HST
        go_wp2_with (at_next; refine gpbool_next rfl _ rfl _ _ _ D' left cnt rfl HRG.out (fun hc0 hl0 => ?_) (fun t u c w1 cnt1 hwt hwu hlx hat hrg1 hlt1 hg1 hs1 hen1 => ?_))
        · have hOR : O = grTo L k := rows_ext H4O.out HOK.out fun t u ht hu => by rw [HBIT.out t u ht hu, hl0]; simp
          have hrw := HROW.out
          rw [hOR] at hrw
          have hl4 : (rowsI (grTo L k)).length = 4 := by simp [rowsI, HOK.out.1]
          have HO : Hid (RetInts w (rowsI (grI (committed s))) (.returned (.slice (some ⟨wo.heap.size, 0, none⟩) 4 4)) wi) := by
            show RetInts _ _ _ _
            rw [HGI.out]
            refine RetInts.mk hl4 (Nat.le_refl _) ⟨hrw.ints hl4 (by omega), fun ad had => ?_⟩ hbi
            injection had with had
            subst had
            exact ⟨_, _, rfl, hne.2.2.1, hrw, by simp [intCells, hl4]⟩
          clear hOR hrw hl0 HF HRG
          go_ret
          exact HO.out
        · obtain ⟨ht0, ht3, hu0, hu3, hbt⟩ := (HMI.out.has t u hwt hwu).1 (HLH.out _ hlx)
          obtain ⟨T, rfl⟩ := Int.eq_ofNat_of_zero_le ht0
          obtain ⟨U, rfl⟩ := Int.eq_ofNat_of_zero_le hu0
          rw [Int.toNat_natCast, Int.toNat_natCast] at hbt
          have hT4 : T < 4 := by omega
          have hU4 : U < 4 := by omega
          obtain ⟨V, hV⟩ : ∃ V : World, V = w1.alloc (.cells #[.int .i64 (T : Int), .int .i64 (U : Int)] 167) := ⟨_, rfl⟩
          have hbV : Below w1.heap.size w1 V := by rw [hV]; exact (Below.refl _ _).alloc (Nat.le_refl _) _
          have HSET : Hid (∀ v : Int, v = ((O.getD T 0 ||| 1 <<< U : Nat) : Int) → GrFill w w.heap.size w2.heap.size wo.heap.size (16 * k) (grTo L k) (fun z => left z && !z.sameKey (gplit T U)) cnt1 (V.drew.setCell ⟨wo.heap.size, T, none⟩ (.int .i64 v))) := fun v hv =>
            GrFill.step hbi HMI.out HLH.out H4O.out HROW.out HBIT.out hne hT4 hU4 hbt hrg1 hg1 hbV.drew v hv
          have HMS : Hid (cnt1 < cnt ∧ wi.rangeLeft w.heap.size w2.heap.size = cnt) := ⟨hlt1, HRG.out.left_eq⟩
          have v0 : V.cell? ⟨w1.heap.size, 0, none⟩ = some (.int .i64 (T : Int)) := by rw [hV]; exact box_at _ _ _ _ _ rfl
          have v1 : V.cell? ⟨w1.heap.size, 1, none⟩ = some (.int .i64 (U : Int)) := by rw [hV]; exact box_at _ _ _ _ _ rfl
          have hrowV : RowIs V wo.heap.size 3 (intCells (rowsI O) ++ []) := RowIs.below ((hg1.block wo.heap.size HROW.out.lt (by intro e; injection e with e; exact hne.1 e.symm)).trans HROW.out) hbV (Nat.le_refl _)
          have hr16 := (rowsI_at H4O.out (T := T) (by omega)).2
          have hcr : V.cell? ⟨wo.heap.size, T, none⟩ = some (.int .i64 ((O.getD T 0 : Nat) : Int)) := by
            refine hrowV.cell ?_
            rw [List.append_nil]
            exact (rowsI_at H4O.out (T := T) (by omega)).1
          have hfz := hrowV.frozen T
          generalize O.getD T 0 = x at *
          have hVV := Lib.hid hV
          have e1 : bits .or .i64 (x : Int) 1 = ((x ||| 1 : Nat) : Int) := or_nat x 1 (by omega) (by omega)
          have e2 : bits .or .i64 (x : Int) 2 = ((x ||| 2 : Nat) : Int) := or_nat x 2 (by omega) (by omega)
          have e4 : bits .or .i64 (x : Int) 4 = ((x ||| 4 : Nat) : Int) := or_nat x 4 (by omega) (by omega)
          have e8 : bits .or .i64 (x : Int) 8 = ((x ||| 8 : Nat) : Int) := or_nat x 8 (by omega) (by omega)
          have l1 : (T : Int) < 4 := by omega
          have l2 : (0 : Int) ≤ (T : Int) := by omega
          rw [hs1] at v0 v1
          obtain ⟨wd, hwd⟩ : ∃ wd : World, wd = V.drew := ⟨_, rfl⟩
          rw [← hwd] at HSET
          have hcr2 : wd.cell? ⟨wo.heap.size, T, none⟩ = some (.int .i64 (x : Int)) := by rw [hwd]; exact hcr
          have hfz2 : wd.frozen? ⟨wo.heap.size, T, none⟩ = false := by rw [hwd]; exact hfz
          clear hrg1 hg1 hlx hat hV hbV hrowV hwt hwu hbt HF HRG
          rw [← hVV.out]
          rcases (by omega : U = 0 ∨ U = 1 ∨ U = 2 ∨ U = 3) with rfl | rfl | rfl | rfl
          all_goals
            refine wp_region_still_tail 10 (by kernel_rfl) (by kernel_rfl) ?_
            simp only [List.take_succ_cons, List.take_zero, List.drop_succ_cons, List.drop_zero]
            repeat (first | still_step | fail)
            refine wpStill_nil ?_
            change wpList _ _ _ _ _ V.drew
            rw [← hwd]
            go_wp2_with fail
            go_roundw
            case rel =>
              first | rw [e1] | rw [e2] | rw [e4] | rw [e8]
              have h := HSET.out _ rfl
              rw [hwd] at h
              exact ⟨_, _, h⟩
            case measure =>
              first | rw [e1] | rw [e2] | rw [e4] | rw [e8]
              have h := HSET.out _ rfl
              rw [hwd] at h
              obtain ⟨D9, hr9, _⟩ := h.rng
              have h1 := hr9.left_eq
              exact Nat.lt_of_lt_of_le (Nat.lt_of_le_of_lt (Nat.le_of_eq h1) HMS.out.1) (Nat.le_of_eq HMS.out.2.symm)
end Go.Proofs.Ytncebpmckbcabaa
