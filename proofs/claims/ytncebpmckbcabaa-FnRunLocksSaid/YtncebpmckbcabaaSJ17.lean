/-
  Texts that the proof rests on, joined: part 17.
-/
import Derived.IntWalk
import Derived.Test.YtncebpmckbcabaaSJ16
namespace Go.Proofs.Ytncebpmckbcabaa
open Go.RowKit Go.BigFrame
set_option linter.unusedVariables false

set_option maxRecDepth 100000 in
set_option maxHeartbeats 1000000 in
theorem circle11_any {H : Nat} {G : Option Addr} {gc : Nat} {R : List Nat} {path best : List Int} {t : Int} {W : World} (u : FrameMode) (h : CirAt H G gc R (path ++ [t]) best W) (hl : path.length ≤ 4) :
    CallsD Try.prog 179 #[.pointer (some ⟨H + 3, 0, none⟩)] u W fun e u' w' => u' = u ∧ (e = .returned (.tuple #[]) ∧ CirAt H G gc R path best w' ∧ Below H W w') := by
  obtain ⟨g, c, hc, hlc, hcm, hf, hC, hB⟩ := h.pop
  have HC := Lib.hid (And.intro hC hB)
  obtain ⟨n, hn⟩ : ∃ n, path.length = n := ⟨_, rfl⟩
  rw [hn] at hc hlc HC hl
  have hnc : (n : Int) ≤ (c : Int) := by omega
  clear h hC hB hn
  go_enter_d Try.func179, Try.ntmps179
  go_wp2_with fail
  go_end0
  exact ⟨rfl, HC.out⟩

/-- One more of those who may come next. -/
def cirTo (R : List Nat) (m : Nat) (p b : List Int) (t : Int) (k : Nat) : List Int :=
  ([0, 1, 2, 3].take k).foldl (fun b u => if edgeB R t u && decide (p.headD 0 < u) && !(p.any fun y => y == u) then cirF R m p b u else b) b
theorem cirTo_succ {R : List Nat} {m : Nat} {p b : List Int} {t : Int} {k : Nat} (h : k < 4) : cirTo R m p b t (k + 1) = if edgeB R t (k : Int) && decide (p.headD 0 < (k : Int)) && !(p.any fun y => y == (k : Int)) then cirF R m p (cirTo R m p b t k) (k : Int) else cirTo R m p b t k := by
  have e : [(0 : Int), 1, 2, 3][k]? = some (k : Int) := by
    rcases (by omega : k = 0 ∨ k = 1 ∨ k = 2 ∨ k = 3) with rfl | rfl | rfl | rfl <;> rfl
  unfold cirTo
  rw [take_snoc e, List.foldl_append]; rfl
def cirB (R : List Nat) (p best : List Int) (t : Int) : List Int := if edgeB R t (p.headD 0) && (best.isEmpty || decide (p.length < best.length)) then p else best
theorem cirF_succ (R : List Nat) (m : Nat) (path best : List Int) (t : Int) : cirF R (m + 1) path best t = cirTo R m (path ++ [t]) (cirB R (path ++ [t]) best t) t 4 := rfl

theorem getD_lt {R : List Nat} (h : Rows4 R) {t : Nat} : R.getD t 0 < 16 := by
  rw [List.getD_eq_getElem?_getD]
  cases e : R[t]? with
  | none => simp
  | some x => simpa using h.2 x (List.mem_of_getElem? e)
structure PathOk (p : List Int) : Prop where
  nodup : p.Nodup
  rng : ∀ x ∈ p, 0 ≤ x ∧ x ≤ 3
theorem PathOk.len {p : List Int} (h : PathOk p) : p.length ≤ 4 := by
  have := nodup_len (l1 := p) (l2 := [0, 1, 2, 3]) h.nodup (fun x hx => by
    have := h.rng x hx
    rcases (by omega : x = 0 ∨ x = 1 ∨ x = 2 ∨ x = 3) with rfl | rfl | rfl | rfl <;> simp)
  simpa using this
theorem PathOk.snoc {p : List Int} {t : Int} (h : PathOk p) (ht : t ∉ p) (hr : 0 ≤ t ∧ t ≤ 3) : PathOk (p ++ [t]) := by
  refine ⟨?_, fun x hx => ?_⟩
  · rw [List.nodup_append]
    refine ⟨h.nodup, by simp, ?_⟩
    intro a ha b hb
    rw [List.mem_singleton] at hb
    subst hb
    exact fun e => ht (e ▸ ha)
  · rcases List.mem_append.1 hx with hx | hx
    · exact h.rng x hx
    · rw [List.mem_singleton] at hx; subst hx; exact hr

set_option maxRecDepth 100000 in
set_option maxHeartbeats 4000000 in
theorem circle1_any (H : Nat) (G : Option Addr) (gc : Nat) (R : List Nat) (h4 : Rows4 R) (h4' : Rows4 R) (m : Nat) : ∀ (path best : List Int) (t : Int) (W : World), CirAt H G gc R path best W → PathOk path → t ∉ path → 0 ≤ t ∧ t ≤ 3 → path.length + m = 4 →
    Calls Try.prog 178 #[.int .i64 t, .pointer (some ⟨H + 3, 0, none⟩), .pointer (some ⟨H, 0, none⟩), .pointer (some ⟨H + 1, 0, none⟩), .pointer (some ⟨H + 4, 0, none⟩)] W fun e W' =>
      e = .returned (.tuple #[]) ∧ CirAt H G gc R path (cirF R m path best t) W' ∧ Below H W W' := by
  induction m with
  | zero =>
    intro path best t W hC hp ht hr hl
    exfalso
    have := (hp.snoc ht hr).len
    simp at this
    omega
  | succ m ih =>
    intro path best t W hC hp ht hr hl
    obtain ⟨pv, bv, e1, e2, e3, e4, e5⟩ := hC.box
    obtain ⟨Ap, cp, rfl, hcp⟩ := own_form2 e3
    have hsz := hC.sz
    obtain ⟨n, hn⟩ : ∃ n, path.length = n := ⟨_, rfl⟩
    rw [hn] at e1 e3 e4 hcp
    have hpush : ∀ v' w', w'.ownsRow H 3 1 v' (n + 1) (intCells (path ++ [t])) → (W.alloc (.cells #[.int .i64 t] 3)).grownBy w' (Value.slice Ap n cp).ownBlock → (v'.ownBlock = (Value.slice Ap n cp).ownBlock ∨ v'.ownBlock = some (W.alloc (.cells #[.int .i64 t] 3)).heap.size) →
        w'.cell? ⟨H + 3, 0, none⟩ = some (.slice Ap n cp) ∧ w'.frozen? ⟨H + 3, 0, none⟩ = false ∧ CirAt H G gc R (path ++ [t]) best (w'.setCell ⟨H + 3, 0, none⟩ v') ∧ Below H W (w'.setCell ⟨H + 3, 0, none⟩ v') := fun v' w' a b c =>
      hC.push e1 (by rw [hn]; exact a) (World.grownBy.trans (World.grownBy_alloc W _ _) b) (by simp) c
    have hpok := hp.snoc ht hr
    have HPUSH := Lib.hid hpush
    have HOWN := Lib.hid e3
    have HPOK := Lib.hid hpok
    have HIH := Lib.hid ih
    have H4 := Lib.hid h4
    have HF := Lib.hid (cirF_succ R m path best t)
    have HN := Lib.hid hn
    have hn3 : n + m + 1 = 4 := by omega
    have c0 := hC.gcell
    clear hpush e3 e4 e5 e2 hC hp hn ih h4 hpok ht hl
    go_enter_defers Try.func178, Try.ntmps178
    go_wp2_with (at_builtin; refine app_ints (.tmp 7) (.tmp 9) (HOWN.out.alloc _) (by simp; omega) (lit1 rfl t) (by omega) rfl rfl rfl rfl ?_; intro v1 w1 hown1 hg1 hat1; obtain ⟨A1, c1, rfl, hcc1⟩ := own_form2 hown1; obtain ⟨hc1, hf1, hC1, hB1⟩ := HPUSH.out _ w1 hown1 hg1 hat1)
    obtain ⟨W2, hW2⟩ : ∃ W2, w1.setCell ⟨H + 3, 0, none⟩ (.slice A1 (n + 1) c1) = W2 := ⟨_, rfl⟩
    rw [hW2] at hC1 hB1 ⊢
    clear hW2 hc1 hf1 hown1 hg1 hat1
    obtain ⟨P, hP⟩ : ∃ P, path ++ [t] = P := ⟨_, rfl⟩
    rw [hP] at hC1 HPOK HF
    have hPN : P.length = n + 1 := by rw [← hP]; simp [HN.out]
    obtain ⟨T, rfl⟩ := Int.eq_ofNat_of_zero_le hr.1
    obtain ⟨x0, rest, hPc⟩ : ∃ x0 rest, P = x0 :: rest := by
      cases P with
      | nil => simp at hPN
      | cons a b => exact ⟨a, b, rfl⟩
    have hx0 := HPOK.out.rng x0 (by rw [hPc]; simp)
    obtain ⟨K0, rfl⟩ := Int.eq_ofNat_of_zero_le hx0.1
    have hPH : P.headD 0 = (K0 : Int) := by rw [hPc]; rfl
    have hP0 : P[0]? = some (K0 : Int) := by rw [hPc]; rfl
    obtain ⟨r, hr0⟩ : ∃ r, R.getD T 0 = r := ⟨_, rfl⟩
    have hr16 := getD_lt h4' (t := T)
    rw [hr0] at hr16
    have HPN := Lib.hid hPN
    have HPH := Lib.hid hPH
    have HP0 := Lib.hid hP0
    have HPD := Lib.hid hP
    have HRT := Lib.hid hr0
    have hT4 : (T : Int) < 4 := by omega
    have hT0 : (0 : Int) ≤ (T : Int) := by omega
    obtain ⟨pv, bv2, e1', e2', e3', _, e5'⟩ := hC1.box
    rw [HPN.out] at e3'
    rcases e3'.2 with ⟨_, h0⟩ | ⟨g, cap, cur, rfl, _, _, hcap, hcm, _⟩
    · omega
    obtain ⟨b3, off3, x3, hA3, hb3, hx3, hxc3⟩ := (RInts.of_own e3' (by omega)).at_ (k := 0) (by omega)
    injection hA3 with hA3; injection hA3 with q1 q2 _; subst q1; subst q2
    rw [HP0.out] at hx3
    injection hx3 with hx3
    subst hx3
    simp only [Nat.add_zero] at hxc3
    obtain ⟨bG, offG, hGe, hbG, hgc3, _⟩ := rowsI_at3 H4.out hC1.rows (t := T) (by omega)
    rw [HRT.out] at hgc3
    have hg0 := hC1.gcell
    have hab := and_bit r K0 (by omega)
    have hmn : min K0 64 = K0 := by omega
    obtain ⟨b1, hb1⟩ : ∃ b, r.testBit K0 = b := ⟨_, rfl⟩
    rw [hb1] at hab
    have hedge : edgeB R (T : Int) (P.headD 0) = b1 := by rw [HPH.out]; unfold edgeB; rw [Int.toNat_natCast, Int.toNat_natCast, HRT.out, hb1]
    have HEDGE := Lib.hid hedge
    have HC1 := Lib.hid hC1
    have HRI := Lib.hid (RInts.of_own e3' (by omega))
    have G0 := Later.cell hg0
    have G1 := Later.cell e1'
    have G2 := Later.cell hxc3
    have G4 := Later.cell e2'
    have hBI := e5'
    have hK0 : (0 : Int) ≤ (K0 : Int) := by omega
    subst hGe
    have G3 := Later.cell hgc3
    have HB1 := Lib.hid hB1
    clear hPN hPH hP0 hP hr0 e1' e2' e3' e5' hb1 hedge hC1 hg0 hxc3 hgc3 hPc hx0 hB1 c0 e1
    have HFC : Hid (∀ B, cirB R P best (T : Int) = B → cirTo R m P B (T : Int) 4 = cirF R (m + 1) path best (T : Int)) := fun B hB => by rw [HF.out, hB]
    cases b1
    · have hBB : cirB R P best (T : Int) = best := by unfold cirB; rw [HEDGE.out]; simp
      obtain ⟨B1, hB1e⟩ : ∃ B1, best = B1 := ⟨_, rfl⟩
      have HFB := Lib.hid (HFC.out _ (hBB.trans hB1e))
      refine region_later (by kernel_rfl) (by kernel_rfl) ?_
      repeat (go_big_quiet_step (fail))
      refine wpQuiet_nil ?_
      rintro _ ⟨u, rfl⟩
      have hCu := HC1.out.below u.2
      have HC3 : Hid (CirAt H (some ⟨bG, offG, none⟩) gc R P B1 u.1 ∧ Below H W u.1) := ⟨hB1e ▸ hCu, HB1.out.trans (u.2.mono (by have := HC1.out.sz; omega))⟩
      have hgu := hCu.gcell
      clear hCu hBB hBI HC1 HB1 hB1e
      obtain ⟨w3, hw3⟩ : ∃ w3, u.1 = w3 := ⟨_, rfl⟩
      rw [hw3] at HC3 hgu ⊢
      clear hw3
      go_wp2_with fail
      go_loopw [37] (fun i wr => ∃ k : Nat, k ≤ 4 ∧ i = .int .i64 k ∧ CirAt H (some ⟨bG, offG, none⟩) gc R P (cirTo R m P B1 (T : Int) k) wr ∧ Below H W wr) (fun i _ => 4 - (intOf i).toNat)
      case atStart => exact ⟨0, by omega, rfl, HC3.out.1, HC3.out.2⟩
      case round =>
        clear HC3
        obtain ⟨k, hk, rfl, hC, hB⟩ := hrel
        have HC := Lib.hid hC
        have HB := Lib.hid hB
        by_cases hlt : k < 4
        · obtain ⟨pv, bv3, e1, _, e3, _, _⟩ := hC.box
          have hri := e3
          rw [HPN.out] at hri e3
          rcases hri.2 with ⟨_, h0⟩ | ⟨g3, cap3, cur3, rfl, _, _, hcap3, hcm3, _⟩
          · omega
          obtain ⟨b3, off3, x3, hA3, hb3, hx3, hxc3⟩ := (RInts.of_own e3 (by omega)).at_ (k := 0) (by omega)
          injection hA3 with hA3; injection hA3 with q1 q2 _; subst q1; subst q2
          rw [HP0.out] at hx3
          injection hx3 with hx3
          subst hx3
          simp only [Nat.add_zero] at hxc3
          obtain ⟨bG', offG', hGe, hbG', hgc3, _⟩ := rowsI_at3 H4.out hC.rows (t := T) (by omega)
          have hg0 := hC.gcell
          injection hGe with hGe; injection hGe with q1 q2 _; subst q1; subst q2
          rw [HRT.out] at hgc3
          have hab := and_bit r k (by omega)
          have hmn : min k 64 = k := by omega
          obtain ⟨b1, hb1⟩ : ∃ b, r.testBit k = b := ⟨_, rfl⟩
          obtain ⟨b4, hb4⟩ : ∃ b, (P.any fun y => y == (k : Int)) = b := ⟨_, rfl⟩
          have hT := cirTo_succ (R := R) (m := m) (p := P) (b := B1) (t := (T : Int)) hlt
          have hedge : edgeB R (T : Int) (k : Int) = b1 := by unfold edgeB; rw [Int.toNat_natCast, Int.toNat_natCast, HRT.out, hb1]
          rw [hedge, HPH.out, hb4] at hT
          rw [hb1] at hab
          have HT := Lib.hid hT
          have HCN := Lib.hid (ContainsS_any (some ⟨g3, 0, none⟩) (n + 1) cap3 P (k : Int) wr (RInts.of_own e3 (by omega)))
          rw [hb4] at HCN
          have HB4 := Lib.hid hb4
          have l1 : (k : Int) < 4 := by omega
          have l2 : (0 : Int) ≤ (k : Int) := by omega
          clear hT hedge hb1 hb4 e3 hri hC hB
          cases b1
          · have hz : Hid (cirTo R m P B1 (T : Int) (k + 1) = cirTo R m P B1 (T : Int) k) := by show _ = _; rw [HT.out]; simp
            go_wp2_with fail
            go_roundw
            case rel => exact ⟨k + 1, by omega, by go_num, by rw [hz.out]; exact HC.out, HB.out⟩
            case measure => simp [intOf]; omega
          · by_cases h2 : (K0 : Int) < (k : Int)
            · go_wp2_with fail
              refine HCN.out.mono ?_
              rintro e w5 ⟨rfl, hb5⟩
              have hC5 := HC.out.below hb5
              have hB5 := HB.out.trans (hb5.mono (by have := HB.out.size; have := HC.out.sz; omega))
              cases b4
              · have hz : Hid (cirTo R m P B1 (T : Int) (k + 1) = cirF R m P (cirTo R m P B1 (T : Int) k) (k : Int)) := by show _ = _; rw [HT.out]; simp [h2]
                have HREC := Lib.hid (HIH.out P (cirTo R m P B1 (T : Int) k) (k : Int) w5 hC5 HPOK.out (fun h => by have := any_mem_iff.2 h; rw [HB4.out] at this; cases this) ⟨by omega, by omega⟩ (by rw [HPN.out]; omega))
                have hf5 := hC5.fcell
                have HB5 := Lib.hid hB5
                clear hC5 hB5 hb5
                go_wp2_with fail
                refine HREC.out.mono ?_
                rintro e w6 ⟨rfl, hC6, hB6⟩
                have HC6 := Lib.hid hC6
                have HB6 := Lib.hid (HB5.out.trans hB6)
                clear hC6 hB6
                go_wp2_with fail
                go_roundw
                case rel => exact ⟨k + 1, by omega, by go_num, by rw [hz.out]; exact HC6.out, HB6.out⟩
                case measure => simp [intOf]; omega
              · have hz : Hid (cirTo R m P B1 (T : Int) (k + 1) = cirTo R m P B1 (T : Int) k) := by show _ = _; rw [HT.out]; simp
                go_wp2_with fail
                go_roundw
                case rel => exact ⟨k + 1, by omega, by go_num, by rw [hz.out]; exact hC5, hB5⟩
                case measure => simp [intOf]; omega
            · have hz : Hid (cirTo R m P B1 (T : Int) (k + 1) = cirTo R m P B1 (T : Int) k) := by show _ = _; rw [HT.out]; simp [h2]
              go_wp2_with fail
              go_roundw
              case rel => exact ⟨k + 1, by omega, by go_num, by rw [hz.out]; exact HC.out, HB.out⟩
              case measure => simp [intOf]; omega
        · obtain rfl : k = 4 := by omega
          rw [HFB.out] at hC
          rw [← HPD.out] at hC
          have HD := Lib.hid (circle11_any .returning hC (by rw [HN.out]; omega))
          clear hC hB HC
          have HBB := Lib.hid HB.out
          go_wp2_with fail
          refine leaves_cons (f := 179) (args := #[.pointer (some ⟨H + 3, 0, none⟩)]) (by simp) (by simp [go_sem]) ?_
          refine HD.out.mono ?_
          rintro e u' w'' ⟨rfl, rfl, hC', hB'⟩
          exact ⟨_, results_none rfl _ _ _, rfl, hC', HBB.out.trans hB'⟩
    · rcases hBI with ⟨hbe, rfl⟩ | ⟨hbne, bb, cb, curb, rfl, hbc, _, _, _, _, _⟩
      · have hBB : cirB R P best (T : Int) = P := by unfold cirB; rw [HEDGE.out, hbe]; simp
        obtain ⟨B1, hB1e⟩ : ∃ B1, P = B1 := ⟨_, rfl⟩
        have HFB := Lib.hid (HFC.out _ (hBB.trans hB1e))
        have hz : ∀ w1 : World, (binOp .eql 26 (.slice none 0 0) (.slice none 0 0)).run Try.prog w1 = .ok (.bool true) w1 := fun w1 => Go.Lib.run_eql_slice_nil w1 26 3 none 0 0 0 0 Try.underlying26
        clear hBB hbe
        refine region_later (by kernel_rfl) (by kernel_rfl) ?_
        repeat (go_big_quiet_step (fail))
        refine wpQuiet_nil ?_
        rintro _ ⟨u, rfl⟩
        have hCu := HC1.out.below u.2
        have hBu := HB1.out.trans (u.2.mono (by have := HC1.out.sz; omega))
        have hg3u := G1 u
        have HCL := Lib.hid (CloneI_any g 0 (n + 1) cap P u.1 (HRI.out.later u))
        have HCU := Lib.hid hCu
        have HBU := Lib.hid hBu
        clear hCu hBu HC1 HB1
        go_wp2_with fail
        refine HCL.out.mono ?_
        rintro e w5 ⟨A5, c5, rfl, hc5, hf5, hb5⟩
        obtain ⟨⟨bv5, hcell5⟩, hfz5, hC5, hB5⟩ := HCU.out.better (by intro e; have := HPN.out; rw [e] at this; simp at this) hf5 hc5 hb5
        have HC3 : Hid (CirAt H (some ⟨bG, offG, none⟩) gc R P B1 (w5.setCell ⟨H + 1, 0, none⟩ (.slice A5 P.length c5)) ∧ Below H W (w5.setCell ⟨H + 1, 0, none⟩ (.slice A5 P.length c5))) := ⟨hB1e ▸ hC5, HBU.out.trans hB5⟩
        have hgu := hC5.gcell
        clear hC5 hB5 hf5 hb5 HCL hB1e
        go_wp2_with fail
        go_loopw [37] (fun i wr => ∃ k : Nat, k ≤ 4 ∧ i = .int .i64 k ∧ CirAt H (some ⟨bG, offG, none⟩) gc R P (cirTo R m P B1 (T : Int) k) wr ∧ Below H W wr) (fun i _ => 4 - (intOf i).toNat)
        case atStart => exact ⟨0, by omega, rfl, HC3.out.1, HC3.out.2⟩
        case round =>
          clear HC3
          obtain ⟨k, hk, rfl, hC, hB⟩ := hrel
          have HC := Lib.hid hC
          have HB := Lib.hid hB
          by_cases hlt : k < 4
          · obtain ⟨pv, bv3, e1, _, e3, _, _⟩ := hC.box
            have hri := e3
            rw [HPN.out] at hri e3
            rcases hri.2 with ⟨_, h0⟩ | ⟨g3, cap3, cur3, rfl, _, _, hcap3, hcm3, _⟩
            · omega
            obtain ⟨b3, off3, x3, hA3, hb3, hx3, hxc3⟩ := (RInts.of_own e3 (by omega)).at_ (k := 0) (by omega)
            injection hA3 with hA3; injection hA3 with q1 q2 _; subst q1; subst q2
            rw [HP0.out] at hx3
            injection hx3 with hx3
            subst hx3
            simp only [Nat.add_zero] at hxc3
            obtain ⟨bG', offG', hGe, hbG', hgc3, _⟩ := rowsI_at3 H4.out hC.rows (t := T) (by omega)
            have hg0 := hC.gcell
            injection hGe with hGe; injection hGe with q1 q2 _; subst q1; subst q2
            rw [HRT.out] at hgc3
            have hab := and_bit r k (by omega)
            have hmn : min k 64 = k := by omega
            obtain ⟨b1, hb1⟩ : ∃ b, r.testBit k = b := ⟨_, rfl⟩
            obtain ⟨b4, hb4⟩ : ∃ b, (P.any fun y => y == (k : Int)) = b := ⟨_, rfl⟩
            have hT := cirTo_succ (R := R) (m := m) (p := P) (b := B1) (t := (T : Int)) hlt
            have hedge : edgeB R (T : Int) (k : Int) = b1 := by unfold edgeB; rw [Int.toNat_natCast, Int.toNat_natCast, HRT.out, hb1]
            rw [hedge, HPH.out, hb4] at hT
            rw [hb1] at hab
            have HT := Lib.hid hT
            have HCN := Lib.hid (ContainsS_any (some ⟨g3, 0, none⟩) (n + 1) cap3 P (k : Int) wr (RInts.of_own e3 (by omega)))
            rw [hb4] at HCN
            have HB4 := Lib.hid hb4
            have l1 : (k : Int) < 4 := by omega
            have l2 : (0 : Int) ≤ (k : Int) := by omega
            clear hT hedge hb1 hb4 e3 hri hC hB
            cases b1
            · have hz : Hid (cirTo R m P B1 (T : Int) (k + 1) = cirTo R m P B1 (T : Int) k) := by show _ = _; rw [HT.out]; simp
              go_wp2_with fail
              go_roundw
              case rel => exact ⟨k + 1, by omega, by go_num, by rw [hz.out]; exact HC.out, HB.out⟩
              case measure => simp [intOf]; omega
            · by_cases h2 : (K0 : Int) < (k : Int)
              · go_wp2_with fail
                refine HCN.out.mono ?_
                rintro e w5 ⟨rfl, hb5⟩
                have hC5 := HC.out.below hb5
                have hB5 := HB.out.trans (hb5.mono (by have := HB.out.size; have := HC.out.sz; omega))
                cases b4
                · have hz : Hid (cirTo R m P B1 (T : Int) (k + 1) = cirF R m P (cirTo R m P B1 (T : Int) k) (k : Int)) := by show _ = _; rw [HT.out]; simp [h2]
                  have HREC := Lib.hid (HIH.out P (cirTo R m P B1 (T : Int) k) (k : Int) w5 hC5 HPOK.out (fun h => by have := any_mem_iff.2 h; rw [HB4.out] at this; cases this) ⟨by omega, by omega⟩ (by rw [HPN.out]; omega))
                  have hf5 := hC5.fcell
                  have HB5 := Lib.hid hB5
                  clear hC5 hB5 hb5
                  go_wp2_with fail
                  refine HREC.out.mono ?_
                  rintro e w6 ⟨rfl, hC6, hB6⟩
                  have HC6 := Lib.hid hC6
                  have HB6 := Lib.hid (HB5.out.trans hB6)
                  clear hC6 hB6
                  go_wp2_with fail
                  go_roundw
                  case rel => exact ⟨k + 1, by omega, by go_num, by rw [hz.out]; exact HC6.out, HB6.out⟩
                  case measure => simp [intOf]; omega
                · have hz : Hid (cirTo R m P B1 (T : Int) (k + 1) = cirTo R m P B1 (T : Int) k) := by show _ = _; rw [HT.out]; simp
                  go_wp2_with fail
                  go_roundw
                  case rel => exact ⟨k + 1, by omega, by go_num, by rw [hz.out]; exact hC5, hB5⟩
                  case measure => simp [intOf]; omega
              · have hz : Hid (cirTo R m P B1 (T : Int) (k + 1) = cirTo R m P B1 (T : Int) k) := by show _ = _; rw [HT.out]; simp [h2]
                go_wp2_with fail
                go_roundw
                case rel => exact ⟨k + 1, by omega, by go_num, by rw [hz.out]; exact HC.out, HB.out⟩
                case measure => simp [intOf]; omega
          · obtain rfl : k = 4 := by omega
            rw [HFB.out] at hC
            rw [← HPD.out] at hC
            have HD := Lib.hid (circle11_any .returning hC (by rw [HN.out]; omega))
            clear hC hB HC
            have HBB := Lib.hid HB.out
            go_wp2_with fail
            refine leaves_cons (f := 179) (args := #[.pointer (some ⟨H + 3, 0, none⟩)]) (by simp) (by simp [go_sem]) ?_
            refine HD.out.mono ?_
            rintro e u' w'' ⟨rfl, rfl, hC', hB'⟩
            exact ⟨_, results_none rfl _ _ _, rfl, hC', HBB.out.trans hB'⟩
      · obtain ⟨q, hq⟩ : ∃ q, best.length = q := ⟨_, rfl⟩
        have hz : ∀ w1 : World, (binOp .eql 26 (.slice (some ⟨bb, 0, none⟩) q cb) (.slice none 0 0)).run Try.prog w1 = .ok (.bool false) w1 := fun w1 => Go.Lib.run_eql_slice_nil w1 26 3 (some ⟨bb, 0, none⟩) q cb 0 0 Try.underlying26
        rw [hq] at G4
        have hbe2 : best.isEmpty = false := by cases best with
          | nil => exact absurd rfl hbne
          | cons a b => rfl
        by_cases hlq : n + 1 < q
        · have hBB : cirB R P best (T : Int) = P := by unfold cirB; rw [HEDGE.out, hbe2, HPN.out, hq]; simp [hlq]
          obtain ⟨B1, hB1e⟩ : ∃ B1, P = B1 := ⟨_, rfl⟩
          have HFB := Lib.hid (HFC.out _ (hBB.trans hB1e))
          clear hBB hbe2 hbne hq hbc
          refine region_later (by kernel_rfl) (by kernel_rfl) ?_
          repeat (go_big_quiet_step (fail))
          refine wpQuiet_nil ?_
          rintro _ ⟨u, rfl⟩
          have hCu := HC1.out.below u.2
          have hBu := HB1.out.trans (u.2.mono (by have := HC1.out.sz; omega))
          have hg3u := G1 u
          have HCL := Lib.hid (CloneI_any g 0 (n + 1) cap P u.1 (HRI.out.later u))
          have HCU := Lib.hid hCu
          have HBU := Lib.hid hBu
          clear hCu hBu HC1 HB1
          go_wp2_with fail
          refine HCL.out.mono ?_
          rintro e w5 ⟨A5, c5, rfl, hc5, hf5, hb5⟩
          obtain ⟨⟨bv5, hcell5⟩, hfz5, hC5, hB5⟩ := HCU.out.better (by intro e; have := HPN.out; rw [e] at this; simp at this) hf5 hc5 hb5
          have HC3 : Hid (CirAt H (some ⟨bG, offG, none⟩) gc R P B1 (w5.setCell ⟨H + 1, 0, none⟩ (.slice A5 P.length c5)) ∧ Below H W (w5.setCell ⟨H + 1, 0, none⟩ (.slice A5 P.length c5))) := ⟨hB1e ▸ hC5, HBU.out.trans hB5⟩
          have hgu := hC5.gcell
          clear hC5 hB5 hf5 hb5 HCL hB1e
          go_wp2_with fail
          go_loopw [37] (fun i wr => ∃ k : Nat, k ≤ 4 ∧ i = .int .i64 k ∧ CirAt H (some ⟨bG, offG, none⟩) gc R P (cirTo R m P B1 (T : Int) k) wr ∧ Below H W wr) (fun i _ => 4 - (intOf i).toNat)
          case atStart => exact ⟨0, by omega, rfl, HC3.out.1, HC3.out.2⟩
          case round =>
            clear HC3
            obtain ⟨k, hk, rfl, hC, hB⟩ := hrel
            have HC := Lib.hid hC
            have HB := Lib.hid hB
            by_cases hlt : k < 4
            · obtain ⟨pv, bv3, e1, _, e3, _, _⟩ := hC.box
              have hri := e3
              rw [HPN.out] at hri e3
              rcases hri.2 with ⟨_, h0⟩ | ⟨g3, cap3, cur3, rfl, _, _, hcap3, hcm3, _⟩
              · omega
              obtain ⟨b3, off3, x3, hA3, hb3, hx3, hxc3⟩ := (RInts.of_own e3 (by omega)).at_ (k := 0) (by omega)
              injection hA3 with hA3; injection hA3 with q1 q2 _; subst q1; subst q2
              rw [HP0.out] at hx3
              injection hx3 with hx3
              subst hx3
              simp only [Nat.add_zero] at hxc3
              obtain ⟨bG', offG', hGe, hbG', hgc3, _⟩ := rowsI_at3 H4.out hC.rows (t := T) (by omega)
              have hg0 := hC.gcell
              injection hGe with hGe; injection hGe with q1 q2 _; subst q1; subst q2
              rw [HRT.out] at hgc3
              have hab := and_bit r k (by omega)
              have hmn : min k 64 = k := by omega
              obtain ⟨b1, hb1⟩ : ∃ b, r.testBit k = b := ⟨_, rfl⟩
              obtain ⟨b4, hb4⟩ : ∃ b, (P.any fun y => y == (k : Int)) = b := ⟨_, rfl⟩
              have hT := cirTo_succ (R := R) (m := m) (p := P) (b := B1) (t := (T : Int)) hlt
              have hedge : edgeB R (T : Int) (k : Int) = b1 := by unfold edgeB; rw [Int.toNat_natCast, Int.toNat_natCast, HRT.out, hb1]
              rw [hedge, HPH.out, hb4] at hT
              rw [hb1] at hab
              have HT := Lib.hid hT
              have HCN := Lib.hid (ContainsS_any (some ⟨g3, 0, none⟩) (n + 1) cap3 P (k : Int) wr (RInts.of_own e3 (by omega)))
              rw [hb4] at HCN
              have HB4 := Lib.hid hb4
              have l1 : (k : Int) < 4 := by omega
              have l2 : (0 : Int) ≤ (k : Int) := by omega
              clear hT hedge hb1 hb4 e3 hri hC hB
              cases b1
              · have hz : Hid (cirTo R m P B1 (T : Int) (k + 1) = cirTo R m P B1 (T : Int) k) := by show _ = _; rw [HT.out]; simp
                go_wp2_with fail
                go_roundw
                case rel => exact ⟨k + 1, by omega, by go_num, by rw [hz.out]; exact HC.out, HB.out⟩
                case measure => simp [intOf]; omega
              · by_cases h2 : (K0 : Int) < (k : Int)
                · go_wp2_with fail
                  refine HCN.out.mono ?_
                  rintro e w5 ⟨rfl, hb5⟩
                  have hC5 := HC.out.below hb5
                  have hB5 := HB.out.trans (hb5.mono (by have := HB.out.size; have := HC.out.sz; omega))
                  cases b4
                  · have hz : Hid (cirTo R m P B1 (T : Int) (k + 1) = cirF R m P (cirTo R m P B1 (T : Int) k) (k : Int)) := by show _ = _; rw [HT.out]; simp [h2]
                    have HREC := Lib.hid (HIH.out P (cirTo R m P B1 (T : Int) k) (k : Int) w5 hC5 HPOK.out (fun h => by have := any_mem_iff.2 h; rw [HB4.out] at this; cases this) ⟨by omega, by omega⟩ (by rw [HPN.out]; omega))
                    have hf5 := hC5.fcell
                    have HB5 := Lib.hid hB5
                    clear hC5 hB5 hb5
                    go_wp2_with fail
                    refine HREC.out.mono ?_
                    rintro e w6 ⟨rfl, hC6, hB6⟩
                    have HC6 := Lib.hid hC6
                    have HB6 := Lib.hid (HB5.out.trans hB6)
                    clear hC6 hB6
                    go_wp2_with fail
                    go_roundw
                    case rel => exact ⟨k + 1, by omega, by go_num, by rw [hz.out]; exact HC6.out, HB6.out⟩
                    case measure => simp [intOf]; omega
                  · have hz : Hid (cirTo R m P B1 (T : Int) (k + 1) = cirTo R m P B1 (T : Int) k) := by show _ = _; rw [HT.out]; simp
                    go_wp2_with fail
                    go_roundw
                    case rel => exact ⟨k + 1, by omega, by go_num, by rw [hz.out]; exact hC5, hB5⟩
                    case measure => simp [intOf]; omega
                · have hz : Hid (cirTo R m P B1 (T : Int) (k + 1) = cirTo R m P B1 (T : Int) k) := by show _ = _; rw [HT.out]; simp [h2]
                  go_wp2_with fail
                  go_roundw
                  case rel => exact ⟨k + 1, by omega, by go_num, by rw [hz.out]; exact HC.out, HB.out⟩
                  case measure => simp [intOf]; omega
            · obtain rfl : k = 4 := by omega
              rw [HFB.out] at hC
              rw [← HPD.out] at hC
              have HD := Lib.hid (circle11_any .returning hC (by rw [HN.out]; omega))
              clear hC hB HC
              have HBB := Lib.hid HB.out
              go_wp2_with fail
              refine leaves_cons (f := 179) (args := #[.pointer (some ⟨H + 3, 0, none⟩)]) (by simp) (by simp [go_sem]) ?_
              refine HD.out.mono ?_
              rintro e u' w'' ⟨rfl, rfl, hC', hB'⟩
              exact ⟨_, results_none rfl _ _ _, rfl, hC', HBB.out.trans hB'⟩
        · have hBB : cirB R P best (T : Int) = best := by unfold cirB; rw [HEDGE.out, hbe2, HPN.out, hq]; simp [hlq]
          obtain ⟨B1, hB1e⟩ : ∃ B1, best = B1 := ⟨_, rfl⟩
          have HFB := Lib.hid (HFC.out _ (hBB.trans hB1e))
          clear hBB hbe2 hbne hq hbc
          refine region_later (by kernel_rfl) (by kernel_rfl) ?_
          repeat (go_big_quiet_step (fail))
          refine wpQuiet_nil ?_
          rintro _ ⟨u, rfl⟩
          have hCu := HC1.out.below u.2
          have hBu := HB1.out.trans (u.2.mono (by have := HC1.out.sz; omega))
          have hg3u := G1 u
          have HC3 : Hid (CirAt H (some ⟨bG, offG, none⟩) gc R P B1 u.1 ∧ Below H W u.1) := ⟨hB1e ▸ hCu, hBu⟩
          have hgu := hCu.gcell
          clear hCu hBu HC1 HB1 hB1e
          obtain ⟨w3, hw3⟩ : ∃ w3, u.1 = w3 := ⟨_, rfl⟩
          rw [hw3] at HC3 hgu hg3u ⊢
          clear hw3
          go_wp2_with fail
          go_loopw [37] (fun i wr => ∃ k : Nat, k ≤ 4 ∧ i = .int .i64 k ∧ CirAt H (some ⟨bG, offG, none⟩) gc R P (cirTo R m P B1 (T : Int) k) wr ∧ Below H W wr) (fun i _ => 4 - (intOf i).toNat)
          case atStart => exact ⟨0, by omega, rfl, HC3.out.1, HC3.out.2⟩
          case round =>
            clear HC3
            obtain ⟨k, hk, rfl, hC, hB⟩ := hrel
            have HC := Lib.hid hC
            have HB := Lib.hid hB
            by_cases hlt : k < 4
            · obtain ⟨pv, bv3, e1, _, e3, _, _⟩ := hC.box
              have hri := e3
              rw [HPN.out] at hri e3
              rcases hri.2 with ⟨_, h0⟩ | ⟨g3, cap3, cur3, rfl, _, _, hcap3, hcm3, _⟩
              · omega
              obtain ⟨b3, off3, x3, hA3, hb3, hx3, hxc3⟩ := (RInts.of_own e3 (by omega)).at_ (k := 0) (by omega)
              injection hA3 with hA3; injection hA3 with q1 q2 _; subst q1; subst q2
              rw [HP0.out] at hx3
              injection hx3 with hx3
              subst hx3
              simp only [Nat.add_zero] at hxc3
              obtain ⟨bG', offG', hGe, hbG', hgc3, _⟩ := rowsI_at3 H4.out hC.rows (t := T) (by omega)
              have hg0 := hC.gcell
              injection hGe with hGe; injection hGe with q1 q2 _; subst q1; subst q2
              rw [HRT.out] at hgc3
              have hab := and_bit r k (by omega)
              have hmn : min k 64 = k := by omega
              obtain ⟨b1, hb1⟩ : ∃ b, r.testBit k = b := ⟨_, rfl⟩
              obtain ⟨b4, hb4⟩ : ∃ b, (P.any fun y => y == (k : Int)) = b := ⟨_, rfl⟩
              have hT := cirTo_succ (R := R) (m := m) (p := P) (b := B1) (t := (T : Int)) hlt
              have hedge : edgeB R (T : Int) (k : Int) = b1 := by unfold edgeB; rw [Int.toNat_natCast, Int.toNat_natCast, HRT.out, hb1]
              rw [hedge, HPH.out, hb4] at hT
              rw [hb1] at hab
              have HT := Lib.hid hT
              have HCN := Lib.hid (ContainsS_any (some ⟨g3, 0, none⟩) (n + 1) cap3 P (k : Int) wr (RInts.of_own e3 (by omega)))
              rw [hb4] at HCN
              have HB4 := Lib.hid hb4
              have l1 : (k : Int) < 4 := by omega
              have l2 : (0 : Int) ≤ (k : Int) := by omega
              clear hT hedge hb1 hb4 e3 hri hC hB
              cases b1
              · have hz : Hid (cirTo R m P B1 (T : Int) (k + 1) = cirTo R m P B1 (T : Int) k) := by show _ = _; rw [HT.out]; simp
                go_wp2_with fail
                go_roundw
                case rel => exact ⟨k + 1, by omega, by go_num, by rw [hz.out]; exact HC.out, HB.out⟩
                case measure => simp [intOf]; omega
              · by_cases h2 : (K0 : Int) < (k : Int)
                · go_wp2_with fail
                  refine HCN.out.mono ?_
                  rintro e w5 ⟨rfl, hb5⟩
                  have hC5 := HC.out.below hb5
                  have hB5 := HB.out.trans (hb5.mono (by have := HB.out.size; have := HC.out.sz; omega))
                  cases b4
                  · have hz : Hid (cirTo R m P B1 (T : Int) (k + 1) = cirF R m P (cirTo R m P B1 (T : Int) k) (k : Int)) := by show _ = _; rw [HT.out]; simp [h2]
                    have HREC := Lib.hid (HIH.out P (cirTo R m P B1 (T : Int) k) (k : Int) w5 hC5 HPOK.out (fun h => by have := any_mem_iff.2 h; rw [HB4.out] at this; cases this) ⟨by omega, by omega⟩ (by rw [HPN.out]; omega))
                    have hf5 := hC5.fcell
                    have HB5 := Lib.hid hB5
                    clear hC5 hB5 hb5
                    go_wp2_with fail
                    refine HREC.out.mono ?_
                    rintro e w6 ⟨rfl, hC6, hB6⟩
                    have HC6 := Lib.hid hC6
                    have HB6 := Lib.hid (HB5.out.trans hB6)
                    clear hC6 hB6
                    go_wp2_with fail
                    go_roundw
                    case rel => exact ⟨k + 1, by omega, by go_num, by rw [hz.out]; exact HC6.out, HB6.out⟩
                    case measure => simp [intOf]; omega
                  · have hz : Hid (cirTo R m P B1 (T : Int) (k + 1) = cirTo R m P B1 (T : Int) k) := by show _ = _; rw [HT.out]; simp
                    go_wp2_with fail
                    go_roundw
                    case rel => exact ⟨k + 1, by omega, by go_num, by rw [hz.out]; exact hC5, hB5⟩
                    case measure => simp [intOf]; omega
                · have hz : Hid (cirTo R m P B1 (T : Int) (k + 1) = cirTo R m P B1 (T : Int) k) := by show _ = _; rw [HT.out]; simp [h2]
                  go_wp2_with fail
                  go_roundw
                  case rel => exact ⟨k + 1, by omega, by go_num, by rw [hz.out]; exact HC.out, HB.out⟩
                  case measure => simp [intOf]; omega
            · obtain rfl : k = 4 := by omega
              rw [HFB.out] at hC
              rw [← HPD.out] at hC
              have HD := Lib.hid (circle11_any .returning hC (by rw [HN.out]; omega))
              clear hC hB HC
              have HBB := Lib.hid HB.out
              go_wp2_with fail
              refine leaves_cons (f := 179) (args := #[.pointer (some ⟨H + 3, 0, none⟩)]) (by simp) (by simp [go_sem]) ?_
              refine HD.out.mono ?_
              rintro e u' w'' ⟨rfl, rfl, hC', hB'⟩
              exact ⟨_, results_none rfl _ _ _, rfl, hC', HBB.out.trans hB'⟩
end Go.Proofs.Ytncebpmckbcabaa
