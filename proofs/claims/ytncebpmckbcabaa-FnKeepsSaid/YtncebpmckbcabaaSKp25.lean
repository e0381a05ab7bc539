/-
  Texts that the proof rests on, joined: part 25.
-/
import Derived.Deep.QuietTactic
import Derived.Defers
import Derived.IntWalk
import Derived.Laws.EntriesVeiled
import Derived.Test.YtncebpmckbcabaaSKp3
import Derived.Test.YtncebpmckbcabaaSKp7
import Derived.Test.YtncebpmckbcabaaSKp8
import Derived.Test.YtncebpmckbcabaaSKp17
import Derived.Test.YtncebpmckbcabaaSKp18
import Derived.Test.YtncebpmckbcabaaSKp20
import Derived.Test.YtncebpmckbcabaaSKp21
import Derived.Test.YtncebpmckbcabaaSKp22
import Derived.Test.YtncebpmckbcabaaSKp23
import Derived.Test.YtncebpmckbcabaaSKp24
namespace Go.Proofs.Ytncebpmckbcabaa
open Go.RowKit Go.BigFrame
set_option linter.unusedVariables false

theorem RetListsA.from {w W w' : World} {xss : List (List Int)} {e : Ending} (hb : Below w.heap.size w W) (h : RetListsA W xss e w') : RetListsA w xss e w' := by
  obtain ⟨A6, c6, rv, rfl, h2, h3, h4, h5, h6⟩ := h
  have hs := hb.size
  exact ⟨A6, c6, rv, rfl, h2, ⟨h3.1, fun ad had => by obtain ⟨b, cur, e1, e2, e3⟩ := h3.2 ad had; exact ⟨b, cur, e1, by omega, e3⟩⟩, h4.since hs, h5, hb.trans (h6.mono hs)⟩
theorem RetLists.from {w W w' : World} {xss : List (List Int)} {e : Ending} (hb : Below w.heap.size w W) (h : RetLists W xss e w') : RetLists w xss e w' := by
  obtain ⟨A6, c6, rv, rfl, h2, h3, h4, h6⟩ := h
  have hs := hb.size
  exact ⟨A6, c6, rv, rfl, h2, ⟨h3.1, fun ad had => by obtain ⟨b, cur, e1, e2, e3⟩ := h3.2 ad had; exact ⟨b, cur, e1, by omega, e3⟩⟩, h4.since hs, hb.trans (h6.mono hs)⟩

set_option maxRecDepth 100000 in
set_option maxHeartbeats 1000000 in
theorem ordersOf_any (A : Option Addr) (n c : Nat) (s : List OpV) (w : World) (hx : ROps w A n s) (hv : validS s = true) :
    Calls Try.prog 85 #[.slice A n c] w (RetListsA w (ordO s)) := by
  have HX := Lib.hid hx
  have HV := Lib.hid hv
  clear hx hv
  go_enter Try.func85, Try.ntmps85
  go_wp2_with fail
  refine (committedOf_any A n c s w HX.out).mono ?_
  rintro e w1 ⟨C, cc, rfl, hcc, hf, hb1⟩
  have hf1 := hf.1
  have HT := Lib.hid (txsOf_any C (committed s).length cc (committed s) w1 hf1)
  clear hf
  go_wp2_with fail
  refine HT.out.mono ?_
  rintro e w2 ⟨L, lc, rfl, hlc, hf2, hb2⟩
  have hb12 := hb1.trans (hb2.mono hb1.size)
  have hG := graphOf_any A n c s w2 (HX.out.below hb12 (Nat.le_refl _)) HV.out
  have HG := Lib.hid hG
  have hL4 : (txsOf (committed s)).length ≤ 4 := txsOf_len _
  have HRL := Lib.hid (txsOf_rng0 (committed s))
  have HLR := Lib.hid hf2.1
  have HLB : Hid (∀ ad, L = some ad → ad.block < w2.heap.size) := FreshInts.blk hf2
  have HOO : Hid (ordO s = ordI (txsOf (committed s)) (grI (committed s))) := rfl
  have HR4 : Hid (Rows4 (grI (committed s))) := grI_ok (comm_tx4 HV.out)
  clear hf2 hG hf1 HT
  generalize txsOf (committed s) = LL at *
  go_wp2_with fail
  refine HG.out.mono ?_
  rintro e w3 ⟨G, gc, rfl, hgc, ⟨hg3, _⟩, hb3⟩
  have hlen : (rowsI (grI (committed s))).length = 4 := by simp [rowsI, HR4.out.1]
  rw [hlen] at hg3 hgc ⊢
  have hb13 := hb12.trans (hb3.mono hb12.size)
  have HO := Lib.hid (ordersBy_any L G LL.length lc gc LL (grI (committed s)) w3 (HLR.out.below hb3 (Nat.le_refl _)) (fun ad h => Nat.lt_of_lt_of_le (HLB.out ad h) hb3.size) hg3 HR4.out HRL.out hL4)
  rw [← HOO.out] at HO
  clear hg3 hlen hb3
  go_wp2_with fail
  refine HO.out.mono ?_
  intro e w4 hret
  obtain ⟨A6, c6, rv, rfl, h2, h3, h4, h5, h6⟩ := hret
  have HR : Hid (RetListsA w (ordO s) (.returned (.slice A6 (ordO s).length c6)) w4) := RetListsA.from hb13 ⟨A6, c6, rv, rfl, h2, h3, h4, h5, h6⟩
  clear h2 h3 h4 h5 h6 HO
  go_wp2_with fail
  go_ret
  exact HR.out

set_option maxRecDepth 100000 in
set_option maxHeartbeats 1000000 in
theorem OrdersOf_any (A : Option Addr) (n c : Nat) (s : List OpV) (w : World) (hx : ROps w A n s) (hnc : n ≤ c) :
    Calls Try.prog 38 #[.slice A n c] w (RetListsA w (orNil (validS s) (ordO s))) := by
  have HX := Lib.hid hx
  clear hx
  go_enter Try.func38, Try.ntmps38
  go_wp2_with fail
  refine (ValidSchedule_any A n c s w HX.out hnc).mono ?_
  rintro e w1 ⟨rfl, hb⟩
  cases hv : validS s
  · have HV := Lib.hid hv
    clear hv
    go_wp2_with fail
    go_ret
    rw [HV.out]
    exact RetListsA.nil hb
  · have HV := Lib.hid hv
    have HO := Lib.hid (ordersOf_any A n c s w1 (HX.out.below hb (Nat.le_refl _)) hv)
    clear hv
    go_wp2_with fail
    refine HO.out.mono ?_
    intro e w4 hret
    obtain ⟨A6, c6, rv, rfl, h2, h3, h4, h5, h6⟩ := hret
    have HR : Hid (RetListsA w (ordO s) (.returned (.slice A6 (ordO s).length c6)) w4) := RetListsA.from hb ⟨A6, c6, rv, rfl, h2, h3, h4, h5, h6⟩
    clear h2 h3 h4 h5 h6 HO
    go_wp2_with fail
    go_ret
    rw [HV.out]
    exact HR.out

set_option maxRecDepth 100000 in
set_option maxHeartbeats 1000000 in
theorem IsSerializable_any (A : Option Addr) (n c : Nat) (s : List OpV) (w : World) (hx : ROps w A n s) (hnc : n ≤ c) :
    Calls Try.prog 33 #[.slice A n c] w fun e w' => e = .returned (.bool (validS s && decide (0 < (ordO s).length))) ∧ Below w.heap.size w w' := by
  have HX := Lib.hid hx
  clear hx
  have hO := OrdersOf_any A n c s w HX.out hnc
  have HE : Hid ((validS s && decide (0 < (ordO s).length)) = decide (0 < (orNil (validS s) (ordO s)).length)) := by
    show _ = _
    cases validS s
    · rfl
    · simp [orNil]
  have HO := Lib.hid hO
  clear hO
  go_enter Try.func33, Try.ntmps33
  go_wp2_with fail
  refine HO.out.mono ?_
  intro e w4 hret
  obtain ⟨A6, c6, rv, rfl, h2, h3, h4, h5, h6⟩ := hret
  have hb := h6
  clear h3 h4 h5 h6
  obtain ⟨N, hN⟩ : ∃ N, (orNil (validS s) (ordO s)).length = N := ⟨_, rfl⟩
  rw [hN] at HE h2 ⊢
  clear hN HO
  go_wp2_with fail
  go_ret
  exact ⟨ret_bool HE.out.symm, hb⟩

/-! the reference -/
end Go.Proofs.Ytncebpmckbcabaa
namespace Go.Proofs.Ytncebpmckbcabaa
open Go.RowKit Go.BigFrame
set_option linter.unusedVariables false

/-- The call hands back a slice that reads as the list, and changes nothing. -/
def RetRd (w0 : World) (xs : List Int) (e : Ending) (w : World) : Prop := ∃ A c, e = .returned (.slice A xs.length c) ∧ xs.length ≤ c ∧ RInts w A xs.length xs ∧ Below w0.heap.size w0 w
theorem RetRd.nil {w0 w : World} (h : Below w0.heap.size w0 w) : RetRd w0 [] (.returned (.slice none 0 0)) w := ⟨none, 0, rfl, Nat.le_refl _, RInts.nil, h⟩
theorem RetRd.mk {w0 w : World} {xs : List Int} {A : Option Addr} {n c : Nat} (hn : xs.length = n) (hc : n ≤ c) (h : RInts w A n xs) (hb : Below w0.heap.size w0 w) : RetRd w0 xs (.returned (.slice A n c)) w := by
  subst hn; exact ⟨A, c, rfl, hc, h, hb⟩
def cyCand (R : List Nat) (m : Nat) (head : List Int) (t : Int) : List Int := if decide (head.headD 0 < t) && !(head.any fun y => y == t) && edgeB R (head.getLastD 0) t then cyF R m (head ++ [t]) else []
theorem cyF_succ (R : List Nat) (m : Nat) (head : List Int) : cyF R (m + 1) head = firstNE ([0, 1, 2, 3].map (cyCand R m head)) := rfl
theorem firstNE_hit {f : Int → List Int} {j : Nat} (hj : j < 4) (hno : ∀ u : Nat, u < j → f (u : Int) = []) (h : f (j : Int) ≠ []) : firstNE ([0, 1, 2, 3].map f) = f (j : Int) := by
  have hem : (f (j : Int)).isEmpty = false := by
    cases e : f (j : Int) with
    | nil => exact absurd e h
    | cons a b => rfl
  rcases (by omega : j = 0 ∨ j = 1 ∨ j = 2 ∨ j = 3) with rfl | rfl | rfl | rfl
  · have e : f 0 = f ((0 : Nat) : Int) := rfl
    simp only [List.map, firstNE, e, hem]; simp
  · have e0 : f 0 = [] := hno 0 (by omega)
    have e : f 1 = f ((1 : Nat) : Int) := rfl
    simp only [List.map, firstNE, e0, e, hem]; simp
  · have e0 : f 0 = [] := hno 0 (by omega)
    have e1 : f 1 = [] := hno 1 (by omega)
    have e : f 2 = f ((2 : Nat) : Int) := rfl
    simp only [List.map, firstNE, e0, e1, e, hem]; simp
  · have e0 : f 0 = [] := hno 0 (by omega)
    have e1 : f 1 = [] := hno 1 (by omega)
    have e2 : f 2 = [] := hno 2 (by omega)
    have e : f 3 = f ((3 : Nat) : Int) := rfl
    simp only [List.map, firstNE, e0, e1, e2, e, hem]; simp
theorem firstNE_none {f : Int → List Int} (hno : ∀ u : Nat, u < 4 → f (u : Int) = []) : firstNE ([0, 1, 2, 3].map f) = [] := by
  have e0 : f 0 = [] := hno 0 (by omega)
  have e1 : f 1 = [] := hno 1 (by omega)
  have e2 : f 2 = [] := hno 2 (by omega)
  have e3 : f 3 = [] := hno 3 (by omega)
  simp [List.map, firstNE, e0, e1, e2, e3]
theorem getLast_at {head : List Int} {h : Nat} {x : Int} (hl : head.length = h + 1) (hx : head[h]? = some x) : head.getLastD 0 = x := by
  rw [List.getLastD_eq_getLast?, List.getLast?_eq_getElem?, hl, Nat.add_sub_cancel, hx]; rfl

set_option maxRecDepth 100000 in
set_option maxHeartbeats 4000000 in
theorem cycleFrom_any (R : List Nat) (h4 : Rows4 R) (G : Option Addr) (gc : Nat) (m : Nat) : ∀ (B : Option Addr) (h ch : Nat) (head : List Int) (w : World), RInts w G 4 (rowsI R) → RInts w B (h + 1) head → (∀ x ∈ head, 0 ≤ x ∧ x ≤ 3) → h + 1 + m ≤ 4 → h + 1 ≤ ch →
    Calls Try.prog 156 #[.slice G 4 gc, .slice B (h + 1) ch, .int .i64 ((h + 1 + m : Nat) : Int)] w (RetRd w (cyF R m head)) := by
  induction m with
  | zero =>
    intro B h ch head w hg hh hr hm hch
    obtain ⟨bh, offh, x0, rfl, hbh, hx0, hc0⟩ := hh.at_ (k := 0) (by omega)
    obtain ⟨bh', offh', xl, hA', _, hxl, hcl⟩ := hh.at_ (k := h) (by omega)
    injection hA' with hA'; injection hA' with q1 q2 _; subst q1; subst q2
    have hlast := getLast_at hh.1 hxl
    have hhead : head.headD 0 = x0 := by
      cases head with
      | nil => simp at hx0
      | cons a b => simpa using hx0
    obtain ⟨X0, rfl⟩ := Int.eq_ofNat_of_zero_le (hr x0 (List.mem_of_getElem? hx0)).1
    obtain ⟨XL, rfl⟩ := Int.eq_ofNat_of_zero_le (hr xl (List.mem_of_getElem? hxl)).1
    have hX0 := (hr _ (List.mem_of_getElem? hx0)).2
    have hXL := (hr _ (List.mem_of_getElem? hxl)).2
    obtain ⟨bG, offG, rfl, hbG, hcg, hr16⟩ := rowsI_at3 h4 hg (t := XL) (by omega)
    obtain ⟨r, hr0⟩ : ∃ r, R.getD XL 0 = r := ⟨_, rfl⟩
    rw [hr0] at hcg hr16
    obtain ⟨bb, hbb⟩ : ∃ b, r.testBit X0 = b := ⟨_, rfl⟩
    have hcy : cyF R 0 head = if bb then head else [] := by
      unfold cyF edgeB
      rw [hlast, hhead, Int.toNat_natCast, Int.toNat_natCast, hr0, hbb]
    have HCY := Lib.hid hcy
    have hbit : ∀ W : World, Calls Try.prog 177 #[.int .i64 (r : Int), .int .i64 (X0 : Int)] W fun e w' => e = .returned (.int .i64 (if bb then 1 else 0)) ∧ W = w' := fun W => by
      have := sbit_any r X0 W (by omega) (by omega); rw [hbb] at this; exact this
    have HBIT := Lib.hid hbit
    have HH := Lib.hid hh
    simp only [Nat.add_zero] at hc0
    have G0 := Later.cell hc0
    have G1 := Later.cell hcl
    have G2 := Later.cell hcg
    have hX4 : (XL : Int) < 4 := by omega
    have hX40 : (0 : Int) ≤ (XL : Int) := by omega
    have hw1 : IntKind.i64.wrap ((h : Int) + 1 - 1) = (h : Int) := by rw [show (h : Int) + 1 - 1 = (h : Int) by omega]; exact IntWalk.i64_in _ (by omega)
    have hh0 : (0 : Int) ≤ (h : Int) := by omega
    have hhl : (h : Int) < ((h + 1 : Nat) : Int) := by omega
    clear hh hcy hbit hc0 hcl hcg hg hx0 hxl hlast hhead hr0 hbb hr
    go_enter Try.func156, Try.ntmps156
    go_wp2_with fail
    refine region_later (by kernel_rfl) (by kernel_rfl) ?_
    repeat (go_big_quiet_step ((go_at_call 177; exact later_same _ (HBIT.out _))))
    refine wpQuiet_nil ?_
    rintro _ ⟨u, rfl⟩
    cases bb
    · have hz : Hid (RetRd w (cyF R 0 head) (.returned (.slice none 0 0)) u.1) := by
        show RetRd _ _ _ _
        rw [HCY.out]
        exact RetRd.nil u.2
      go_wp2_with fail
      go_ret
      exact hz.out
    · have hz : Hid (RetRd w (cyF R 0 head) (.returned (.slice (some ⟨bh, offh, none⟩) (h + 1) ch)) u.1) := by
        show RetRd _ _ _ _
        rw [HCY.out]
        exact RetRd.mk HH.out.1 hch (HH.out.later u) u.2
      go_wp2_with fail
      go_ret
      exact hz.out
  | succ m ih =>
    intro B h ch head w hg hh hr hm hch
    obtain ⟨bh, offh, x0, rfl, hbh, hx0, hc0⟩ := hh.at_ (k := 0) (by omega)
    obtain ⟨bh', offh', xl, hA', _, hxl, hcl⟩ := hh.at_ (k := h) (by omega)
    injection hA' with hA'; injection hA' with q1 q2 _; subst q1; subst q2
    have hlast := getLast_at hh.1 hxl
    have hhead : head.headD 0 = x0 := by
      cases head with
      | nil => simp at hx0
      | cons a b => simpa using hx0
    obtain ⟨X0, rfl⟩ := Int.eq_ofNat_of_zero_le (hr x0 (List.mem_of_getElem? hx0)).1
    obtain ⟨XL, rfl⟩ := Int.eq_ofNat_of_zero_le (hr xl (List.mem_of_getElem? hxl)).1
    have hX0 := (hr _ (List.mem_of_getElem? hx0)).2
    have hXL := (hr _ (List.mem_of_getElem? hxl)).2
    obtain ⟨bG, offG, rfl, hbG, hcg, hr16⟩ := rowsI_at3 h4 hg (t := XL) (by omega)
    obtain ⟨r, hr0⟩ : ∃ r, R.getD XL 0 = r := ⟨_, rfl⟩
    rw [hr0] at hcg hr16
    have hlow : ∀ u : Nat, u < X0 + 1 → cyCand R m head (u : Int) = [] := fun u hu => by
      unfold cyCand
      rw [hhead]
      have : decide ((X0 : Int) < (u : Int)) = false := by simp; omega
      rw [this]; rfl
    have hcand : ∀ k : Nat, X0 < k → cyCand R m head (k : Int) = if !(head.any fun y => y == (k : Int)) && r.testBit k then cyF R m (head ++ [(k : Int)]) else [] := fun k hk => by
      unfold cyCand
      rw [hhead, hlast]
      have : decide ((X0 : Int) < (k : Int)) = true := by simp; omega
      rw [this, Bool.true_and]
      unfold edgeB
      rw [Int.toNat_natCast, Int.toNat_natCast, hr0]
    have HLOW := Lib.hid hlow
    have HCAND := Lib.hid hcand
    have HCY := Lib.hid (cyF_succ R m head)
    have HH := Lib.hid hh
    have HG := Lib.hid hg
    have HR := Lib.hid hr
    have HIH := Lib.hid ih
    have HBIT : Hid (∀ (k : Nat) (b : Bool) (W : World), k < 4 → r.testBit k = b → Calls Try.prog 177 #[.int .i64 (r : Int), .int .i64 (k : Int)] W fun e w' => e = .returned (.int .i64 (if b then 1 else 0)) ∧ W = w') := fun k b W hk hb => by
      have := sbit_any r k W (by omega) (by omega); rw [hb] at this; exact this
    have hc0' := hc0
    simp only [Nat.add_zero] at hc0'
    have G0 := Later.cell hc0'
    have G1 := Later.cell hcl
    have G2 := Later.cell hcg
    have hX4 : (XL : Int) < 4 := by omega
    have hX40 : (0 : Int) ≤ (XL : Int) := by omega
    have hmn : ((h : Int) + 1 == (h : Int) + 1 + ((m : Int) + 1)) = false := by rw [beq_eq_false_iff_ne]; omega
    simp only [Nat.add_zero] at hc0
    clear hh hcl hcg hg hx0 hxl hlast hhead hr0 hr ih hlow hcand
    go_enter Try.func156, Try.ntmps156
    go_wp2_with fail
    go_loopw [7] (fun i wr => ∃ j : Nat, X0 + 1 ≤ j ∧ j ≤ 4 ∧ i = .int .i64 j ∧ Below w.heap.size w wr ∧ ∀ u : Nat, u < j → cyCand R m head (u : Int) = []) (fun i _ => 4 - (intOf i).toNat)
    case atStart => exact ⟨X0 + 1, Nat.le_refl _, by omega, by go_num, Below.refl _ _, HLOW.out⟩
    case round =>
      obtain ⟨j, hj1, hj4, rfl, hb, hno⟩ := hrel
      have HNO := Lib.hid hno
      clear hno
      by_cases hlt : j < 4
      · obtain ⟨b1, hb1⟩ : ∃ b, (head.any fun y => y == (j : Int)) = b := ⟨_, rfl⟩
        obtain ⟨b2, hb2⟩ : ∃ b, r.testBit j = b := ⟨_, rfl⟩
        have hcd := HCAND.out j (by omega)
        rw [hb1, hb2] at hcd
        have HCD := Lib.hid hcd
        have HNX : Hid (cyCand R m head (j : Int) = [] → ∀ u : Nat, u < j + 1 → cyCand R m head (u : Int) = []) := fun h u hu => by
          by_cases e : u = j
          · subst e; exact h
          · exact HNO.out u (by omega)
        have hI := hasInt_any (some ⟨bh, offh, none⟩) (h + 1) ch head (j : Int) wr (HH.out.below hb (Nat.le_refl _))
        rw [hb1] at hI
        have HI := Lib.hid hI
        have HB2 := Lib.hid hb2
        have l1 : (j : Int) < 4 := by omega
        have l2 : (0 : Int) ≤ (j : Int) := by omega
        have hs := hb.size
        clear hcd hI hb1 hb2
        cases b1
        · go_wp2_with fail
          refine HI.out.mono ?_
          rintro e w2 ⟨rfl, hbx⟩
          have hbw2 := hb.trans (hbx.mono hs)
          have g1 := G1 ⟨w2, hbw2⟩
          have g2 := G2 ⟨w2, hbw2⟩
          simp only at g1 g2
          have HBI := Lib.hid (HBIT.out j b2 w2 hlt HB2.out)
          clear hbx
          cases b2
          · have hz := Lib.hid (HNX.out (by rw [HCD.out]; rfl))
            go_wp2_with fail
            refine HBI.out.mono ?_
            rintro e w3 ⟨rfl, hw3⟩
            subst hw3
            go_wp2_with fail
            go_roundw
            case rel => exact ⟨j + 1, by omega, by omega, by go_num, hbw2, hz.out⟩
            case measure => simp [intOf]; omega
          · have hz : Hid (cyCand R m head (j : Int) = cyF R m (head ++ [(j : Int)])) := by show _ = _; rw [HCD.out]; rfl
            have HE : Hid ((w2.alloc (.cells #[] 3)).ownsRow w2.heap.size 3 1 (.slice (some ⟨w2.heap.size, 0, none⟩) 0 0) 0 (intCells [])) := World.ownsRow_made w2 #[] 0 (Nat.le_refl _) (by decide) rfl
            have hba : Below w2.heap.size w2 (w2.alloc (.cells #[] 3)) := (Below.refl _ _).alloc (Nat.le_refl _) _
            have HHX : Hid (RInts (w2.alloc (.cells #[] 3)) (some ⟨bh, offh, none⟩) (h + 1) head) := (HH.out.below hbw2 (Nat.le_refl _)).below hba (Nat.le_refl _)
            have HBA := Lib.hid hba
            clear hba
            go_wp2_with fail
            refine HBI.out.mono ?_
            rintro e w3 ⟨rfl, hw3⟩
            subst hw3
            go_wp2_with (first
              | (at_builtin; refine app_ints (.tmp 56) (.tmp 57) HE.out (by simp) HHX.out (by omega) rfl rfl rfl rfl ?_; intro v3 w3 hown3 hg3 hat3; have hs3 := World.grownBy.size hg3)
              | (at_builtin; refine app_ints (.tmp 58) (.tmp 60) (hown3.alloc _) (by simp at hs3 ⊢; omega) (lit1 rfl (j : Int)) (by omega) rfl rfl rfl rfl ?_; intro v4 w4 hown4 hg4 hat4))
            have hb3 : Below w2.heap.size w2 w3 := Below.own HBA.out HE.out (Nat.le_refl _) hg3
            have hb4 : Below w2.heap.size w2 w4 := Below.own hb3 hown3 (Nat.le_refl _) (World.grownBy.trans (World.grownBy_alloc w3 _ _) hg4)
            rw [List.nil_append, Nat.zero_add] at hown4
            obtain ⟨B4, c4, hv4, hc4⟩ := own_form2 hown4
            subst hv4
            have hr4 := RInts.of_own hown4 (by omega)
            have hbw4 := hbw2.trans (hb4.mono hbw2.size)
            have hREC := HIH.out B4 (h + 1) c4 (head ++ [(j : Int)]) w4 (HG.out.below hbw4 (Nat.le_refl _)) hr4 (fun x hx => by
              rcases List.mem_append.1 hx with hx | hx
              · exact HR.out x hx
              · rw [List.mem_singleton] at hx; subst hx; omega) (by omega) hc4
            rw [show ((h + 1 + 1 + m : Nat) : Int) = (h : Int) + 1 + ((m : Int) + 1) by omega, ← hz.out] at hREC
            have HREC := Lib.hid hREC
            clear hown3 hg3 hat3 hown4 hg4 hat4 hREC hr4 hb3 hb4
            refine HREC.out.mono ?_
            rintro e w5 ⟨A5, c5, rfl, hc5, hr5, hb5⟩
            have hbw5 := hbw4.trans (hb5.mono hbw4.size)
            by_cases hem : cyCand R m head (j : Int) = []
            · have hz2 := Lib.hid (HNX.out hem)
              have hl0 : (cyCand R m head (j : Int)).length = 0 := by rw [hem]; rfl
              rw [hl0]
              clear hem hl0 hr5 hc5
              go_wp2_with fail
              go_roundw
              case rel => exact ⟨j + 1, by omega, by omega, by go_num, hbw5, hz2.out⟩
              case measure => simp [intOf]; omega
            · have hfin : Hid (RetRd w (cyF R (m + 1) head) (.returned (.slice A5 (cyCand R m head (j : Int)).length c5)) w5) := by
                show RetRd _ _ _ _
                rw [HCY.out, firstNE_hit hlt HNO.out hem]
                exact ⟨A5, c5, rfl, hc5, hr5, hbw5⟩
              have hlp : 0 < (cyCand R m head (j : Int)).length := List.length_pos_iff.2 hem
              obtain ⟨q, hq⟩ : ∃ q, (cyCand R m head (j : Int)).length = q := ⟨_, rfl⟩
              rw [hq] at hfin hlp ⊢
              clear hem hr5 hc5 hq
              go_wp2_with fail
              go_ret
              exact hfin.out
        · have hz := Lib.hid (HNX.out (by rw [HCD.out]; rfl))
          go_wp2_with fail
          refine HI.out.mono ?_
          rintro e w2 ⟨rfl, hbx⟩
          go_wp2_with fail
          go_roundw
          case rel => exact ⟨j + 1, by omega, by omega, by go_num, hb.trans (hbx.mono hs), hz.out⟩
          case measure => simp [intOf]; omega
      · obtain rfl : j = 4 := by omega
        have hfin : Hid (RetRd w (cyF R (m + 1) head) (.returned (.slice none 0 0)) wr) := by
          show RetRd _ _ _ _
          rw [HCY.out, firstNE_none HNO.out]
          exact RetRd.nil hb
        go_wp2_with fail
        go_ret
        exact hfin.out

def cyRow (R : List Nat) (m : Nat) : List Int := firstNE ([0, 1, 2, 3].map fun t => cyF R m [t])
theorem firstNE_append (a b : List (List Int)) : firstNE (a ++ b) = if firstNE a = [] then firstNE b else firstNE a := by
  induction a with
  | nil => simp [firstNE]
  | cons x r ih =>
    simp only [List.cons_append, firstNE]
    split
    · exact ih
    · rename_i h
      rw [if_neg (by intro e; rw [e] at h; simp at h)]
theorem cycT_rows (R : List Nat) : cycT R = if cyRow R 1 = [] then (if cyRow R 2 = [] then cyRow R 3 else cyRow R 2) else cyRow R 1 := by
  have : cycT R = firstNE (([0, 1, 2, 3].map fun t => cyF R 1 [t]) ++ (([0, 1, 2, 3].map fun t => cyF R 2 [t]) ++ ([0, 1, 2, 3].map fun t => cyF R 3 [t]))) := rfl
  rw [this, firstNE_append, firstNE_append]; rfl
theorem cycT_hit {R : List Nat} {m : Nat} (h1 : 1 ≤ m) (h3 : m ≤ 3) (hp : ∀ k, 1 ≤ k → k < m → cyRow R k = []) (h : cyRow R m ≠ []) : cycT R = cyRow R m := by
  rw [cycT_rows]
  rcases (by omega : m = 1 ∨ m = 2 ∨ m = 3) with rfl | rfl | rfl
  · rw [if_neg h]
  · rw [if_pos (hp 1 (by omega) (by omega)), if_neg h]
  · rw [if_pos (hp 1 (by omega) (by omega)), if_pos (hp 2 (by omega) (by omega))]
theorem cycT_no {R : List Nat} (hp : ∀ k, 1 ≤ k → k < 4 → cyRow R k = []) : cycT R = [] := by
  rw [cycT_rows, if_pos (hp 1 (by omega) (by omega)), if_pos (hp 2 (by omega) (by omega)), hp 3 (by omega) (by omega)]

set_option maxRecDepth 100000 in
set_option maxHeartbeats 2000000 in
theorem cycle_any (R : List Nat) (h4 : Rows4 R) (G : Option Addr) (gc : Nat) (w : World) (hg : RInts w G 4 (rowsI R)) :
    Calls Try.prog 128 #[.slice G 4 gc] w (RetRd w (cycT R)) := by
  have HG := Lib.hid hg
  have H4 := Lib.hid h4
  clear hg h4
  go_enter Try.func128, Try.ntmps128
  go_wp2_with fail
  go_loopw [3] (fun i wr => ∃ q : Nat, 1 ≤ q ∧ q ≤ 4 ∧ i = .int .i64 ((q + 1 : Nat) : Int) ∧ Below w.heap.size w wr ∧ ∀ k, 1 ≤ k → k < q → cyRow R k = []) (fun i _ => 5 - (intOf i).toNat)
  case atStart => exact ⟨1, by omega, by omega, by go_num, Below.refl _ _, by omega⟩
  case round =>
    obtain ⟨wo, rfl⟩ : ∃ z : World, z = wr := ⟨_, rfl⟩
    obtain ⟨q, hq1, hq4, rfl, hb, hno⟩ := hrel
    have HNO := Lib.hid hno
    clear hno
    obtain ⟨Q, hQ⟩ : ∃ Q : Nat, q + 1 = Q := ⟨_, rfl⟩
    by_cases hlt : q < 4
    · rw [hQ]
      have hQi : (Q : Int) ≤ 4 := by omega
      go_wp2_with fail
      go_loopw [4] (fun i wr => ∃ j : Nat, j ≤ 4 ∧ i = .int .i64 j ∧ Below w.heap.size w wr ∧ ∀ u : Nat, u < j → cyF R q [(u : Int)] = []) (fun i _ => 4 - (intOf i).toNat)
      case atStart => exact ⟨0, by omega, rfl, hb, by omega⟩
      case round =>
        obtain ⟨j, hj4, rfl, hbi, hno2⟩ := hrel
        have HN2 := Lib.hid hno2
        clear hno2
        by_cases hltj : j < 4
        · have l1 : (j : Int) < 4 := by omega
          have hs := hbi.size
          have hba : Below w.heap.size w (wr.alloc (.cells #[.int .i64 (j : Int)] 3)) := hbi.alloc hs _
          have hC := cycleFrom_any R H4.out G gc q (some ⟨wr.heap.size, 0, none⟩) 0 1 [(j : Int)] (wr.alloc (.cells #[.int .i64 (j : Int)] 3)) (HG.out.below hba (Nat.le_refl _)) (lit1 rfl (j : Int)) (by intro x hx; rw [List.mem_singleton] at hx; subst hx; omega) (by omega) (Nat.le_refl _)
          rw [show 0 + 1 + q = Q by omega] at hC
          have HC := Lib.hid hC
          have HBA := Lib.hid hba
          clear hC hba
          go_wp2_with fail
          refine HC.out.mono ?_
          rintro e w5 ⟨A5, c5, rfl, hc5, hr5, hb5⟩
          have hbw5 := HBA.out.trans (hb5.mono HBA.out.size)
          by_cases hem : cyF R q [(j : Int)] = []
          · have hz : Hid (∀ u : Nat, u < j + 1 → cyF R q [(u : Int)] = []) := fun u hu => by
              by_cases e : u = j
              · subst e; exact hem
              · exact HN2.out u (by omega)
            have hl0 : (cyF R q [(j : Int)]).length = 0 := by rw [hem]; rfl
            rw [hl0]
            clear hem hl0 hr5 hc5
            go_wp2_with fail
            go_roundw
            case rel => exact ⟨j + 1, by omega, by go_num, hbw5, hz.out⟩
            case measure => simp [intOf]; omega
          · have hrow : cyRow R q = cyF R q [(j : Int)] := firstNE_hit (f := fun t => cyF R q [t]) hltj HN2.out hem
            have hfin : Hid (RetRd w (cycT R) (.returned (.slice A5 (cyF R q [(j : Int)]).length c5)) w5) := by
              show RetRd _ _ _ _
              rw [cycT_hit hq1 (by omega) HNO.out (by rw [hrow]; exact hem), hrow]
              exact ⟨A5, c5, rfl, hc5, hr5, hbw5⟩
            have hlp : 0 < (cyF R q [(j : Int)]).length := List.length_pos_iff.2 hem
            obtain ⟨p, hp⟩ : ∃ p, (cyF R q [(j : Int)]).length = p := ⟨_, rfl⟩
            rw [hp] at hfin hlp ⊢
            clear hem hr5 hc5 hp hrow
            go_wp2_with fail
            go_ret
            exact hfin.out
        · obtain rfl : j = 4 := by omega
          have hz : Hid (∀ k, 1 ≤ k → k < q + 1 → cyRow R k = []) := fun k h1 h2 => by
            by_cases e : k = q
            · subst e; exact firstNE_none (f := fun t => cyF R k [t]) HN2.out
            · exact HNO.out k h1 (by omega)
          have HQ := Lib.hid hQ
          clear hQ
          go_wp2_with fail
          go_roundw
          case rel => exact ⟨q + 1, by omega, by omega, by have := HQ.out; go_num, hbi, hz.out⟩
          case measure => have := HQ.out; simp [intOf]; omega
    · have hfin : Hid (RetRd w (cycT R) (.returned (.slice none 0 0)) wo) := by
        show RetRd _ _ _ _
        rw [cycT_no (fun k h1 h2 => HNO.out k h1 (by omega))]
        exact RetRd.nil hb
      rw [hQ]
      have hQi : ¬ (Q : Int) ≤ 4 := by omega
      go_wp2_with fail
      go_ret
      exact hfin.out

end Go.Proofs.Ytncebpmckbcabaa
