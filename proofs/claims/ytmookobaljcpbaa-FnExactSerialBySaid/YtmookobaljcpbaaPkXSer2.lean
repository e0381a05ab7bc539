/-
  The texts that the proof rests on, joined: part 2.
-/
import Derived.Test.YtmookobaljcpbaaPkXSer1
namespace Go.Proofs.Ytmookobaljcpbaa
open Go.RowKit Go.BigFrame
set_option linter.unusedVariables false

set_option maxHeartbeats 400000 in
theorem eqIntS_any (A B : Option Addr) (n m c d : Nat) (xs ys : List Int) (w : World) (hx : RInts w A n xs) (hy : RInts w B m ys) :
    Calls Try.prog 26 #[.slice A n c, .slice B m d] w fun e w' => e = .returned (.bool (xs == ys)) ∧ Below w.heap.size w w' := by
  have hn := hx.2.1
  have hl := hx.1
  have hm := hy.2.1
  have hly := hy.1
  have HX := Lib.hid hx
  have HY := Lib.hid hy
  clear hx hy
  by_cases hnm : n = m
  · subst hnm
    go_enter Try.func26, Try.ntmps26
    go_wp2_with fail
    go_loopw [5] (fun i wr => ∃ k : Nat, k ≤ n ∧ i = .int .i64 k ∧ Below w.heap.size w wr ∧ ∀ j, j < k → xs[j]? = ys[j]?) (fun i _ => n - (intOf i).toNat)
    case atStart => exact ⟨0, Nat.zero_le _, rfl, Below.refl _ _, by omega⟩
    case round =>
      obtain ⟨k, hk, rfl, hb, hno⟩ := hrel
      by_cases hlt : k < n
      · obtain ⟨b, off, x, rfl, hbl, hox, c0⟩ := (HX.out.below hb (Nat.le_refl _)).at_ hlt
        obtain ⟨b', off', y, rfl, hbl', hoy, d0⟩ := (HY.out.below hb (Nat.le_refl _)).at_ hlt
        have HN : Hid (x = y → ∀ j, j < k + 1 → xs[j]? = ys[j]?) := fun h j hj => by
          by_cases e : j = k
          · subst e; rw [hox, hoy, h]
          · exact hno j (by omega)
        have HT : Hid (¬ x = y → (xs == ys) = false) := fun h => by
          rw [beq_eq_false_iff_ne]
          intro e
          rw [e, hoy] at hox
          injection hox with hox
          exact h hox.symm
        have L0 := Later.cell c0
        have M0 := Later.cell d0
        have hki : (k : Int) < (n : Int) := by omega
        clear hno hox hoy c0 d0
        by_cases h1 : x = y
        · have hs := Lib.hid (HN.out h1)
          subst h1
          go_wp2_with fail
          refine region_later (by kernel_rfl) (by kernel_rfl) ?_
          repeat (go_big_quiet_step (fail))
          refine wpQuiet_nil ?_
          rintro _ ⟨u, rfl⟩
          have hbu := hb.trans (u.2.mono hb.size)
          go_wp2_with fail
          go_roundw
          case rel => exact ⟨k + 1, by omega, by go_num, hbu, hs.out⟩
          case measure => simp [intOf]; omega
        · have hs := Lib.hid (HT.out h1)
          have h1' : (x != y) = true := by simpa using h1
          go_wp2_with fail
          refine region_later (by kernel_rfl) (by kernel_rfl) ?_
          repeat (go_big_quiet_step (fail))
          refine wpQuiet_nil ?_
          rintro _ ⟨u, rfl⟩
          have hbu := hb.trans (u.2.mono hb.size)
          go_wp2_with fail
          go_ret
          exact ⟨ret_bool hs.out.symm, hbu⟩
      · have hs : Hid ((xs == ys) = true) := by
          show _ = _
          rw [beq_iff_eq]
          exact eq_of_get (by omega) (fun j hj => hno j (by omega))
        clear hno
        go_wp2_with fail
        go_ret
        exact ⟨ret_bool hs.out.symm, hb⟩
  · have hs : Hid ((xs == ys) = false) := by
      show _ = _
      rw [beq_eq_false_iff_ne]
      intro e
      rw [e] at hl
      omega
    go_enter Try.func26, Try.ntmps26
    go_wp2_with fail
    go_ret
    exact ⟨ret_bool hs.out.symm, Below.refl _ _⟩


set_option maxHeartbeats 1000000 in
theorem eqOpS_any (A B : Option Addr) (n m c d : Nat) (xs ys : List OpV) (w : World) (hx : ROps w A n xs) (hy : ROps w B m ys) :
    Calls Try.prog 25 #[.slice A n c, .slice B m d] w fun e w' => e = .returned (.bool (xs == ys)) ∧ Below w.heap.size w w' := by
  have hn := hx.2.1
  have hl := hx.1
  have hm := hy.2.1
  have hly := hy.1
  have HX := Lib.hid hx
  have HY := Lib.hid hy
  clear hx hy
  by_cases hnm : n = m
  · subst hnm
    go_enter Try.func25, Try.ntmps25
    go_wp2_with fail
    go_loopw [5] (fun i wr => ∃ k : Nat, k ≤ n ∧ i = .int .i64 k ∧ Below w.heap.size w wr ∧ ∀ j, j < k → xs[j]? = ys[j]?) (fun i _ => n - (intOf i).toNat)
    case atStart => exact ⟨0, Nat.zero_le _, rfl, Below.refl _ _, by omega⟩
    case round =>
      obtain ⟨k, hk, rfl, hb, hno⟩ := hrel
      by_cases hlt : k < n
      · obtain ⟨b, off, x, rfl, hbl, hox, c0, c1, c2⟩ := (HX.out.below hb (Nat.le_refl _)).at_ hlt
        obtain ⟨b', off', y, rfl, hbl', hoy, d0, d1, d2⟩ := (HY.out.below hb (Nat.le_refl _)).at_ hlt
        have HN : Hid (x = y → ∀ j, j < k + 1 → xs[j]? = ys[j]?) := fun h j hj => by
          by_cases e : j = k
          · subst e; rw [hox, hoy, h]
          · exact hno j (by omega)
        have HT : Hid (¬ x = y → (xs == ys) = false) := fun h => by
          rw [beq_eq_false_iff_ne]
          intro e
          rw [e, hoy] at hox
          injection hox with hox
          exact h hox.symm
        have L0 := Later.cell c0
        have L1 := Later.cell c1
        have L2 := Later.cell c2
        have M0 := Later.cell d0
        have M1 := Later.cell d1
        have M2 := Later.cell d2
        have hki : (k : Int) < (n : Int) := by omega
        obtain ⟨bb, hbb⟩ : ∃ bb, (x == y) = bb := ⟨_, rfl⟩
        have hC : ∀ u : Later wr, Calls Try.prog 58 #[.agg #[.int .i64 x.tx, .int .i64 x.kind, .int .i64 x.item], .agg #[.int .i64 y.tx, .int .i64 y.kind, .int .i64 y.item]] u.1 fun e w' => e = .returned (.bool bb) ∧ Below u.1.heap.size u.1 w' := fun u => by
          have := eqOp_any x y u.1; rw [hbb] at this; exact this
        have HC := Lib.hid hC
        have HB := Lib.hid hbb
        clear hno hox hoy c0 c1 c2 d0 d1 d2 hC hbb
        cases bb
        · have hs := Lib.hid (HT.out (by simpa using HB.out))
          obtain ⟨x0, x1, x2⟩ := x
          obtain ⟨y0, y1, y2⟩ := y
          go_wp2_with fail
          refine region_later (by kernel_rfl) (by kernel_rfl) ?_
          repeat (go_big_quiet_step ((go_at_call 58; exact later_call _ (HC.out _))))
          refine wpQuiet_nil ?_
          rintro _ ⟨u, rfl⟩
          have hbu := hb.trans (u.2.mono hb.size)
          go_wp2_with fail
          go_ret
          exact ⟨ret_bool hs.out.symm, hbu⟩
        · have hs := Lib.hid (HN.out (by simpa using HB.out))
          obtain ⟨x0, x1, x2⟩ := x
          obtain ⟨y0, y1, y2⟩ := y
          go_wp2_with fail
          refine region_later (by kernel_rfl) (by kernel_rfl) ?_
          repeat (go_big_quiet_step ((go_at_call 58; exact later_call _ (HC.out _))))
          refine wpQuiet_nil ?_
          rintro _ ⟨u, rfl⟩
          have hbu := hb.trans (u.2.mono hb.size)
          go_wp2_with fail
          go_roundw
          case rel => exact ⟨k + 1, by omega, by go_num, hbu, hs.out⟩
          case measure => simp [intOf]; omega
      · have hs : Hid ((xs == ys) = true) := by
          show _ = _
          rw [beq_iff_eq]
          exact eq_of_get (by omega) (fun j hj => hno j (by omega))
        clear hno
        go_wp2_with fail
        go_ret
        exact ⟨ret_bool hs.out.symm, hb⟩
  · have hs : Hid ((xs == ys) = false) := by
      show _ = _
      rw [beq_eq_false_iff_ne]
      intro e
      rw [e] at hl
      omega
    go_enter Try.func25, Try.ntmps25
    go_wp2_with fail
    go_ret
    exact ⟨ret_bool hs.out.symm, Below.refl _ _⟩

/-- The marks that are laid into a list. -/
def mkOps (k : Int) : Nat → List OpV
  | 0 => []
  | n + 1 => mkOps k n ++ [⟨k + 3 * n, k + 3 * n + 1, k + 3 * n + 2⟩]
def mkInts (k : Int) : Nat → List Int
  | 0 => []
  | n + 1 => mkInts k n ++ [k + n]
theorem mkOps_len (k : Int) (n : Nat) : (mkOps k n).length = n := by induction n with
  | zero => rfl
  | succ n ih => simp [mkOps, ih]
theorem mkInts_len (k : Int) (n : Nat) : (mkInts k n).length = n := by induction n with
  | zero => rfl
  | succ n ih => simp [mkInts, ih]
theorem mkOps_at (k : Int) (n : Nat) : ∀ i, i < n → (mkOps k n)[i]? = some ⟨k + 3 * i, k + 3 * i + 1, k + 3 * i + 2⟩ := by
  induction n with
  | zero => intro i h; omega
  | succ n ih =>
    intro i h
    simp only [mkOps]
    by_cases e : i = n
    · subst e; rw [List.getElem?_append_right (by rw [mkOps_len]; omega), mkOps_len]; simp
    · rw [List.getElem?_append_left (by rw [mkOps_len]; omega)]; exact ih i (by omega)
theorem mkInts_at (k : Int) (n : Nat) : ∀ i, i < n → (mkInts k n)[i]? = some (k + i) := by
  induction n with
  | zero => intro i h; omega
  | succ n ih =>
    intro i h
    simp only [mkInts]
    by_cases e : i = n
    · subst e; rw [List.getElem?_append_right (by rw [mkInts_len]; omega), mkInts_len]; simp
    · rw [List.getElem?_append_left (by rw [mkInts_len]; omega)]; exact ih i (by omega)
theorem set_mid {α : Type} {zs xs : List α} {k : Nat} (hl : zs.length = k) (hk : k < xs.length) (v : α) : (zs ++ xs.drop k).set k v = (zs ++ [v]) ++ xs.drop (k + 1) := by
  rw [List.set_append_right _ _ (by omega), hl, Nat.sub_self, List.drop_eq_getElem_cons hk, List.set_cons_zero, List.append_assoc]; rfl

def MarkedOps (A : Option Addr) (n : Nat) (k : Int) (w : World) (e : Ending) (w' : World) : Prop :=
  e = .returned (.int .i64 (k + 3 * n)) ∧ ROps w' A n (mkOps k n) ∧ w.grownBy w' (A.map Addr.block)
def MarkedInts (A : Option Addr) (n : Nat) (k : Int) (w : World) (e : Ending) (w' : World) : Prop :=
  e = .returned (.int .i64 (k + n)) ∧ RInts w' A n (mkInts k n) ∧ w.grownBy w' (A.map Addr.block)

set_option maxRecDepth 100000 in
set_option maxHeartbeats 1000000 in
theorem markIntS_any (A : Option Addr) (n c : Nat) (xs : List Int) (k0 : Int) (w0 w : World) (hx : FreshInts w0 w A n xs) (h0 : 0 ≤ k0) (h1 : k0 ≤ 1099511627776) :
    Calls Try.prog 28 #[.slice A n c, .int .i64 k0] w (MarkedInts A n k0 w) := by
  have hn := hx.1.2.1
  have hl := hx.1.1
  rcases Nat.eq_zero_or_pos n with hz | hz
  · subst hz
    clear hx
    go_enter Try.func28, Try.ntmps28
    go_wp2_with fail
    go_loopw [1, 5] (fun kv i wr => i = .int .i64 0 ∧ kv = .int .i64 k0 ∧ wr = w) (fun _ _ _ => 0)
    case atStart => exact ⟨rfl, rfl, rfl⟩
    case round =>
      obtain ⟨rfl, rfl, rfl⟩ := hrel
      go_wp2_with fail
      go_ret
      exact ⟨ret_int (by simp), RInts.nil, World.grownBy.refl _ _⟩
  · obtain ⟨g, rest, rfl, hge, hrow⟩ := hx.row hz
    have HST : Hid (RowIs w g 3 (intCells (mkInts k0 0 ++ xs.drop 0) ++ rest)) := by (show RowIs _ _ _ _); simpa [mkInts] using hrow
    clear hx hrow
    go_enter Try.func28, Try.ntmps28
    go_wp2_with fail
    go_loopw [1, 5] (fun kv i wr => ∃ k : Nat, k ≤ n ∧ i = .int .i64 k ∧ kv = .int .i64 (k0 + k) ∧ w.grownBy wr (some g) ∧ RowIs wr g 3 (intCells (mkInts k0 k ++ xs.drop k) ++ rest)) (fun _ i _ => n - (intOf i).toNat)
    case atStart => exact ⟨0, Nat.zero_le _, rfl, by simp, World.grownBy.refl _ _, HST.out⟩
    case round =>
      clear HST
      obtain ⟨k, hk, rfl, rfl, hg, hrow⟩ := hrel
      by_cases hlt : k < n
      · have hr2 := row_setInt (v := k0 + k) (k := k) hrow (by simp [mkInts_len]; omega)
        rw [set_mid (mkInts_len k0 k) (by omega)] at hr2
        obtain ⟨v, hv⟩ : ∃ v, wr.cell? ⟨g, k, none⟩ = some v := ⟨_, hrow.cell (List.getElem?_eq_getElem (by simp [intCells, mkInts_len]; omega))⟩
        have hfz := hrow.frozen k
        have HR := Lib.hid hr2
        clear hrow hr2
        go_wp2_with fail
        go_roundw
        case rel => exact ⟨k + 1, by omega, by go_num, by first | (congr 1; omega) | go_num, hg.trans grown_set, HR.out⟩
        case measure => simp [intOf]; omega
      · obtain rfl : k = n := by omega
        have HF : Hid (RInts wr (some ⟨g, 0, none⟩) k (mkInts k0 k)) := RowIs.ints (rest := rest) (by simpa [List.drop_of_length_le (show xs.length ≤ k by omega)] using hrow) (mkInts_len _ _) hn
        clear hrow
        go_wp2_with fail
        go_ret
        exact ⟨rfl, HF.out, hg⟩

set_option maxRecDepth 100000 in
set_option maxHeartbeats 1000000 in
theorem markOpS_any (A : Option Addr) (n c : Nat) (xs : List OpV) (k0 : Int) (w0 w : World) (hx : FreshOps w0 w A n xs) (h0 : 0 ≤ k0) (h1 : k0 ≤ 1099511627776) :
    Calls Try.prog 27 #[.slice A n c, .int .i64 k0] w (MarkedOps A n k0 w) := by
  have hn := hx.1.2.1
  have hl := hx.1.1
  rcases Nat.eq_zero_or_pos n with hz | hz
  · subst hz
    clear hx
    go_enter Try.func27, Try.ntmps27
    go_wp2_with fail
    go_loopw [1, 5] (fun kv i wr => i = .int .i64 0 ∧ kv = .int .i64 k0 ∧ wr = w) (fun _ _ _ => 0)
    case atStart => exact ⟨rfl, rfl, rfl⟩
    case round =>
      obtain ⟨rfl, rfl, rfl⟩ := hrel
      go_wp2_with fail
      go_ret
      exact ⟨ret_int (by simp), ROps.nil, World.grownBy.refl _ _⟩
  · obtain ⟨g, rest, rfl, hge, hrow⟩ := hx.row hz
    have HST : Hid (RowIs w g 55 (opCells (mkOps k0 0 ++ xs.drop 0) ++ rest)) := by (show RowIs _ _ _ _); simpa [mkOps] using hrow
    clear hx hrow
    go_enter Try.func27, Try.ntmps27
    go_wp2_with fail
    go_loopw [1, 5] (fun kv i wr => ∃ k : Nat, k ≤ n ∧ i = .int .i64 k ∧ kv = .int .i64 (k0 + 3 * k) ∧ w.grownBy wr (some g) ∧ RowIs wr g 55 (opCells (mkOps k0 k ++ xs.drop k) ++ rest)) (fun _ i _ => n - (intOf i).toNat)
    case atStart => exact ⟨0, Nat.zero_le _, rfl, by simp, World.grownBy.refl _ _, HST.out⟩
    case round =>
      clear HST
      obtain ⟨k, hk, rfl, rfl, hg, hrow⟩ := hrel
      by_cases hlt : k < n
      · have hlen : (opCells (mkOps k0 k ++ xs.drop k)).length = n * 3 := by rw [length_opCells]; simp [mkOps_len]; omega
        have hr1 := hrow.set (k * 3) (.int .i64 (k0 + 3 * k))
        have hr2 := hr1.set (k * 3 + 1) (.int .i64 (k0 + 3 * k + 1))
        have hr3 := hr2.set (k * 3 + 2) (.int .i64 (k0 + 3 * k + 1 + 1))
        obtain ⟨v0, z0⟩ : ∃ v, wr.cell? ⟨g, k * 3, none⟩ = some v := ⟨_, hrow.cell (List.getElem?_eq_getElem (by simp [hlen]; omega))⟩
        obtain ⟨v1, z1⟩ : ∃ v, (wr.setCell ⟨g, k * 3, none⟩ (.int .i64 (k0 + 3 * k))).cell? ⟨g, k * 3 + 1, none⟩ = some v := ⟨_, hr1.cell (List.getElem?_eq_getElem (by simp [hlen]; omega))⟩
        obtain ⟨v2, z2⟩ : ∃ v, ((wr.setCell ⟨g, k * 3, none⟩ (.int .i64 (k0 + 3 * k))).setCell ⟨g, k * 3 + 1, none⟩ (.int .i64 (k0 + 3 * k + 1))).cell? ⟨g, k * 3 + 2, none⟩ = some v := ⟨_, hr2.cell (List.getElem?_eq_getElem (by simp [hlen]; omega))⟩
        have f0 := hrow.frozen (k * 3)
        have f1 := hr1.frozen (k * 3 + 1)
        have f2 := hr2.frozen (k * 3 + 2)
        have HR : Hid (RowIs (((wr.setCell ⟨g, k * 3, none⟩ (.int .i64 (k0 + 3 * k))).setCell ⟨g, k * 3 + 1, none⟩ (.int .i64 (k0 + 3 * k + 1))).setCell ⟨g, k * 3 + 2, none⟩ (.int .i64 (k0 + 3 * k + 1 + 1))) g 55 (opCells (mkOps k0 (k + 1) ++ xs.drop (k + 1)) ++ rest)) := by
          have h4 := hr3
          rw [List.set_append_left _ _ (by omega), List.set_append_left _ _ (by simp; omega), List.set_append_left _ _ (by simp; omega)] at h4
          have e := opCells_put (mkOps k0 k ++ xs.drop k) k ⟨k0 + 3 * k, k0 + 3 * k + 1, k0 + 3 * k + 1 + 1⟩
          rw [set_mid (mkOps_len k0 k) (by omega)] at e
          rw [← e] at h4
          have e2 : k0 + 3 * (k : Int) + 1 + 1 = k0 + 3 * k + 2 := by omega
          rw [e2] at h4
          rw [e2]
          exact h4
        clear hrow hr1 hr2 hr3 hlen
        go_wp2_with fail
        go_roundw
        case rel => exact ⟨k + 1, by omega, by go_num, by first | (congr 1; omega) | go_num, ((hg.trans grown_set).trans grown_set).trans grown_set, HR.out⟩
        case measure => simp [intOf]; omega
      · obtain rfl : k = n := by omega
        have HF : Hid (ROps wr (some ⟨g, 0, none⟩) k (mkOps k0 k)) := RowIs.ops (rest := rest) (by simpa [List.drop_of_length_le (show xs.length ≤ k by omega)] using hrow) (mkOps_len _ _) hn
        clear hrow
        go_wp2_with fail
        go_ret
        exact ⟨rfl, HF.out, hg⟩

set_option maxHeartbeats 400000 in
theorem heldIntS_any (A : Option Addr) (n c : Nat) (k0 : Int) (w : World) (hx : RInts w A n (mkInts k0 n)) (h0 : 0 ≤ k0) (h1 : k0 ≤ 1099511627776) :
    Calls Try.prog 34 #[.slice A n c, .int .i64 k0] w fun e w' => e = .returned (.int .i64 (k0 + n)) ∧ Below w.heap.size w w' := by
  have hn := hx.2.1
  have HX := Lib.hid hx
  clear hx
  go_enter Try.func34, Try.ntmps34
  go_wp2_with fail
  go_loop [1, 5] (fun kv i => ∃ k : Nat, k ≤ n ∧ i = .int .i64 k ∧ kv = .int .i64 (k0 + k)) (fun _ i => n - (intOf i).toNat)
  case atStart => exact ⟨0, Nat.zero_le _, rfl, by simp⟩
  case round =>
    obtain ⟨k, hk, rfl, rfl⟩ := hrel
    by_cases hlt : k < n
    · obtain ⟨b, off, y, rfl, hbl, ho, c0⟩ := HX.out.at_ hlt
      rw [mkInts_at k0 n k hlt] at ho
      injection ho with ho
      subst ho
      go_wp2_with fail
      go_round
      case rel => exact ⟨k + 1, by omega, by go_num, by first | (congr 1; omega) | go_num⟩
      case measure => simp [intOf]; omega
    · obtain rfl : k = n := by omega
      go_wp2_with fail
      go_ret
      exact ⟨rfl, Below.refl _ _⟩

set_option maxHeartbeats 400000 in
theorem heldOpS_any (A : Option Addr) (n c : Nat) (k0 : Int) (w : World) (hx : ROps w A n (mkOps k0 n)) (h0 : 0 ≤ k0) (h1 : k0 ≤ 1099511627776) :
    Calls Try.prog 29 #[.slice A n c, .int .i64 k0] w fun e w' => e = .returned (.int .i64 (k0 + 3 * n)) ∧ Below w.heap.size w w' := by
  have hn := hx.2.1
  have HX := Lib.hid hx
  clear hx
  go_enter Try.func29, Try.ntmps29
  go_wp2_with fail
  go_loop [1, 5] (fun kv i => ∃ k : Nat, k ≤ n ∧ i = .int .i64 k ∧ kv = .int .i64 (k0 + 3 * k)) (fun _ i => n - (intOf i).toNat)
  case atStart => exact ⟨0, Nat.zero_le _, rfl, by simp⟩
  case round =>
    obtain ⟨k, hk, rfl, rfl⟩ := hrel
    by_cases hlt : k < n
    · obtain ⟨b, off, y, rfl, hbl, ho, c0, c1, c2⟩ := HX.out.at_ hlt
      rw [mkOps_at k0 n k hlt] at ho
      injection ho with ho
      subst ho
      have e2 : k0 + 3 * (k : Int) + 2 = k0 + 3 * k + 1 + 1 := by omega
      simp only [e2] at c2
      go_wp2_with fail
      go_round
      case rel => exact ⟨k + 1, by omega, by go_num, by first | (congr 1; omega) | go_num⟩
      case measure => simp [intOf]; omega
    · obtain rfl : k = n := by omega
      go_wp2_with fail
      go_ret
      exact ⟨rfl, Below.refl _ _⟩
end Go.Proofs.Ytmookobaljcpbaa
namespace Go.Proofs.Ytmookobaljcpbaa
open Go.RowKit Go.BigFrame
set_option linter.unusedVariables false

theorem FreshOps.at_ {w0 w : World} {A : Option Addr} {n : Nat} {xs : List OpV} (h : FreshOps w0 w A n xs) : ∀ ad, A = some ad → w0.heap.size ≤ ad.block ∧ ad.block < w.heap.size := by
  intro ad had
  obtain ⟨b, cur, rfl, hge, hh, _⟩ := h.2 ad had
  exact ⟨hge, lt_of_block hh⟩
theorem FreshInts.at_ {w0 w : World} {A : Option Addr} {n : Nat} {xs : List Int} (h : FreshInts w0 w A n xs) : ∀ ad, A = some ad → w0.heap.size ≤ ad.block ∧ ad.block < w.heap.size := by
  intro ad had
  obtain ⟨b, cur, rfl, hge, hh, _⟩ := h.2 ad had
  exact ⟨hge, lt_of_block hh⟩
theorem FreshOps.below {w0 w w' : World} {A : Option Addr} {n : Nat} {xs : List OpV} (h : FreshOps w0 w A n xs) (hb : Below w.heap.size w w') : FreshOps w0 w' A n xs :=
  ⟨h.1.below hb (Nat.le_refl _), fun ad had => by obtain ⟨b, cur, e, hge, hh, hs⟩ := h.2 ad had; exact ⟨b, cur, e, hge, (hb.block b (lt_of_block hh)).trans hh, hs⟩⟩
theorem FreshInts.below {w0 w w' : World} {A : Option Addr} {n : Nat} {xs : List Int} (h : FreshInts w0 w A n xs) (hb : Below w.heap.size w w') : FreshInts w0 w' A n xs :=
  ⟨h.1.below hb (Nat.le_refl _), fun ad had => by obtain ⟨b, cur, e, hge, hh, hs⟩ := h.2 ad had; exact ⟨b, cur, e, hge, (hb.block b (lt_of_block hh)).trans hh, hs⟩⟩
/-- The block of one address is not that of the other. -/
def Apart (A B : Option Addr) : Prop := ∀ a b, A = some a → B = some b → a.block ≠ b.block
theorem Apart.row {A B : Option Addr} (h : Apart A B) : ∀ b, B = some b → A.map Addr.block ≠ some b.block := by
  intro b hb e
  cases A with
  | none => cases e
  | some a => injection e with e; exact h a b rfl hb e
theorem Apart.of_lt {A B : Option Addr} {k : Nat} (h1 : ∀ a, A = some a → k ≤ a.block) (h2 : ∀ b, B = some b → b.block < k) : Apart A B := fun a b ha hb e => by have := h1 a ha; have := h2 b hb; omega
theorem Apart.symm {A B : Option Addr} (h : Apart A B) : Apart B A := fun a b ha hb e => h b a hb ha e.symm
theorem FreshInts.grown {w0 w w' : World} {A : Option Addr} {n : Nat} {xs : List Int} {row : Option Nat} (h : FreshInts w0 w A n xs) (hg : w.grownBy w' row) (hne : ∀ b, A = some b → row ≠ some b.block) : FreshInts w0 w' A n xs :=
  ⟨h.1.grown hg hne, fun ad had => by obtain ⟨b, cur, e, hge, hh, hs⟩ := h.2 ad had; exact ⟨b, cur, e, hge, (hg.block b (lt_of_block hh) (fun e2 => hne _ had (by rw [← e2, e]))).trans hh, hs⟩⟩
theorem FreshOps.grown {w0 w w' : World} {A : Option Addr} {n : Nat} {xs : List OpV} {row : Option Nat} (h : FreshOps w0 w A n xs) (hg : w.grownBy w' row) (hne : ∀ b, A = some b → row ≠ some b.block) : FreshOps w0 w' A n xs :=
  ⟨h.1.grown hg hne, fun ad had => by obtain ⟨b, cur, e, hge, hh, hs⟩ := h.2 ad had; exact ⟨b, cur, e, hge, (hg.block b (lt_of_block hh) (fun e2 => hne _ had (by rw [← e2, e]))).trans hh, hs⟩⟩
theorem below_marked {w w1 w2 : World} {A : Option Addr} (h : Below w.heap.size w w1) (hg : w1.grownBy w2 (A.map Addr.block)) (hA : ∀ a, A = some a → w.heap.size ≤ a.block) : Below w.heap.size w w2 :=
  h.grown hg h.size fun k hk => by
    cases A with
    | none => cases hk
    | some a => injection hk with hk; rw [← hk]; exact hA a rfl
end Go.Proofs.Ytmookobaljcpbaa
namespace Go.Proofs.Ytmookobaljcpbaa
open Go.RowKit Go.BigFrame
set_option linter.unusedVariables false

set_option maxRecDepth 100000 in
set_option maxHeartbeats 1000000 in
theorem toIntS_any (A : Option Addr) (n c : Nat) (s : List Int) (w : World) (hx : RInts w A n s) (hm : n ≤ 1048576) :
    Calls Try.prog 24 #[.slice A n c] w (RetInts w s) := by
  have hl := hx.1
  have HX := Lib.hid hx
  clear hx
  obtain ⟨i0, hi, hz0, hz1, hz2⟩ := info_parts intInfo
  go_enter Try.func24, Try.ntmps24
  go_wp2_with (at_make; refine wpList_make_full _ rfl _ _ 28 rfl w.heap.size 3 i0 _ 1 Try.underlying28 hi hz0 hz1 .i64 .i64 _ _ n rfl rfl rfl rfl (by rw [hz2]; omega) (by unfold maxLen; omega) (Nat.le_refl _) ?_; intro w1 hown1 hg1)
  have hb1 : Below w.heap.size w w1 := ⟨hg1.os, hg1.tape, hg1.output, hg1.size, fun k hk => hg1.block k hk (by simp)⟩
  have hrow : RowIs w1 w.heap.size 3 (intCells (s.take 0 ++ List.replicate (n - 0) 0) ++ []) := by
    rcases hown1.2 with ⟨h1, _⟩ | ⟨g, cap, cur, h1, h2, h3, h4, h5, h6, h7⟩
    · cases h1
    · injection h1 with ha hb hc
      injection ha with ha
      injection ha with ha
      subst ha; subst hc
      unfold RowIs
      rw [h3]
      congr 2
      apply Array.ext'
      rw [List.take_of_length_le (by simpa using Nat.le_of_eq h6), made_ints] at h7
      rw [h7]; simp
  have HST := Lib.hid (And.intro hrow hb1)
  clear hown1 hb1 hg1 hrow hi hz0 hz1 hz2
  go_loopw [4] (fun i wr => ∃ k : Nat, k ≤ n ∧ i = .int .i64 k ∧ Below w.heap.size w wr ∧ RowIs wr w.heap.size 3 (intCells (s.take k ++ List.replicate (n - k) 0) ++ [])) (fun i _ => n - (intOf i).toNat)
  case atStart => exact ⟨0, Nat.zero_le _, rfl, HST.out.2, HST.out.1⟩
  case round =>
    clear HST
    obtain ⟨k, hk, rfl, hb, hrow⟩ := hrel
    by_cases hlt : k < n
    · obtain ⟨b, off, x, rfl, hbl, ho, c0⟩ := (HX.out.below hb (Nat.le_refl _)).at_ hlt
      have hs := hb.size
      have hr2 := row_setInt (v := x) (k := k) hrow (by simp; omega)
      rw [show n - k = (n - (k + 1)) + 1 by omega, set_snoc _ _ _ _ _ ho] at hr2
      obtain ⟨v, hv⟩ : ∃ v, wr.cell? ⟨w.heap.size, k, none⟩ = some v := ⟨_, hrow.cell (List.getElem?_eq_getElem (by simp [intCells]; omega))⟩
      have hfz := hrow.frozen k
      have HR := Lib.hid hr2
      clear hrow hr2 ho
      go_wp2_with fail
      go_roundw
      case rel => exact ⟨k + 1, by omega, by go_num, hb.grown (grown_set (g := w.heap.size)) hb.size (fun q hq => by injection hq with hq; omega), HR.out⟩
      case measure => simp [intOf]; omega
    · obtain rfl : k = n := by omega
      have e : s.take k ++ List.replicate (k - k) 0 = s := by rw [Nat.sub_self, List.take_of_length_le (by omega)]; simp
      rw [e] at hrow
      have hlt2 := hrow.lt
      have HO : Hid (RetInts w s (.returned (.slice (some ⟨w.heap.size, 0, none⟩) k k)) wr) := by
        refine RetInts.mk hl (Nat.le_refl _) ⟨hrow.ints hl (by omega), fun ad had => ?_⟩ hb
        injection had with had
        subst had
        exact ⟨_, _, rfl, Nat.le_refl _, hrow, by simp [intCells]; omega⟩
      clear hrow e
      go_wp2_with fail
      go_ret
      exact HO.out
end Go.Proofs.Ytmookobaljcpbaa
namespace Go.Proofs.Ytmookobaljcpbaa
open Go.RowKit Go.BigFrame
set_option linter.unusedVariables false

set_option maxRecDepth 100000 in
set_option maxHeartbeats 1500000 in
theorem exact_serialBy (A : Option Addr) (n c : Nat) (B : Option Addr) (m d : Nat) (w : World) (hin : OpsIn w A n c) (hin2 : IntsIn w B m d) :
    Calls Try.prog 5 #[.slice A n c, .slice B m d] w fun e w' => e = .returned (.bool true) ∧ Below w.heap.size w w' := by
  obtain ⟨hnc, hcm, hx0⟩ := hin
  obtain ⟨hmd, hdm, hy0⟩ := hin2
  unfold maxLen at hcm hdm
  by_cases hbm : 1048576 < m
  · clear hx0 hy0
    have hbmi : (1048576 : Int) < (m : Int) := by omega
    go_enter Try.func5, Try.ntmps5
    go_wp2_with fail
    go_ret
    exact ⟨rfl, Below.refl _ _⟩
  have hbmi : ¬ (1048576 : Int) < (m : Int) := by omega
  by_cases hbig : 1048576 < n
  · clear hx0 hy0
    go_enter Try.func5, Try.ntmps5
    go_wp2_with fail
    refine (szOpS_any A n c 1048576 w (by omega) (by omega) (by omega)).mono ?_
    rw [if_pos (by omega)]
    rintro e w1 ⟨rfl, rfl⟩
    go_wp2_with fail
    go_ret
    exact ⟨rfl, Below.refl _ _⟩
  · obtain ⟨s, hx⟩ := hx0 (by omega)
    obtain ⟨ts, hy, _⟩ := hy0 (by omega)
    have HX := Lib.hid hx
    have HY := Lib.hid hy
    obtain rfl : n = s.length := hx.1.symm
    obtain rfl : m = ts.length := hy.1.symm
    clear hx0 hx hy0 hy
    obtain ⟨ys, hys⟩ : ∃ ys, orNil (validS s && vordI s ts) (serialI s ts) = ys := ⟨_, rfl⟩
    have c1 : ∀ (W : World) (P Q : Option Addr) (p q : Nat), ROps W P s.length s → RInts W Q ts.length ts → s.length ≤ p → (∀ ad, Q = some ad → ad.block < W.heap.size) → Calls Try.prog 14 #[.slice P s.length p, .slice Q ts.length q] W (RetOps W ys) := fun W P Q p q h h2 hp hq => by
      have := SerialBy_any P Q _ p _ q s ts W h hp h2 hq; rw [hys] at this; exact this
    have c2 : ∀ (W : World) (P Q : Option Addr) (p q : Nat), ROps W P s.length s → RInts W Q ts.length ts → ts.length ≤ q → Calls Try.prog 22 #[.slice P s.length p, .slice Q ts.length q] W (RetOps W ys) := fun W P Q p q h h2 hq => by
      have := sSerialBy_any P Q _ p _ q s ts W h h2 hq; rw [serialBy_eq, hys] at this; exact this
    have c3 : ∀ (W : World), Below w.heap.size w W → Calls Try.prog 23 #[.slice A s.length c] W (RetOps W s) := fun W h => toOpS_any A s.length c s W (HX.out.below h (Nat.le_refl _)) (by omega)
    have c4 : ∀ (W : World), Below w.heap.size w W → Calls Try.prog 24 #[.slice B ts.length d] W (RetInts W ts) := fun W h => toIntS_any B ts.length d ts W (HY.out.below h (Nat.le_refl _)) (by omega)
    have C1 := Lib.hid c1
    have C2 := Lib.hid c2
    have C3 := Lib.hid c3
    have C4 := Lib.hid c4
    clear c1 c2 c3 c4 hys
    go_enter Try.func5, Try.ntmps5
    go_wp2_with fail
    refine (szOpS_any A s.length c 1048576 w (by omega) (by omega) (by omega)).mono ?_
    rw [if_neg (by omega)]
    rintro e w0 ⟨rfl, rfl⟩
    have hsz0 : ¬ ((1048576 : Int) - (s.length : Int) < 0) := by omega
    have hbw0 : Below w.heap.size w w := Below.refl _ _
    go_wp2_with fail
    refine (C3.out w hbw0).mono ?_
    rintro e w1 ⟨B1, d1, rfl, hd1, ⟨hr1, _⟩, hb1⟩
    have rb1 := Lib.hid hr1
    have hbw1 := hbw0.trans (hb1.mono hbw0.size)
    clear hr1 hb1 hbw0
    go_wp2_with fail
    refine (C4.out w1 hbw1).mono ?_
    rintro e w2 ⟨I1, g1, rfl, hg1, ⟨hr2, _⟩, hb2⟩
    have rb2 := Lib.hid (rb1.out.below hb2 (Nat.le_refl _))
    have ri2 := Lib.hid hr2
    have hbw2 := hbw1.trans (hb2.mono hbw1.size)
    clear hr2 hb2 hbw1 rb1
    go_wp2_with fail
    refine (C2.out w2 B1 I1 d1 g1 rb2.out ri2.out hg1).mono ?_
    rintro e w3 ⟨Y, dy, rfl, hdy, hfy, hb3⟩
    have hbw3 := hbw2.trans (hb3.mono hbw2.size)
    have hYlt : ∀ b, Y = some b → b.block < w3.heap.size := fun b hb => (hfy.at_ b hb).2
    have ry3 := Lib.hid hfy.1
    clear hfy hb3 hbw2 rb2 ri2
    go_wp2_with fail
    refine (C3.out w3 hbw3).mono ?_
    rintro e w4 ⟨X, dx, rfl, hdx, hfx, hb4⟩
    have hXge : ∀ a, X = some a → w3.heap.size ≤ a.block := fun a ha => (hfx.at_ a ha).1
    have hXlt : ∀ a, X = some a → a.block < w4.heap.size := fun a ha => (hfx.at_ a ha).2
    have hs34 := hb4.size
    have hwz3 := hbw3.size
    have hbw4 := hbw3.trans (hb4.mono hbw3.size)
    have ry4 := Lib.hid (ry3.out.below hb4 (Nat.le_refl _))
    clear ry3 hb4 hbw3
    have rx4 := Lib.hid hfx
    clear hfx
    go_wp2_with fail
    refine (C4.out w4 hbw4).mono ?_
    rintro e w5 ⟨Z, dz, rfl, hdz, hfz, hb5⟩
    have hZge : ∀ a, Z = some a → w4.heap.size ≤ a.block := fun a ha => (hfz.at_ a ha).1
    have hZlt : ∀ a, Z = some a → a.block < w5.heap.size := fun a ha => (hfz.at_ a ha).2
    have hs45 := hb5.size
    have hwz4 := hbw4.size
    have hbw5 := hbw4.trans (hb5.mono hbw4.size)
    have ry5 := Lib.hid (ry4.out.below hb5 (Nat.le_refl _))
    have rx5 := Lib.hid (rx4.out.below hb5)
    clear ry4 rx4 hb5 hbw4
    have rz5 := Lib.hid hfz
    have hzb := FreshInts.blk hfz
    clear hfz
    have HC1 := Lib.hid (C1.out w5 X Z dx dz rx5.out.1 rz5.out.1 hdx hzb)
    clear hzb
    go_wp2_with fail
    refine HC1.out.mono ?_
    clear HC1
    rintro e w6 ⟨G, dg, rfl, hdg, hfg, hb6⟩
    have hGge : ∀ a, G = some a → w5.heap.size ≤ a.block := fun a ha => (hfg.at_ a ha).1
    have hyl : ys.length ≤ 1099511627776 := hfg.1.2.1
    have hwz5 := hbw5.size
    have HXY : Hid (Apart X Y) := Apart.of_lt hXge hYlt
    have HZY : Hid (Apart Z Y) := Apart.of_lt hZge (fun b hb => Nat.lt_of_lt_of_le (hYlt b hb) hs34)
    have HZX : Hid (Apart Z X) := Apart.of_lt hZge hXlt
    have HGX : Hid (Apart G X) := Apart.of_lt hGge (fun b hb => Nat.lt_of_lt_of_le (hXlt b hb) hs45)
    have HGZ : Hid (Apart G Z) := Apart.of_lt hGge hZlt
    have HGY : Hid (Apart G Y) := Apart.of_lt hGge (fun b hb => Nat.lt_of_lt_of_le (hYlt b hb) (Nat.le_trans hs34 hs45))
    have HXw : Hid (∀ a, X = some a → w.heap.size ≤ a.block) := fun a ha => Nat.le_trans hwz3 (hXge a ha)
    have HZw : Hid (∀ a, Z = some a → w.heap.size ≤ a.block) := fun a ha => Nat.le_trans hwz4 (hZge a ha)
    have HGw : Hid (∀ a, G = some a → w.heap.size ≤ a.block) := fun a ha => Nat.le_trans hwz5 (hGge a ha)
    clear hYlt hXge hXlt hZge hZlt hGge hs34 hs45 hwz3 hwz4 hwz5
    have hbw6 := hbw5.trans (hb6.mono hbw5.size)
    have ry6 := Lib.hid (ry5.out.below hb6 (Nat.le_refl _))
    have rx6 := Lib.hid (rx5.out.below hb6)
    have rz6 := Lib.hid (rz5.out.below hb6)
    clear ry5 rx5 rz5 hb6 hbw5
    have rg6 := Lib.hid hfg
    clear hfg
    go_wp2_with fail
    refine (eqOpS_any G Y _ _ dg dy ys ys w6 rg6.out.1 ry6.out).mono ?_
    rw [beq_self_eq_true]
    rintro e w7 ⟨rfl, hb7⟩
    have hbw7 := hbw6.trans (hb7.mono hbw6.size)
    have ry7 := Lib.hid (ry6.out.below hb7 (Nat.le_refl _))
    have rx7 := Lib.hid (rx6.out.below hb7)
    have rz7 := Lib.hid (rz6.out.below hb7)
    have rg7 := Lib.hid (rg6.out.below hb7)
    clear ry6 rx6 rz6 rg6 hb7 hbw6
    go_wp2_with fail
    refine (C3.out w7 hbw7).mono ?_
    rintro e w8 ⟨V, dv, rfl, hdv, ⟨hr8, _⟩, hb8⟩
    have hbw8 := hbw7.trans (hb8.mono hbw7.size)
    have ry8 := Lib.hid (ry7.out.below hb8 (Nat.le_refl _))
    have rx8 := Lib.hid (rx7.out.below hb8)
    have rz8 := Lib.hid (rz7.out.below hb8)
    have rg8 := Lib.hid (rg7.out.below hb8)
    clear ry7 rx7 rz7 rg7 hb8 hbw7
    have rv8 := Lib.hid hr8
    clear hr8
    go_wp2_with fail
    refine (eqOpS_any X V _ _ dx dv s s w8 rx8.out.1 rv8.out).mono ?_
    rw [beq_self_eq_true]
    rintro e w9 ⟨rfl, hb9⟩
    have hbw9 := hbw8.trans (hb9.mono hbw8.size)
    have ry9 := Lib.hid (ry8.out.below hb9 (Nat.le_refl _))
    have rx9 := Lib.hid (rx8.out.below hb9)
    have rz9 := Lib.hid (rz8.out.below hb9)
    have rg9 := Lib.hid (rg8.out.below hb9)
    have rv9 := Lib.hid (rv8.out.below hb9 (Nat.le_refl _))
    clear ry8 rx8 rz8 rg8 rv8 hb9 hbw8
    clear rv9
    go_wp2_with fail
    refine (C4.out w9 hbw9).mono ?_
    rintro e w10 ⟨U, du, rfl, hdu, ⟨hr10, _⟩, hb10⟩
    have hbw10 := hbw9.trans (hb10.mono hbw9.size)
    have ry10 := Lib.hid (ry9.out.below hb10 (Nat.le_refl _))
    have rx10 := Lib.hid (rx9.out.below hb10)
    have rz10 := Lib.hid (rz9.out.below hb10)
    have rg10 := Lib.hid (rg9.out.below hb10)
    clear ry9 rx9 rz9 rg9 hb10 hbw9
    have ru10 := Lib.hid hr10
    clear hr10
    go_wp2_with fail
    refine (eqIntS_any Z U _ _ dz du ts ts w10 rz10.out.1 ru10.out).mono ?_
    rw [beq_self_eq_true]
    rintro e w11 ⟨rfl, hb11⟩
    have hbw11 := hbw10.trans (hb11.mono hbw10.size)
    have ry11 := Lib.hid (ry10.out.below hb11 (Nat.le_refl _))
    have rx11 := Lib.hid (rx10.out.below hb11)
    have rz11 := Lib.hid (rz10.out.below hb11)
    have rg11 := Lib.hid (rg10.out.below hb11)
    have ru11 := Lib.hid (ru10.out.below hb11 (Nat.le_refl _))
    clear ry10 rx10 rz10 rg10 ru10 hb11 hbw10
    clear ru11
    go_wp2_with fail
    refine (markOpS_any X s.length dx s 1 w3 w11 rx11.out (by omega) (by omega)).mono ?_
    rintro e w12 ⟨rfl, _, hg12⟩
    clear rx11
    have hbw12 := below_marked hbw11 hg12 HXw.out
    have ry12 := Lib.hid (ry11.out.grown hg12 HXY.out.row)
    have rz12 := Lib.hid (rz11.out.grown hg12 HZX.out.symm.row)
    have rg12 := Lib.hid (rg11.out.grown hg12 HGX.out.symm.row)
    clear ry11 rz11 rg11 hg12 hbw11
    go_wp2_with fail
    refine (markIntS_any Z ts.length dz ts (1 + 3 * (s.length : Int)) w4 w12 rz12.out (by omega) (by omega)).mono ?_
    rintro e w13 ⟨rfl, _, hg13⟩
    clear rz12
    have hbw13 := below_marked hbw12 hg13 HZw.out
    have ry13 := Lib.hid (ry12.out.grown hg13 HZY.out.row)
    have rg13 := Lib.hid (rg12.out.grown hg13 HGZ.out.symm.row)
    clear ry12 rg12 hg13 hbw12
    have hk0 : ¬ ((1 : Int) + 3 * (s.length : Int) + (ts.length : Int) < 0) := by omega
    go_wp2_with fail
    refine (eqOpS_any G Y _ _ dg dy ys ys w13 rg13.out.1 ry13.out).mono ?_
    rw [beq_self_eq_true]
    rintro e w14 ⟨rfl, hb14⟩
    have hbw14 := hbw13.trans (hb14.mono hbw13.size)
    have ry14 := Lib.hid (ry13.out.below hb14 (Nat.le_refl _))
    have rg14 := Lib.hid (rg13.out.below hb14)
    clear ry13 rg13 hb14 hbw13
    go_wp2_with fail
    refine (markOpS_any G ys.length dg ys 1 w5 w14 rg14.out (by omega) (by omega)).mono ?_
    rintro e w15 ⟨rfl, hm15, hg15⟩
    clear rg14
    have hbw15 := below_marked hbw14 hg15 HGw.out
    have ry15 := Lib.hid (ry14.out.grown hg15 HGY.out.row)
    clear ry14 hg15 hbw14
    have rm15 := Lib.hid hm15
    clear hm15
    go_wp2_with fail
    refine (heldOpS_any G ys.length dg 1 w15 rm15.out (by omega) (by omega)).mono ?_
    rintro e w16 ⟨rfl, hb16⟩
    have hbw16 := hbw15.trans (hb16.mono hbw15.size)
    have ry16 := Lib.hid (ry15.out.below hb16 (Nat.le_refl _))
    have rm16 := Lib.hid (rm15.out.below hb16 (Nat.le_refl _))
    clear ry15 rm15 hb16 hbw15
    have hq0 : ¬ ((1 : Int) + 3 * (ys.length : Int) < 0) := by omega
    go_wp2_with fail
    refine (C3.out w16 hbw16).mono ?_
    rintro e w17 ⟨P, dp, rfl, hdp, ⟨hr17, _⟩, hb17⟩
    have hbw17 := hbw16.trans (hb17.mono hbw16.size)
    have ry17 := Lib.hid (ry16.out.below hb17 (Nat.le_refl _))
    have rm17 := Lib.hid (rm16.out.below hb17 (Nat.le_refl _))
    clear ry16 rm16 hb17 hbw16
    have rp17 := Lib.hid hr17
    clear hr17
    go_wp2_with fail
    refine (C4.out w17 hbw17).mono ?_
    rintro e w18 ⟨Q, dq, rfl, hdq, hfq, hb18⟩
    have hbw18 := hbw17.trans (hb18.mono hbw17.size)
    have ry18 := Lib.hid (ry17.out.below hb18 (Nat.le_refl _))
    have rm18 := Lib.hid (rm17.out.below hb18 (Nat.le_refl _))
    have rp18 := Lib.hid (rp17.out.below hb18 (Nat.le_refl _))
    clear ry17 rm17 rp17 hb18 hbw17
    have HC1 := Lib.hid (C1.out w18 P Q dp dq rp18.out hfq.1 hdp (FreshInts.blk hfq))
    clear hfq
    clear rp18
    go_wp2_with fail
    refine HC1.out.mono ?_
    clear HC1
    rintro e w19 ⟨H, dh, rfl, hdh, ⟨hrh, _⟩, hb19⟩
    have hbw19 := hbw18.trans (hb19.mono hbw18.size)
    have ry19 := Lib.hid (ry18.out.below hb19 (Nat.le_refl _))
    have rm19 := Lib.hid (rm18.out.below hb19 (Nat.le_refl _))
    clear ry18 rm18 hb19 hbw18
    have rh19 := Lib.hid hrh
    clear hrh
    go_wp2_with fail
    refine (eqOpS_any H Y _ _ dh dy ys ys w19 rh19.out ry19.out).mono ?_
    rw [beq_self_eq_true]
    rintro e w20 ⟨rfl, hb20⟩
    have hbw20 := hbw19.trans (hb20.mono hbw19.size)
    have ry20 := Lib.hid (ry19.out.below hb20 (Nat.le_refl _))
    have rm20 := Lib.hid (rm19.out.below hb20 (Nat.le_refl _))
    have rh20 := Lib.hid (rh19.out.below hb20 (Nat.le_refl _))
    clear ry19 rm19 rh19 hb20 hbw19
    clear rh20
    clear ry20
    go_wp2_with fail
    refine (heldOpS_any G ys.length dg 1 w20 rm20.out (by omega) (by omega)).mono ?_
    rintro e w21 ⟨rfl, hb21⟩
    have hbw21 := hbw20.trans (hb21.mono hbw20.size)
    have rm21 := Lib.hid (rm20.out.below hb21 (Nat.le_refl _))
    clear rm20 hb21 hbw20
    go_wp2_with fail
    go_ret
    exact ⟨rfl, hbw21⟩

end Go.Proofs.Ytmookobaljcpbaa
