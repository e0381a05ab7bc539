/-
  Comparisons and marks of the statements that compare the program with the reference.
-/
import Derived.Test.YtddkjbibjjehjaaDoorEx0
import Derived.Test.YtddkjbibjjehjaaDoorLaw0
namespace Go.Proofs.YtddkjbibjjehjaaDoor
open Go.RowKit Go.BigFrame
set_option linter.unusedVariables false

set_option maxHeartbeats 1000000 in
theorem eqOpS_any (A B : Option Addr) (n m c d : Nat) (xs ys : List OpV) (w : World) (hx : ROps w A n xs) (hy : ROps w B m ys) :
    Calls Tryd.prog 8 #[.slice A n c, .slice B m d] w fun e w' => e = .returned (.bool (xs == ys)) ∧ Below w.heap.size w w' := by
  have hn := hx.2.1
  have hl := hx.1
  have hm := hy.2.1
  have hly := hy.1
  have HX := Lib.hid hx
  have HY := Lib.hid hy
  clear hx hy
  by_cases hnm : n = m
  · subst hnm
    go_enter Tryd.func8, Tryd.ntmps8
    go_wp2_with fail
    go_loopw [5] (fun i wr => ∃ k : Nat, k ≤ n ∧ i = .int .i64 k ∧ Below w.heap.size w wr ∧ ∀ j, j < k → xs[j]? = ys[j]?) (fun i _ => n - (intOf i).toNat)
    case atStart => exact ⟨0, Nat.zero_le _, rfl, Below.refl _ _, by omega⟩
    case round =>
      obtain ⟨k, hk, rfl, hb, hno⟩ := hrel
      by_cases hlt : k < n
      · obtain ⟨b, off, x, rfl, hbl, hox, c0, c1, c2⟩ := (HX.out.below hb (Nat.le_refl _)).at_ hlt
        obtain ⟨b', off', y, rfl, hbl', hoy, d0, d1, d2⟩ := (HY.out.below hb (Nat.le_refl _)).at_ hlt
        have HN : Hid (x = y → ∀ j, j < k + 1 → xs[j]? = ys[j]?) := fun h j hj => by
          by_cases e : j = k
          · subst e; rw [hox, hoy, h]
          · exact hno j (by omega)
        have HT : Hid (¬ x = y → (xs == ys) = false) := fun h => by
          rw [beq_eq_false_iff_ne]
          intro e
          rw [e, hoy] at hox
          injection hox with hox
          exact h hox.symm
        have L0 := Later.cell c0
        have L1 := Later.cell c1
        have L2 := Later.cell c2
        have M0 := Later.cell d0
        have M1 := Later.cell d1
        have M2 := Later.cell d2
        have hki : (k : Int) < (n : Int) := by omega
        obtain ⟨bb, hbb⟩ : ∃ bb, (x == y) = bb := ⟨_, rfl⟩
        have hC : ∀ u : Later wr, Calls Tryd.prog 21 #[.agg #[.int .i64 x.tx, .int .i64 x.kind, .int .i64 x.item], .agg #[.int .i64 y.tx, .int .i64 y.kind, .int .i64 y.item]] u.1 fun e w' => e = .returned (.bool bb) ∧ Below u.1.heap.size u.1 w' := fun u => by
          have := eqOp_any x y u.1; rw [hbb] at this; exact this
        have HC := Lib.hid hC
        have HB := Lib.hid hbb
        clear hno hox hoy c0 c1 c2 d0 d1 d2 hC hbb
        cases bb
        · have hs := Lib.hid (HT.out (by simpa using HB.out))
          obtain ⟨x0, x1, x2⟩ := x
          obtain ⟨y0, y1, y2⟩ := y
          go_wp2_with fail
          refine region_later (by kernel_rfl) (by kernel_rfl) ?_
          repeat (go_big_quiet_step ((go_at_call 21; exact later_call _ (HC.out _))))
          refine wpQuiet_nil ?_
          rintro _ ⟨u, rfl⟩
          have hbu := hb.trans (u.2.mono hb.size)
          go_wp2_with fail
          go_ret
          exact ⟨ret_bool hs.out.symm, hbu⟩
        · have hs := Lib.hid (HN.out (by simpa using HB.out))
          obtain ⟨x0, x1, x2⟩ := x
          obtain ⟨y0, y1, y2⟩ := y
          go_wp2_with fail
          refine region_later (by kernel_rfl) (by kernel_rfl) ?_
          repeat (go_big_quiet_step ((go_at_call 21; exact later_call _ (HC.out _))))
          refine wpQuiet_nil ?_
          rintro _ ⟨u, rfl⟩
          have hbu := hb.trans (u.2.mono hb.size)
          go_wp2_with fail
          go_roundw
          case rel => exact ⟨k + 1, by omega, by go_num, hbu, hs.out⟩
          case measure => simp [intOf]; omega
      · have hs : Hid ((xs == ys) = true) := by
          show _ = _
          rw [beq_iff_eq]
          exact eq_of_get (by omega) (fun j hj => hno j (by omega))
        clear hno
        go_wp2_with fail
        go_ret
        exact ⟨ret_bool hs.out.symm, hb⟩
  · have hs : Hid ((xs == ys) = false) := by
      show _ = _
      rw [beq_eq_false_iff_ne]
      intro e
      rw [e] at hl
      omega
    go_enter Tryd.func8, Tryd.ntmps8
    go_wp2_with fail
    go_ret
    exact ⟨ret_bool hs.out.symm, Below.refl _ _⟩

/-- The marks that are laid into a list. -/
def mkOps (k : Int) : Nat → List OpV
  | 0 => []
  | n + 1 => mkOps k n ++ [⟨k + 3 * n, k + 3 * n + 1, k + 3 * n + 2⟩]
def mkInts (k : Int) : Nat → List Int
  | 0 => []
  | n + 1 => mkInts k n ++ [k + n]
theorem mkOps_len (k : Int) (n : Nat) : (mkOps k n).length = n := by induction n with
  | zero => rfl
  | succ n ih => simp [mkOps, ih]
theorem mkInts_len (k : Int) (n : Nat) : (mkInts k n).length = n := by induction n with
  | zero => rfl
  | succ n ih => simp [mkInts, ih]
theorem mkOps_at (k : Int) (n : Nat) : ∀ i, i < n → (mkOps k n)[i]? = some ⟨k + 3 * i, k + 3 * i + 1, k + 3 * i + 2⟩ := by
  induction n with
  | zero => intro i h; omega
  | succ n ih =>
    intro i h
    simp only [mkOps]
    by_cases e : i = n
    · subst e; rw [List.getElem?_append_right (by rw [mkOps_len]; omega), mkOps_len]; simp
    · rw [List.getElem?_append_left (by rw [mkOps_len]; omega)]; exact ih i (by omega)
theorem mkInts_at (k : Int) (n : Nat) : ∀ i, i < n → (mkInts k n)[i]? = some (k + i) := by
  induction n with
  | zero => intro i h; omega
  | succ n ih =>
    intro i h
    simp only [mkInts]
    by_cases e : i = n
    · subst e; rw [List.getElem?_append_right (by rw [mkInts_len]; omega), mkInts_len]; simp
    · rw [List.getElem?_append_left (by rw [mkInts_len]; omega)]; exact ih i (by omega)
theorem set_mid {α : Type} {zs xs : List α} {k : Nat} (hl : zs.length = k) (hk : k < xs.length) (v : α) : (zs ++ xs.drop k).set k v = (zs ++ [v]) ++ xs.drop (k + 1) := by
  rw [List.set_append_right _ _ (by omega), hl, Nat.sub_self, List.drop_eq_getElem_cons hk, List.set_cons_zero, List.append_assoc]; rfl

def MarkedOps (A : Option Addr) (n : Nat) (k : Int) (w : World) (e : Ending) (w' : World) : Prop :=
  e = .returned (.int .i64 (k + 3 * n)) ∧ ROps w' A n (mkOps k n) ∧ w.grownBy w' (A.map Addr.block)
def MarkedInts (A : Option Addr) (n : Nat) (k : Int) (w : World) (e : Ending) (w' : World) : Prop :=
  e = .returned (.int .i64 (k + n)) ∧ RInts w' A n (mkInts k n) ∧ w.grownBy w' (A.map Addr.block)

set_option maxRecDepth 100000 in
set_option maxHeartbeats 1000000 in
theorem markOpS_any (A : Option Addr) (n c : Nat) (xs : List OpV) (k0 : Int) (w0 w : World) (hx : FreshOps w0 w A n xs) (h0 : 0 ≤ k0) (h1 : k0 ≤ 1099511627776) :
    Calls Tryd.prog 9 #[.slice A n c, .int .i64 k0] w (MarkedOps A n k0 w) := by
  have hn := hx.1.2.1
  have hl := hx.1.1
  rcases Nat.eq_zero_or_pos n with hz | hz
  · subst hz
    clear hx
    go_enter Tryd.func9, Tryd.ntmps9
    go_wp2_with fail
    go_loopw [1, 5] (fun kv i wr => i = .int .i64 0 ∧ kv = .int .i64 k0 ∧ wr = w) (fun _ _ _ => 0)
    case atStart => exact ⟨rfl, rfl, rfl⟩
    case round =>
      obtain ⟨rfl, rfl, rfl⟩ := hrel
      go_wp2_with fail
      go_ret
      exact ⟨ret_int (by simp), ROps.nil, World.grownBy.refl _ _⟩
  · obtain ⟨g, rest, rfl, hge, hrow⟩ := hx.row hz
    have HST : Hid (RowIs w g 38 (opCells (mkOps k0 0 ++ xs.drop 0) ++ rest)) := by (show RowIs _ _ _ _); simpa [mkOps] using hrow
    clear hx hrow
    go_enter Tryd.func9, Tryd.ntmps9
    go_wp2_with fail
    go_loopw [1, 5] (fun kv i wr => ∃ k : Nat, k ≤ n ∧ i = .int .i64 k ∧ kv = .int .i64 (k0 + 3 * k) ∧ w.grownBy wr (some g) ∧ RowIs wr g 38 (opCells (mkOps k0 k ++ xs.drop k) ++ rest)) (fun _ i _ => n - (intOf i).toNat)
    case atStart => exact ⟨0, Nat.zero_le _, rfl, by simp, World.grownBy.refl _ _, HST.out⟩
    case round =>
      clear HST
      obtain ⟨k, hk, rfl, rfl, hg, hrow⟩ := hrel
      by_cases hlt : k < n
      · have hlen : (opCells (mkOps k0 k ++ xs.drop k)).length = n * 3 := by rw [length_opCells]; simp [mkOps_len]; omega
        have hr1 := hrow.set (k * 3) (.int .i64 (k0 + 3 * k))
        have hr2 := hr1.set (k * 3 + 1) (.int .i64 (k0 + 3 * k + 1))
        have hr3 := hr2.set (k * 3 + 2) (.int .i64 (k0 + 3 * k + 1 + 1))
        obtain ⟨v0, z0⟩ : ∃ v, wr.cell? ⟨g, k * 3, none⟩ = some v := ⟨_, hrow.cell (List.getElem?_eq_getElem (by simp [hlen]; omega))⟩
        obtain ⟨v1, z1⟩ : ∃ v, (wr.setCell ⟨g, k * 3, none⟩ (.int .i64 (k0 + 3 * k))).cell? ⟨g, k * 3 + 1, none⟩ = some v := ⟨_, hr1.cell (List.getElem?_eq_getElem (by simp [hlen]; omega))⟩
        obtain ⟨v2, z2⟩ : ∃ v, ((wr.setCell ⟨g, k * 3, none⟩ (.int .i64 (k0 + 3 * k))).setCell ⟨g, k * 3 + 1, none⟩ (.int .i64 (k0 + 3 * k + 1))).cell? ⟨g, k * 3 + 2, none⟩ = some v := ⟨_, hr2.cell (List.getElem?_eq_getElem (by simp [hlen]; omega))⟩
        have f0 := hrow.frozen (k * 3)
        have f1 := hr1.frozen (k * 3 + 1)
        have f2 := hr2.frozen (k * 3 + 2)
        have HR : Hid (RowIs (((wr.setCell ⟨g, k * 3, none⟩ (.int .i64 (k0 + 3 * k))).setCell ⟨g, k * 3 + 1, none⟩ (.int .i64 (k0 + 3 * k + 1))).setCell ⟨g, k * 3 + 2, none⟩ (.int .i64 (k0 + 3 * k + 1 + 1))) g 38 (opCells (mkOps k0 (k + 1) ++ xs.drop (k + 1)) ++ rest)) := by
          have h4 := hr3
          rw [List.set_append_left _ _ (by omega), List.set_append_left _ _ (by simp; omega), List.set_append_left _ _ (by simp; omega)] at h4
          have e := opCells_put (mkOps k0 k ++ xs.drop k) k ⟨k0 + 3 * k, k0 + 3 * k + 1, k0 + 3 * k + 1 + 1⟩
          rw [set_mid (mkOps_len k0 k) (by omega)] at e
          rw [← e] at h4
          have e2 : k0 + 3 * (k : Int) + 1 + 1 = k0 + 3 * k + 2 := by omega
          rw [e2] at h4
          rw [e2]
          exact h4
        clear hrow hr1 hr2 hr3 hlen
        go_wp2_with fail
        go_roundw
        case rel => exact ⟨k + 1, by omega, by go_num, by first | (congr 1; omega) | go_num, ((hg.trans grown_set).trans grown_set).trans grown_set, HR.out⟩
        case measure => simp [intOf]; omega
      · obtain rfl : k = n := by omega
        have HF : Hid (ROps wr (some ⟨g, 0, none⟩) k (mkOps k0 k)) := RowIs.ops (rest := rest) (by simpa [List.drop_of_length_le (show xs.length ≤ k by omega)] using hrow) (mkOps_len _ _) hn
        clear hrow
        go_wp2_with fail
        go_ret
        exact ⟨rfl, HF.out, hg⟩

set_option maxHeartbeats 400000 in
theorem heldOpS_any (A : Option Addr) (n c : Nat) (k0 : Int) (w : World) (hx : ROps w A n (mkOps k0 n)) (h0 : 0 ≤ k0) (h1 : k0 ≤ 1099511627776) :
    Calls Tryd.prog 10 #[.slice A n c, .int .i64 k0] w fun e w' => e = .returned (.int .i64 (k0 + 3 * n)) ∧ Below w.heap.size w w' := by
  have hn := hx.2.1
  have HX := Lib.hid hx
  clear hx
  go_enter Tryd.func10, Tryd.ntmps10
  go_wp2_with fail
  go_loop [1, 5] (fun kv i => ∃ k : Nat, k ≤ n ∧ i = .int .i64 k ∧ kv = .int .i64 (k0 + 3 * k)) (fun _ i => n - (intOf i).toNat)
  case atStart => exact ⟨0, Nat.zero_le _, rfl, by simp⟩
  case round =>
    obtain ⟨k, hk, rfl, rfl⟩ := hrel
    by_cases hlt : k < n
    · obtain ⟨b, off, y, rfl, hbl, ho, c0, c1, c2⟩ := HX.out.at_ hlt
      rw [mkOps_at k0 n k hlt] at ho
      injection ho with ho
      subst ho
      have e2 : k0 + 3 * (k : Int) + 2 = k0 + 3 * k + 1 + 1 := by omega
      simp only [e2] at c2
      go_wp2_with fail
      go_round
      case rel => exact ⟨k + 1, by omega, by go_num, by first | (congr 1; omega) | go_num⟩
      case measure => simp [intOf]; omega
    · obtain rfl : k = n := by omega
      go_wp2_with fail
      go_ret
      exact ⟨rfl, Below.refl _ _⟩
end Go.Proofs.YtddkjbibjjehjaaDoor
