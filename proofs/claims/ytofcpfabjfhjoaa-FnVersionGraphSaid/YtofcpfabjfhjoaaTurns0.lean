/-
  The law's 'turns': whether a graph goes round.
-/
import Derived.Test.YtofcpfabjfhjoaaPlain7
import Derived.Test.YtofcpfabjfhjoaaOnly0
import Derived.Test.YtofcpfabjfhjoaaVg2
namespace Go.Proofs.Ytofcpfabjfhjoaa
open Go.RowKit Go.BigFrame
set_option linter.unusedVariables false

theorem rowsI_put (rows : List Nat) (i v : Nat) : rowsI (rows.set i v) = (rowsI rows).set i (v : Int) := by
  unfold rowsI
  rw [List.map_set]
theorem bits16 {rows : List Nat} (h : Rows4 rows) (i : Nat) : rows.getD i 0 < 16 := getD16 h i

/-- What the walk keeps: the rows in block g. -/
structure TwInv (w : World) (g : Nat) (rows : List Nat) (rest : List Value) (wr : World) : Prop where
  below : Below w.heap.size w wr
  row : RowIs wr g 3 (intCells (rowsI rows) ++ rest)
theorem TwInv.later {w wr W : World} {g : Nat} {rows : List Nat} {rest : List Value} (h : TwInv w g rows rest wr) (hb : Below wr.heap.size wr W) : TwInv w g rows rest W :=
  ⟨h.below.trans (hb.mono h.below.size), h.row.below hb (Nat.le_refl _)⟩
theorem TwInv.drew {w wr : World} {g : Nat} {rows : List Nat} {rest : List Value} (h : TwInv w g rows rest wr) : TwInv w g rows rest wr.drew := ⟨h.below.drew, h.row⟩
theorem TwInv.set {w wr : World} {g : Nat} {rows : List Nat} {rest : List Value} {i : Nat} (h : TwInv w g rows rest wr) (hge : w.heap.size ≤ g) (hi : i < 4) (h4 : Rows4 rows) (v : Nat) : TwInv w g (rows.set i v) rest (wr.setCell ⟨g, i, none⟩ (.int .i64 (v : Int))) := by
  refine ⟨h.below.setCell (by simpa using hge) _, ?_⟩
  rw [rowsI_put]
  exact row_setInt h.row (by simp [rowsI, h4.1]; omega)
theorem TwInv.at_ {w wr : World} {g : Nat} {rows : List Nat} {rest : List Value} (h : TwInv w g rows rest wr) (h4 : Rows4 rows) {T : Nat} (hT : T ≤ 3) : wr.cell? ⟨g, T, none⟩ = some (.int .i64 ((rows.getD T 0 : Nat) : Int)) ∧ wr.frozen? ⟨g, T, none⟩ = false ∧ rows.getD T 0 < 16 := by
  obtain ⟨h1, h2⟩ := rowsI_at h4 hT
  refine ⟨h.row.cell ?_, h.row.frozen T, h2⟩
  have hl : T < (intCells (rowsI rows)).length := by simp [intCells, rowsI, h4.1]; omega
  rw [List.getElem?_append_left hl]
  exact h1

set_option maxRecDepth 100000 in
set_option maxHeartbeats 2000000 in
theorem turns_any (A : Option Addr) (c : Nat) (rows : List Nat) (w : World) (hx : RInts w A 4 (rowsI rows)) (h4 : Rows4 rows) :
    Calls Try.prog 50 #[.slice A 4 c] w fun e w' => e = .returned (.bool (turnB rows)) ∧ Below w.heap.size w w' := by
  have HX := Lib.hid hx
  have H4 := Lib.hid h4
  have hgood : Hid (turnB rows = (List.range 4).any fun i => ((twOut rows 4).getD i 0).testBit i) := rfl
  have HST : Hid ((w.alloc (.cells #[] 3)).ownsRow w.heap.size 3 1 (.slice (some ⟨w.heap.size, 0, none⟩) 0 0) 0 (intCells [])) :=
    World.ownsRow_made w #[] 0 (Nat.le_refl _) (by decide) rfl
  have HX1 : Hid (RInts (w.alloc (.cells #[] 3)) A 4 (rowsI rows)) := hx.below ((Below.refl _ w).alloc (Nat.le_refl _) _) (Nat.le_refl _)
  clear hx h4
  go_enter Try.func50, Try.ntmps50
  go_wp2_with (at_builtin; refine app_ints (.tmp 7) (.tmp 8) HST.out (by simp) HX1.out (by omega) rfl rfl rfl rfl ?_; intro v1 w1 hown1 hg1 hat1)
  have hb1 : Below w.heap.size w w1 := Below.own ((Below.refl _ w).alloc (Nat.le_refl _) _) HST.out (Nat.le_refl _) hg1
  rw [List.nil_append] at hown1
  obtain ⟨A1, c1, rfl, hc1⟩ := own_form2 hown1
  have hfresh := FreshInts.of_own (w0 := w) hown1 (Nat.le_refl _) (by omega)
  obtain ⟨g, rest, hGA, hge, hrow⟩ := hfresh.row (by omega)
  subst hGA
  have HI0 : Hid (TwInv w g (twOut rows 0) rest w1) := ⟨hb1, hrow⟩
  clear hown1 hfresh hrow hg1 hat1 hb1 HST HX1 HX
  simp only [Nat.zero_add] at *
  go_wp2_with fail
  go_loopw [4] (fun i wr => ∃ k : Nat, k ≤ 4 ∧ i = .int .i64 k ∧ TwInv w g (twOut rows k) rest wr) (fun i _ => 4 - (intOf i).toNat)
  case atStart => exact ⟨0, Nat.zero_le _, rfl, HI0.out⟩
  case round =>
    clear HI0
    obtain ⟨wo, rfl⟩ : ∃ wo : World, wo = wr := ⟨_, rfl⟩
    obtain ⟨k, hk, rfl, hI⟩ := hrel
    by_cases hlt : k < 4
    · have hdk : decide ((k : Int) < 4) = true := by simp; omega
      have hR4 : Hid (Rows4 (twOut rows k)) := twOut_ok H4.out k
      have hgk : Hid (twOut rows (k + 1) = twIn k (twOut rows k) 4) := rfl
      generalize hR : twOut rows k = R at *
      have HI : Hid (TwInv w g (twIn k R 0) rest wo) := hI
      have HR := Lib.hid hR
      clear hI hR
      have hk4 : (k : Int) < 4 := by omega
      have hk0 : (0 : Int) ≤ (k : Int) := by omega
      go_wp2_with fail
      go_loopw [5] (fun i wr => ∃ q : Nat, q ≤ 4 ∧ i = .int .i64 q ∧ TwInv w g (twIn k R q) rest wr) (fun i _ => 4 - (intOf i).toNat)
      case atStart => exact ⟨0, Nat.zero_le _, rfl, HI.out⟩
      case round =>
        clear HI
        obtain ⟨wi, rfl⟩ : ∃ wi : World, wi = wr := ⟨_, rfl⟩
        obtain ⟨q, hq, rfl, hJ⟩ := hrel
        by_cases hlt2 : q < 4
        · have hdq : decide ((q : Int) < 4) = true := by simp; omega
          have hS4 : Rows4 (twIn k R q) := twIn_ok hR4.out q
          obtain ⟨hcq, hfq, hq16⟩ := hJ.at_ hS4 (T := q) (by omega)
          obtain ⟨hck, hfk, hk16⟩ := hJ.at_ hS4 (T := k) (by omega)
          have hst : twIn k R (q + 1) = if ((twIn k R q).getD q 0).testBit k then (twIn k R q).set q ((twIn k R q).getD q 0 ||| (twIn k R q).getD k 0) else twIn k R q := rfl
          obtain ⟨rq, hrq⟩ : ∃ r, (twIn k R q).getD q 0 = r := ⟨_, rfl⟩
          obtain ⟨rk, hrk⟩ : ∃ r, (twIn k R q).getD k 0 = r := ⟨_, rfl⟩
          rw [hrq] at hcq hq16 hst
          rw [hrk] at hck hk16 hst
          obtain ⟨bb, hbb⟩ : ∃ b, rq.testBit k = b := ⟨_, rfl⟩
          rw [hbb] at hst
          have HS := Lib.hid hst
          have HJ := Lib.hid hJ
          have HS4 := Lib.hid hS4
          have hB : Calls Try.prog 38 #[.int .i64 (rq : Int), .int .i64 (k : Int)] wi fun e w' => e = .returned (.int .i64 (if bb then 1 else 0)) ∧ wi = w' := by
            have := lbit_any rq k wi (by omega) (by omega); rw [hbb] at this; exact this
          have HB := Lib.hid hB
          have hor := or_nat rq rk (by omega) (by omega)
          have hq4 : (q : Int) < 4 := by omega
          have hq0 : (0 : Int) ≤ (q : Int) := by omega
          have hnw := World.new_ne wi _ hcq
          clear hJ hS4 hst hrq hrk hbb hB
          cases bb
          · go_wp2_with fail
            refine HB.out.mono ?_
            rintro e w5 ⟨rfl, rfl⟩
            go_wp2_with fail
            go_roundw
            case rel => exact ⟨q + 1, by omega, by go_num, by rw [HS.out]; exact HJ.out⟩
            case measure => simp [intOf]; omega
          · go_wp2_with fail
            refine HB.out.mono ?_
            rintro e w5 ⟨rfl, rfl⟩
            have HSET : Hid (TwInv w g (twIn k R (q + 1)) rest (wi.setCell ⟨g, q, none⟩ (.int .i64 ((rq ||| rk : Nat) : Int)))) := by
              show TwInv _ _ _ _ _
              rw [HS.out, if_pos (by first | rfl | trivial)]
              exact HJ.out.set hge hlt2 HS4.out _
            go_wp2_with fail
            go_region
            go_wp2_with fail
            go_roundw
            case rel => exact ⟨q + 1, by omega, by go_num, HSET.out.drew⟩
            case measure => simp [intOf]; omega
        · have e : q = 4 := by omega
          subst e
          rw [← hgk.out] at hJ
          have HJ := Lib.hid hJ
          clear hJ
          go_wp2_with fail
          go_roundw
          case rel => exact ⟨k + 1, by omega, by go_num, HJ.out⟩
          case measure => simp [intOf]; omega
    · have hdk : decide ((k : Int) < 4) = false := by simp; omega
      have hR4 : Hid (Rows4 (twOut rows k)) := twOut_ok H4.out k
      have hg2 : turnB rows = (List.range 4).any fun i => ((twOut rows k).getD i 0).testBit i := by
        have e : k = 4 := by omega
        rw [e]; exact hgood.out
      have hgood := Lib.hid hg2
      clear hg2
      generalize twOut rows k = R at *
      have HI := Lib.hid hI
      clear hI
      go_wp2_with fail
      go_loopw [6] (fun i wr => ∃ q : Nat, q ≤ 4 ∧ i = .int .i64 q ∧ TwInv w g R rest wr ∧ ∀ j, j < q → (R.getD j 0).testBit j = false) (fun i _ => 4 - (intOf i).toNat)
      case atStart => exact ⟨0, Nat.zero_le _, rfl, HI.out, by omega⟩
      case round =>
        clear HI
        obtain ⟨wi, rfl⟩ : ∃ wi : World, wi = wr := ⟨_, rfl⟩
        obtain ⟨q, hq, rfl, hJ, hno⟩ := hrel
        by_cases hlt2 : q < 4
        · have hdq : decide ((q : Int) < 4) = true := by simp; omega
          obtain ⟨hcq, hfq, hq16⟩ := hJ.at_ hR4.out (T := q) (by omega)
          obtain ⟨bb, hbb⟩ : ∃ b, (R.getD q 0).testBit q = b := ⟨_, rfl⟩
          have HT : Hid (bb = true → turnB rows = true) := by
            intro h
            rw [hgood.out]
            exact List.any_eq_true.2 ⟨q, List.mem_range.2 hlt2, by rw [hbb, h]⟩
          have HN : Hid (bb = false → ∀ j, j < q + 1 → (R.getD j 0).testBit j = false) := by
            intro h j hj
            by_cases e : j = q
            · subst e; rw [hbb, h]
            · exact hno j (by omega)
          have HJ := Lib.hid hJ
          have hB : Calls Try.prog 38 #[.int .i64 ((R.getD q 0 : Nat) : Int), .int .i64 (q : Int)] wi fun e w' => e = .returned (.int .i64 (if bb then 1 else 0)) ∧ wi = w' := by
            have := lbit_any (R.getD q 0) q wi (by omega) (by omega); rw [hbb] at this; exact this
          have HB := Lib.hid hB
          have hq4 : (q : Int) < 4 := by omega
          have hq0 : (0 : Int) ≤ (q : Int) := by omega
          generalize R.getD q 0 = rq at *
          clear hJ hno hbb hB
          cases bb
          · go_wp2_with fail
            refine HB.out.mono ?_
            rintro e w5 ⟨rfl, rfl⟩
            go_wp2_with fail
            go_roundw
            case rel => exact ⟨q + 1, by omega, by go_num, HJ.out, HN.out (by first | rfl | trivial)⟩
            case measure => simp [intOf]; omega
          · go_wp2_with fail
            refine HB.out.mono ?_
            rintro e w5 ⟨rfl, rfl⟩
            have hend := Lib.hid (HT.out (by first | rfl | trivial))
            go_wp2_with fail
            go_ret
            exact ⟨ret_bool hend.out.symm, HJ.out.below⟩
        · have hend : Hid (turnB rows = false) := by
            show _ = _
            rw [hgood.out, List.any_eq_false]
            intro j hj
            rw [hno j (by have := List.mem_range.1 hj; omega)]
            simp
          have HJ := Lib.hid hJ.below
          clear hJ hno
          go_wp2_with fail
          go_ret
          exact ⟨ret_bool hend.out.symm, HJ.out⟩
end Go.Proofs.Ytofcpfabjfhjoaa
