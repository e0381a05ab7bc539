/-
  Texts that the proof rests on, joined: part 30.
-/
import Derived.Test.YtcakjhappchlmaaSWx29
namespace Go.Proofs.Ytcakjhappchlmaa
open Go.RowKit Go.BigFrame
set_option linter.unusedVariables false

def initV (n : Nat) : List Int := List.replicate n (-1) ++ List.replicate (12 - n) 0
theorem initV_set {n : Nat} (h : n < 12) : (intCells (initV n)).set n (.int .i64 (-1)) = intCells (initV (n + 1)) := by
  have hlt : ∀ m : Nat, m < 12 → (intCells (initV m)).set m (.int .i64 (-1)) = intCells (initV (m + 1)) := by
    intro m hm
    rcases (by omega : m = 0 ∨ m = 1 ∨ m = 2 ∨ m = 3 ∨ m = 4 ∨ m = 5 ∨ m = 6 ∨ m = 7 ∨ m = 8 ∨ m = 9 ∨ m = 10 ∨ m = 11) with rfl | rfl | rfl | rfl | rfl | rfl | rfl | rfl | rfl | rfl | rfl | rfl <;> rfl
  exact hlt n h
theorem initV_len {n : Nat} (h : n ≤ 12) : (intCells (initV n)).length = 12 := by simp [intCells, initV]; omega
def TabPost (w : World) (st : List OpV) (e : Ending) (w' : World) : Prop := ∃ g, e = .returned (.pointer (some ⟨g, 0, none⟩)) ∧ w.heap.size ≤ g ∧ TblAt w' g st ∧ Below w.heap.size w w'
set_option maxRecDepth 100000 in
set_option maxHeartbeats 2000000 in
theorem tableOf_any (A : Option Addr) (n c : Nat) (st : List OpV) (w : World) (hx : ROps w A n st) (hv : ∀ s ∈ st, okStep s = true) :
    Calls Try.prog 79 #[.slice A n c] w (TabPost w st) := by
  have hn := hx.2.1
  have hl := hx.1
  have HX := Lib.hid hx
  have HV := Lib.hid hv
  clear hx hv
  go_enter Try.func79, Try.ntmps79
  go_wp2_with fail
  have HST : Hid (Below w.heap.size w (w.alloc (.cells (intCells (initV 0)).toArray 121)) ∧ RowIs (w.alloc (.cells (intCells (initV 0)).toArray 121)) w.heap.size 121 (intCells (initV 0))) := ⟨(Below.refl _ _).alloc (Nat.le_refl _) _, heap_alloc_new w _⟩
  go_loopw [10] (fun i wr => ∃ t : Nat, t ≤ 4 ∧ i = .int .i64 t ∧ Below w.heap.size w wr ∧ RowIs wr w.heap.size 121 (intCells (initV (t * 3)))) (fun i _ => 4 - (intOf i).toNat)
  case atStart => exact ⟨0, by omega, rfl, HST.out.1, HST.out.2⟩
  case round =>
    clear HST
    obtain ⟨t, ht, rfl, hb, hr⟩ := hrel
    by_cases hlt : t < 4
    · have ht4 : (t : Int) < 4 := by omega
      have ht0 : (0 : Int) ≤ (t : Int) := by omega
      have HST : Hid (Below w.heap.size w wr ∧ RowIs wr w.heap.size 121 (intCells (initV (t * 3 + 0)))) := ⟨hb, hr⟩
      clear hb hr
      go_wp2_with fail
      go_loopw [13] (fun i wr => ∃ x : Nat, x ≤ 3 ∧ i = .int .i64 x ∧ Below w.heap.size w wr ∧ RowIs wr w.heap.size 121 (intCells (initV (t * 3 + x)))) (fun i _ => 3 - (intOf i).toNat)
      case atStart => exact ⟨0, by omega, rfl, HST.out.1, HST.out.2⟩
      case round =>
        clear HST
        obtain ⟨x, hx, rfl, hb, hr⟩ := hrel
        by_cases hxlt : x < 3
        · have hx3 : (x : Int) < 3 := by omega
          have hx0 : (0 : Int) ≤ (x : Int) := by omega
          have hlen := initV_len (n := t * 3 + x) (by omega)
          have e : (intCells (initV (t * 3 + x)))[t * 3 + x]? = some ((intCells (initV (t * 3 + x)))[t * 3 + x]'(by omega)) := List.getElem?_eq_getElem (by omega)
          have hc := hr.cell e
          have hf := hr.frozen (t * 3 + x)
          have hset := hr.set (t * 3 + x) (.int .i64 (-1))
          rw [initV_set (by omega)] at hset
          have HP : Hid (Below w.heap.size w (wr.setCell ⟨w.heap.size, t * 3 + x, none⟩ (.int .i64 (-1))) ∧ _) := And.intro (hb.setCell (by simp) _) hset
          generalize (intCells (initV (t * 3 + x)))[t * 3 + x]'(by omega) = v0 at hc
          clear e hset hr hb hlen
          go_wp2_with fail
          go_roundw
          case rel => exact ⟨x + 1, by omega, by go_num, HP.out.1, HP.out.2⟩
          case measure => simp [intOf]; omega
        · have hx3 : x = 3 := by omega
          have HP : Hid (Below w.heap.size w wr ∧ RowIs wr w.heap.size 121 (intCells (initV ((t + 1) * 3)))) := ⟨hb, by rw [hx3, show t * 3 + 3 = (t + 1) * 3 by omega] at hr; exact hr⟩
          clear hb hr
          go_wp2_with fail
          go_roundw
          case rel => exact ⟨t + 1, by omega, by go_num, HP.out.1, HP.out.2⟩
          case measure => simp [intOf]; omega
    · have ht4 : t = 4 := by omega
      have hnt : ¬ ((t : Int) < 4) := by omega
      have hlt2 := Lib.hid hlt
      have ht2 := Lib.hid ht
      have HP : Hid (Below w.heap.size w wr ∧ TblAt wr w.heap.size (st.take 0)) := ⟨hb, by rw [ht4] at hr; exact hr⟩
      clear hb hr ht4 hlt ht
      go_wp2_with fail
      go_loopw [26] (fun i wr => ∃ k : Nat, k ≤ n ∧ i = .int .i64 k ∧ Below w.heap.size w wr ∧ TblAt wr w.heap.size (st.take k)) (fun i _ => n - (intOf i).toNat)
      case atStart => exact ⟨0, by omega, rfl, HP.out.1, HP.out.2⟩
      case round =>
        clear HP
        obtain ⟨k, hk, rfl, hb, hT⟩ := hrel
        by_cases hkl : k < n
        · obtain ⟨b, off, o, rfl, hbl, ho, c0, c1, c2⟩ := (HX.out.below hb (Nat.le_refl _)).at_ hkl
          have hok := HV.out o (List.mem_of_getElem? ho)
          have hts := take_snoc ho
          have HTS := Lib.hid hts
          have hbs := hb.size
          obtain ⟨W, hW⟩ : ∃ W : World, W = wr.alloc (.cells #[.int .i64 o.tx, .int .i64 o.kind, .int .i64 o.item] 31) := ⟨_, rfl⟩
          have hTW : TblAt W w.heap.size (st.take k) := by rw [hW]; exact hT.below ((Below.refl _ _).alloc (Nat.le_refl _) _)
          have HBW : Hid (Below w.heap.size w W) := by show Below _ _ _; rw [hW]; exact hb.alloc hbs _
          have hca := take_any w.heap.size (st.take k) o W hTW hok
          unfold OpV.val at hca
          have HCA := Lib.hid hca
          have HW := Lib.hid hW
          clear hca hW hTW hT hts ho hok
          obtain ⟨tx, kd, it⟩ := o
          simp only at c0 c1 c2 HCA HW
          have hki : (k : Int) < (n : Int) := by omega
          have hk0 : (0 : Int) ≤ (k : Int) := by omega
          have hkd : decide ((k : Int) < (n : Int)) = true := by simp; omega
          have hkd2 : decide (k < n) = true := by simp; omega
          go_wp2_with (go_at_call 83; go_loud (rw [← HW.out]; refine HCA.out.mono ?_; rintro e w2 ⟨rfl, hT2, hg2⟩; have hb2 := Below.grown HBW.out hg2 HBW.out.size (fun k hk => by injection hk with hk; omega); have HP2 := Lib.hid (And.intro hb2 hT2); clear hb2 hT2 hg2))
          go_roundw
          case rel => exact ⟨k + 1, by omega, by go_num, HP2.out.1, by rw [HTS.out]; exact HP2.out.2⟩
          case measure => simp [intOf]; omega
        · have HP : Hid (TabPost w st (.returned (.pointer (some ⟨w.heap.size, 0, none⟩))) wr) := ⟨_, rfl, Nat.le_refl _, by have e : st.take k = st := List.take_of_length_le (by omega); rw [e] at hT; exact hT, hb⟩
          clear hb hT
          go_wp2_with fail
          go_ret
          exact HP.out
end Go.Proofs.Ytcakjhappchlmaa
namespace Go.Proofs.Ytcakjhappchlmaa
open Go.RowKit Go.BigFrame
set_option linter.unusedVariables false

def othL (L : List OpV) (t x least : Int) : List Int := [0, 1, 2, 3].filter fun u => u != t && decide (least ≤ heldI L u x)
def othLTo (L : List OpV) (t x least : Int) (k : Nat) : List Int := ((List.range k).map fun i : Nat => (i : Int)).filter fun u => u != t && decide (least ≤ heldI L u x)
theorem othLTo_succ (L : List OpV) (t x least : Int) (k : Nat) : othLTo L t x least (k + 1) = othLTo L t x least k ++ if ((k : Int) != t && decide (least ≤ heldI L k x)) = true then [(k : Int)] else [] := by
  unfold othLTo
  rw [List.range_succ, List.map_append, List.filter_append]
  simp [List.filter_cons]
theorem othLTo_four (L : List OpV) (t x least : Int) : othLTo L t x least 4 = othL L t x least := rfl
set_option maxRecDepth 100000 in
set_option maxHeartbeats 2000000 in
theorem others_any (g : Nat) (L : List OpV) (t : Int) (X : Nat) (least : Int) (w : World) (h : TblAt w g L) (hX : X ≤ 2) :
    Calls Try.prog 123 #[.pointer (some ⟨g, 0, none⟩), .int .i64 t, .int .i64 (X : Int), .int .i64 least] w (RetInts w (othL L t (X : Int) least)) := by
  have hown0 := World.ownsRow_made (base := w.heap.size) (e := 3) (size := 1) w #[] 0 (Nat.le_refl _) (by decide) rfl
  have HST : Hid ((w.alloc (.cells #[] 3)).ownsRow w.heap.size 3 1 (.slice (some ⟨w.heap.size, 0, none⟩) 0 0) 0 (intCells (othLTo L t (X : Int) least 0)) ∧ Below w.heap.size w (w.alloc (.cells #[] 3))) := ⟨hown0, (Below.refl _ _).alloc (Nat.le_refl _) _⟩
  have H := Lib.hid h
  clear h hown0
  go_enter Try.func123, Try.ntmps123
  go_wp2_with fail
  go_loopw [9, 12] (fun ov i wr => ∃ (k m : Nat), k ≤ 4 ∧ m ≤ k ∧ i = .int .i64 k ∧ Below w.heap.size w wr ∧ wr.ownsRow w.heap.size 3 1 ov m (intCells (othLTo L t (X : Int) least k))) (fun _ i _ => 4 - (intOf i).toNat)
  case atStart => exact ⟨0, 0, by omega, Nat.le_refl _, rfl, HST.out.2, HST.out.1⟩
  case round =>
    clear HST
    obtain ⟨k, m, hk, hmk, rfl, hb, hown⟩ := hrel
    by_cases hlt : k < 4
    · have hs := hb.size
      have HT := Lib.hid (othLTo_succ L t (X : Int) least k)
      have hc := (H.out.below hb).cell (t := k) (x := X) (by omega) hX
      obtain ⟨v, hv⟩ : ∃ v, heldI L (k : Int) (X : Int) = v := ⟨_, rfl⟩
      rw [hv] at HT hc
      have hk4 : (k : Int) < 4 := by omega
      have hk0 : (0 : Int) ≤ (k : Int) := by omega
      have hX3 : (X : Int) < 3 := by omega
      have hX0 : (0 : Int) ≤ (X : Int) := by omega
      clear hv
      by_cases e1 : (k : Int) = t
      · subst e1
        go_wp2_with fail
        go_roundw
        case rel => exact ⟨k + 1, m, by omega, by omega, by go_num, hb, by rw [HT.out]; simpa using hown⟩
        case measure => simp [intOf]; omega
      · have hne : ((k : Int) != t) = true := by simp [e1]
        by_cases e2 : least ≤ v
        · go_wp2_with (at_builtin; go_loud (refine app_ints (.tmp 29) (.tmp 31) (hown.alloc _) (by simp; omega) (lit1 rfl _) (by omega) rfl rfl rfl rfl ?_; intro v3 w3 hown3 hg3 hat3))
          have hb3 := Below.own hb hown (Nat.le_refl _) (World.grownBy.trans (World.grownBy_alloc wr _ _) hg3)
          go_roundw
          case rel => exact ⟨k + 1, m + 1, by omega, by omega, by go_num, hb3, by rw [HT.out]; simpa [hne, e1, e2] using hown3⟩
          case measure => simp [intOf]; omega
        · have hdf : decide (least ≤ v) = false := by simp; omega
          go_wp2_with fail
          go_roundw
          case rel => exact ⟨k + 1, m, by omega, by omega, by go_num, hb, by rw [HT.out, hdf]; simpa using hown⟩
          case measure => simp [intOf]; omega
    · obtain ⟨Ao, co, rfl, hmc⟩ := own_form2 hown
      obtain rfl : k = 4 := by omega
      rw [othLTo_four] at hown
      have HO := Lib.hid (RetInts.mk (c := co) (own_lenInts hown) hmc (FreshInts.of_own hown (Nat.le_refl _) (by omega)) hb)
      clear hown
      go_wp2_with fail
      go_ret
      exact HO.out
end Go.Proofs.Ytcakjhappchlmaa
