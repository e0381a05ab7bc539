/-
  The reference reads an operation, and splits a text.
-/
import Derived.Test.YtddkjbibjjehjaaDoorTxR0
import Derived.Test.YtddkjbibjjehjaaDoorStr0
namespace Go.Proofs.YtddkjbibjjehjaaDoor
open Go.RowKit Go.BigFrame
set_option linter.unusedVariables false

theorem u8_lt (a b : UInt8) : (decide (a < b)) = decide ((a.toNat : Int) < (b.toNat : Int)) := by
  rw [decide_eq_decide, UInt8.lt_iff_toNat_lt]; omega
theorem u8_eq (a b : UInt8) : (a == b) = ((a.toNat : Int) == (b.toNat : Int)) := by
  rw [Bool.eq_iff_iff, beq_iff_eq, beq_iff_eq, ← UInt8.toNat_inj]; omega
/-- The reference's readOp: whatever the text. -/
theorem sreadOp_any (l : List UInt8) (w : World) : Calls Tryd.prog 34 #[.string ⟨⟨l⟩⟩] w fun e w' => e = .returned (rdL l).val ∧ Below w.heap.size w w' := by
  match l with
  | [] => exact sreadOp_short [] (by simp) w
  | [a] => exact sreadOp_short [a] (by simp) w
  | k :: t :: r =>
    by_cases ht : (t < 48 || 57 < t) = true
    · have e : rdL (k :: t :: r) = badOp := by dsimp only [rdL]; rw [if_pos ht]
      rw [e]
      refine sreadOp_digit k t r ?_ w
      simp only [Bool.or_eq_true, u8_lt, decide_eq_true_eq] at ht
      exact ht
    · have ht1 : ¬ (t.toNat : Int) < 48 := fun h => ht (by simp only [Bool.or_eq_true, u8_lt, decide_eq_true_eq]; exact .inl h)
      have ht2 : ¬ 57 < (t.toNat : Int) := fun h => ht (by simp only [Bool.or_eq_true, u8_lt, decide_eq_true_eq]; exact .inr h)
      by_cases h0 : k = 114
      · subst h0
        have e : rdL (114 :: t :: r) = accEnd ((t.toNat : Int) - 48) 0 r := by
          dsimp only [rdL]
          rw [if_neg ht, if_pos (by decide)]
          match r with
          | [] => rfl
          | _ :: _ :: _ => rfl
          | [x] =>
            unfold accEnd
            simp only [Bool.or_eq_true, u8_lt, decide_eq_true_eq]
            rfl
        rw [e]
        exact sreadOp_acc0 t r ht1 ht2 w
      · by_cases h1 : k = 119
        · subst h1
          have e : rdL (119 :: t :: r) = accEnd ((t.toNat : Int) - 48) 1 r := by
            dsimp only [rdL]
            rw [if_neg ht, if_pos (by decide)]
            match r with
            | [] => rfl
            | _ :: _ :: _ => rfl
            | [x] =>
              unfold accEnd
              simp only [Bool.or_eq_true, u8_lt, decide_eq_true_eq]
              rfl
          rw [e]
          exact sreadOp_acc1 t r ht1 ht2 w
        · have hn : ¬ (k == 114 || k == 119) = true := by simp [h0, h1]
          by_cases h2 : k = 99
          · subst h2
            have e : rdL (99 :: t :: r) = if r = [] then ⟨(t.toNat : Int) - 48, 2, 0⟩ else badOp := by
              dsimp only [rdL]
              rw [if_neg ht, if_neg hn, if_pos (by decide)]
              cases r <;> simp
            rw [e]
            exact sreadOp_end2 t r ht1 ht2 w
          · by_cases h3 : k = 97
            · subst h3
              have e : rdL (97 :: t :: r) = if r = [] then ⟨(t.toNat : Int) - 48, 3, 0⟩ else badOp := by
                dsimp only [rdL]
                rw [if_neg ht, if_neg hn, if_pos (by decide)]
                cases r <;> simp
              rw [e]
              exact sreadOp_end3 t r ht1 ht2 w
            · have hn2 : ¬ (k == 99 || k == 97) = true := by simp [h2, h3]
              have e : rdL (k :: t :: r) = badOp := by
                dsimp only [rdL]
                rw [if_neg ht, if_neg hn, if_neg hn2]
              rw [e]
              have f : ∀ c : UInt8, k ≠ c → ((k.toNat : Int) == (c.toNat : Int)) = false := fun c h => by rw [← u8_eq]; simpa using h
              exact sreadOp_kind k t r ht1 ht2 (f 114 h0) (f 119 h1) (f 99 h2) (f 97 h3) w

set_option maxRecDepth 100000 in
set_option maxHeartbeats 2000000 in
theorem splitAt_any (l : List UInt8) (d : UInt8) (w : World) (hn : l.length ≤ 1073741824) :
    Calls Tryd.prog 33 #[.string ⟨⟨l⟩⟩, .int .u8 (d.toNat : Int)] w (RetStrs w (splc d l)) := by
  have HST : Hid ((w.alloc (.cells #[] 9)).ownsRow w.heap.size 9 1 (.slice (some ⟨w.heap.size, 0, none⟩) 0 0) 0 (strCells [])) :=
    World.ownsRow_made w #[] 0 (Nat.le_refl _) (by decide) rfl
  obtain ⟨n, hl⟩ : ∃ n, l.length = n := ⟨_, rfl⟩
  have HL := Lib.hid hl
  have hsz : (⟨⟨l⟩⟩ : ByteArray).size = n := hl
  obtain ⟨s, hs⟩ : ∃ s : ByteArray, s = ⟨⟨l⟩⟩ := ⟨_, rfl⟩
  rw [← hs] at hsz ⊢
  rw [hl] at hn
  have HS := Lib.hid hs
  clear hl hs
  go_enter Tryd.func33, Tryd.ntmps33
  go_wp2_with fail
  go_loopw [5, 6, 7] (fun ov fv iv wr => ∃ (k f m : Nat) (out : List (List UInt8)), k ≤ n ∧ f ≤ k ∧ m ≤ k ∧ iv = .int .i64 k ∧ fv = .int .i64 f ∧ Hid (SplAt d l k out f) ∧ Below w.heap.size w wr ∧ wr.ownsRow w.heap.size 9 1 ov m (strCells out)) (fun _ _ i _ => n - (intOf i).toNat)
  case atStart => exact ⟨0, 0, 0, [], Nat.zero_le _, Nat.le_refl _, Nat.le_refl _, rfl, rfl, Lib.hid (splAt_start d l), (Below.refl _ _).alloc (Nat.le_refl _) _, HST.out⟩
  case round =>
    clear HST
    obtain ⟨k, f, m, out, hk, hf, hm, rfl, rfl, HP, hb, hown⟩ := hrel
    obtain ⟨Ao, co, rfl, hmc⟩ := own_form2 hown
    by_cases hlt : k < n
    · obtain ⟨x, hx⟩ : ∃ x, l[k]? = some x := ⟨_, List.getElem?_eq_getElem (by rw [HL.out]; exact hlt)⟩
      have e1 : ∀ h, s[k]'h = x := by
        intro h
        have hs := HS.out
        subst hs
        have := (List.getElem?_eq_some_iff.1 hx).2
        exact this
      have hlt2 : (k : Int) < (n : Int) := by omega
      have hlt3 : k < s.size := by omega
      have HXX := Lib.hid hx
      clear hx
      by_cases hxd : x = d
      · have HC := Lib.hid (splAt_cut HP.out (by rw [HXX.out, hxd]))
        have hxe : ((x.toNat : Int) == (d.toNat : Int)) = true := by rw [hxd]; simp
        have HCS : Hid (s.extract f k = ⟨⟨(l.drop f).take (k - f)⟩⟩) := by show _ = _; rw [HS.out]; exact cut_str l f k
        subst hxd
        go_wp2_with (at_builtin; refine app_strs (.tmp 20) (.tmp 25) (hown.alloc _) (by simp; have := hb.size; omega) (strLit1 rfl HCS.out) (by omega) rfl rfl rfl rfl ?_; intro v5 w5 hown5 hg5 hat5)
        have hb5 := Below.own hb hown (Nat.le_refl _) (World.grownBy.trans (World.grownBy_alloc wr _ _) hg5)
        go_wp2_with fail
        go_roundw
        case rel => exact ⟨k + 1, k + 1, m + 1, _, by omega, by omega, by omega, by go_num, by go_num, HC, hb5, hown5⟩
        case measure => simp [intOf]; omega
      · have HC := Lib.hid (splAt_on HP.out HXX.out hxd)
        have hxe : ((x.toNat : Int) == (d.toNat : Int)) = false := by rw [← u8_eq]; simpa using hxd
        go_wp2_with fail
        go_roundw
        case rel => exact ⟨k + 1, f, m, _, by omega, by omega, by omega, by go_num, rfl, HC, hb, hown⟩
        case measure => simp [intOf]; omega
    · obtain rfl : k = n := by omega
      have HE : Hid (splc d l = out ++ [l.drop f]) := by
        have h := HP.out
        rw [← HL.out] at h
        exact splAt_end h
      have HCS : Hid (s.extract f k = ⟨⟨l.drop f⟩⟩) := by
        show _ = _
        rw [HS.out, cut_str l f k, List.take_of_length_le (by rw [List.length_drop, HL.out]; exact Nat.le_refl _)]
      go_wp2_with (at_builtin; refine app_strs (.tmp 29) (.tmp 33) (hown.alloc _) (by simp; have := hb.size; omega) (strLit1 rfl HCS.out) (by omega) rfl rfl rfl rfl ?_; intro v5 w5 hown5 hg5 hat5)
      have hb5 := Below.own hb hown (Nat.le_refl _) (World.grownBy.trans (World.grownBy_alloc wr _ _) hg5)
      obtain ⟨A5, c5, rfl, hc5⟩ := own_form2 hown5
      have HR : Hid (RetStrs w (splc d l) (.returned (.slice A5 (m + 1) c5)) w5) := by
        show RetStrs _ _ _ _
        rw [HE.out]
        exact RetStrs.mk (own_lenStrs hown5) hc5 (RStrs.of_own hown5 (by omega)) (own_from hown5) hb5
      clear hown5 hg5 hb5
      go_wp2_with fail
      go_ret
      exact HR.out
end Go.Proofs.YtddkjbibjjehjaaDoor
