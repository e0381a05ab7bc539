/-
  The texts of schedules: the program's and the reference's.
-/
import Derived.Test.YtddkjbibjjehjaaDoorTx3
import Derived.Test.YtddkjbibjjehjaaDoorSched
import Derived.Test.YtddkjbibjjehjaaDoorGen6
import Derived.Test.YtddkjbibjjehjaaDoorShL0
namespace Go.Proofs.YtddkjbibjjehjaaDoor
open Go.RowKit Go.BigFrame
set_option linter.unusedVariables false

theorem schedL_nil : schedL [] = [] := rfl
theorem schedL_one {s : List OpV} {o : OpV} (h : s[0]? = some o) : schedL (s.take 1) = opL o := by
  cases s with
  | nil => simp at h
  | cons x r =>
    simp at h; subst h
    simp [schedL, Lib.join_one]
theorem schedL_snoc {s : List OpV} {k : Nat} {o : OpV} (hk : 0 < k) (h : s[k]? = some o) : schedL (s.take (k + 1)) = schedL (s.take k) ++ [44] ++ opL o := by
  cases s with
  | nil => simp at h
  | cons x r =>
    obtain ⟨j, rfl⟩ : ∃ j, k = j + 1 := ⟨k - 1, by omega⟩
    simp only [List.getElem?_cons_succ] at h
    unfold schedL
    simp only [List.take_succ_cons, List.map_cons, Lib.join_cons]
    have e : ∀ m, (r.take m).map opL = (r.map opL).take m := fun m => List.map_take ..
    rw [e, e, Lib.joinTail_take_succ _ _ _ (opL o) (by rw [List.getElem?_map, h]; rfl)]
    simp
theorem schedL_len (s : List OpV) : (schedL s).length ≤ 4 * s.length := by
  cases s with
  | nil => simp [schedL_nil]
  | cons x r =>
    unfold schedL
    rw [List.map_cons, Lib.join_length]
    have h : ∀ l : List OpV, Lib.lens (l.map opL) ≤ 3 * l.length := by
      intro l
      induction l with
      | nil => simp [Lib.lens]
      | cons y q ih =>
        have := (opL_len (o := y)).2
        simp [Lib.lens] at ih ⊢
        omega
    have h1 := h (x :: r)
    simp only [List.map_cons, List.length_cons, List.length_map, List.length_nil] at h1 ⊢
    omega
set_option maxRecDepth 100000 in
set_option maxHeartbeats 2000000 in
theorem sschedText_any (A : Option Addr) (n c : Nat) (s : List OpV) (w : World) (hx : ROps w A n s) (hok : OpsOk s) :
    Calls Tryd.prog 27 #[.slice A n c] w fun e w' => e = .returned (strV (schedL s)) ∧ Below w.heap.size w w' := by
  have hn := hx.2.1
  have hl := hx.1
  have HX := Lib.hid hx
  have HOK := Lib.hid hok
  have HL := Lib.hid hl
  clear hx hok hl
  go_enter Tryd.func27, Tryd.ntmps27
  go_wp2_with fail
  go_loopw [3, 4] (fun sv iv wr => ∃ (k : Nat) (T : ByteArray), k ≤ n ∧ iv = .int .i64 k ∧ sv = .string T ∧ Hid (T = ⟨⟨schedL (s.take k)⟩⟩) ∧ Below w.heap.size w wr) (fun _ i _ => n - (intOf i).toNat)
  case atStart => exact ⟨0, _, Nat.zero_le _, rfl, rfl, Lib.hid rfl, Below.refl _ _⟩
  case round =>
    obtain ⟨k, T, hk, rfl, rfl, HT, hb⟩ := hrel
    by_cases hlt : k < n
    · obtain ⟨b, off, o, rfl, hbl, ho, c0, c1, c2⟩ := (HX.out.below hb (Nat.le_refl _)).at_ hlt
      have HV := Lib.hid (stext_any (HOK.out o (List.mem_of_getElem? ho)))
      unfold OpV.val strV at HV
      have hlt2 : (k : Int) < (n : Int) := by omega
      obtain ⟨X, hX⟩ : ∃ X : ByteArray, X = ⟨⟨opL o⟩⟩ := ⟨_, rfl⟩
      rw [← hX] at HV
      have HXX := Lib.hid hX
      have hXs : X.size ≤ 3 := by rw [hX]; exact opL_len.2
      have hTs : T.size ≤ 4398046511104 := by
        rw [HT.out]
        have h1 := schedL_len (s.take k)
        have h2 : (s.take k).length ≤ k := by rw [List.length_take]; exact Nat.min_le_left _ _
        show (schedL (s.take k)).length ≤ _
        omega
      by_cases hk0 : k = 0
      · have HN : Hid (T ++ X = ⟨⟨schedL (s.take (k + 1))⟩⟩) := by
          show _ = _
          rw [HT.out, HXX.out, str_add]
          rw [hk0] at ho ⊢
          rw [schedL_one ho]
          simp [schedL_nil]
        have hz1 : decide ((0 : Int) < (k : Int)) = false := by simp; omega
        have hz2 : decide (0 < k) = false := by simp; omega
        clear hX ho HT hk0
        obtain ⟨tx, kd, it⟩ := o
        simp only at HV c0 c1 c2
        go_wp2_with (go_at_call 45; refine (HV.out _).mono ?_; rintro e w2 ⟨rfl, hb2⟩)
        go_roundw
        case rel => exact ⟨k + 1, _, by omega, by go_num, rfl, HN, hb.trans (hb2.mono hb.size)⟩
        case measure => simp [intOf]; omega
      · have hk1 : (0 : Int) < (k : Int) := by omega
        have hz1 : decide ((0 : Int) < (k : Int)) = true := by simp; omega
        have hz2 : decide (0 < k) = true := by simp; omega
        have HN : Hid (T ++ ⟨#[44]⟩ ++ X = ⟨⟨schedL (s.take (k + 1))⟩⟩) := by
          show _ = _
          rw [HT.out, HXX.out, schedL_snoc (by omega) ho]
          show ByteArray.mk ⟨_⟩ ++ ByteArray.mk ⟨[44]⟩ ++ ByteArray.mk ⟨_⟩ = _
          rw [str_add, str_add]
        clear hX ho HT
        obtain ⟨tx, kd, it⟩ := o
        simp only at HV c0 c1 c2
        go_wp2_with (go_at_call 45; refine (HV.out _).mono ?_; rintro e w2 ⟨rfl, hb2⟩)
        go_roundw
        case rel => exact ⟨k + 1, _, by omega, by go_num, rfl, HN, hb.trans (hb2.mono hb.size)⟩
        case measure => simp [intOf]; omega
    · obtain rfl : k = n := by omega
      have HE : Hid (T = ⟨⟨schedL s⟩⟩) := by
        show _ = _
        rw [HT.out, List.take_of_length_le (by rw [HL.out]; exact Nat.le_refl _)]
      go_wp2_with fail
      go_ret
      refine ⟨?_, hb⟩
      show Ending.returned (.string T) = _
      rw [HE.out]
def txtOf (s : List OpV) : List UInt8 := if validS s = true then schedL s else []
theorem valid_opsOk {s : List OpV} (h : validS s = true) : OpsOk s := ((validS_iff s).1 h).2.1
set_option maxRecDepth 100000 in
set_option maxHeartbeats 1000000 in
theorem sScheduleText_any (A : Option Addr) (n c : Nat) (s : List OpV) (w : World) (hx : ROps w A n s) :
    Calls Tryd.prog 13 #[.slice A n c] w fun e w' => e = .returned (strV (txtOf s)) ∧ Below w.heap.size w w' := by
  have HX := Lib.hid hx
  have HV := Lib.hid (svalid_any A n c s w hx)
  clear hx
  unfold txtOf
  cases hv : validS s
  · rw [hv] at HV
    clear hv
    go_enter Tryd.func13, Tryd.ntmps13
    go_wp2_with (go_at_call 26; refine HV.out.mono ?_; rintro e w1 ⟨rfl, hb1⟩)
    go_ret
    exact ⟨rfl, hb1⟩
  · rw [hv] at HV
    have HO := Lib.hid (valid_opsOk hv)
    clear hv
    rw [if_pos rfl]
    obtain ⟨T, hT⟩ : ∃ T, T = strV (schedL s) := ⟨_, rfl⟩
    rw [← hT]
    have HC : Hid (∀ w1, Below w.heap.size w w1 → Calls Tryd.prog 27 #[.slice A n c] w1 fun e w' => e = .returned T ∧ Below w1.heap.size w1 w') := fun w1 h => by
      rw [hT]; exact sschedText_any A n c s w1 (HX.out.below h (Nat.le_refl _)) HO.out
    clear hT
    go_enter Tryd.func13, Tryd.ntmps13
    go_wp2_with (first
      | (go_at_call 26; refine HV.out.mono ?_; rintro e w1 ⟨rfl, hb1⟩)
      | (go_at_call 27; refine (HC.out w1 hb1).mono ?_; rintro e w2 ⟨rfl, hb2⟩))
    go_ret
    exact ⟨rfl, hb1.trans (hb2.mono hb1.size)⟩
theorem Join_any (A : Option Addr) (n c : Nat) (xs : List (List UInt8)) (w : World) (hx : RStrs w A n xs) (hnc : n ≤ c) (hlen : (Lib.join xs [44]).length ≤ 140737488355328) :
    Calls Tryd.prog 25 #[.slice A n c, .string ⟨#[44]⟩] w fun e w' => e = .returned (strV (Lib.join xs [44])) ∧ Below w.heap.size w w' := by
  have hl := hx.1
  have hn := hx.2.1
  have hm : (xs.map fun x => (⟨⟨x⟩⟩ : ByteArray)).map (·.data.toList) = xs := by
    rw [List.map_map]; exact List.map_id _
  rcases Nat.eq_zero_or_pos n with h0 | h0
  · subst h0
    obtain rfl : xs = [] := List.eq_nil_of_length_eq_zero hl
    exact (Any.strings_Join_none shL156 shLX A c ⟨#[44]⟩ w).mono fun e w' ⟨he, hw⟩ => ⟨he, hw ▸ Below.refl _ _⟩
  · obtain ⟨b, off, rfl, hlt, hc⟩ := hx.2.2 h0
    have h := Any.strings_Join shL156 shLX b off c (xs.map fun x => (⟨⟨x⟩⟩ : ByteArray)) ⟨#[44]⟩ w (fun j x hj => by
      rw [List.getElem?_map, Option.map_eq_some_iff] at hj
      obtain ⟨y, hy, rfl⟩ := hj
      exact hc j y hy) hlt (by rw [List.length_map]; omega) (by rw [List.length_map]; omega) (by rw [hm]; exact hlen)
    rw [hm, List.length_map, hl] at h
    exact h
set_option maxRecDepth 100000 in
set_option maxHeartbeats 2000000 in
theorem ScheduleText_any (A : Option Addr) (n c : Nat) (s : List OpV) (w : World) (hx : ROps w A n s) (hnc : n ≤ c) :
    Calls Tryd.prog 12 #[.slice A n c] w fun e w' => e = .returned (strV (txtOf s)) ∧ Below w.heap.size w w' := by
  have HX := Lib.hid hx
  have hn := hx.2.1
  have hl := hx.1
  have HL := Lib.hid hl
  have HV := Lib.hid (ValidSchedule_any A n c s w hx hnc)
  clear hx
  unfold txtOf
  cases hv : validS s
  · rw [hv] at HV
    clear hv
    go_enter Tryd.func12, Tryd.ntmps12
    go_wp2_with (go_at_call 14; refine HV.out.mono ?_; rintro e w1 ⟨rfl, hb1⟩)
    go_ret
    exact ⟨rfl, hb1⟩
  · rw [hv] at HV
    have HO := Lib.hid (valid_opsOk hv)
    have hn16 : n ≤ 16 := by rw [← hl]; exact ((validS_iff s).1 hv).1
    clear hv hl
    rw [if_pos rfl]
    obtain ⟨i0, hi, hz0, hz1, hz2⟩ := info_parts strInfo
    obtain ⟨T, hT⟩ : ∃ T, T = strV (schedL s) := ⟨_, rfl⟩
    rw [← hT]
    have HT := Lib.hid hT
    clear hT
    go_enter Tryd.func12, Tryd.ntmps12
    go_wp2_with (first
      | (go_at_call 14; refine HV.out.mono ?_; rintro e w1 ⟨rfl, hb1⟩)
      | (at_make; refine wpList_make_own _ rfl _ _ 46 rfl w.heap.size 9 i0 _ 1 Tryd.underlying46 hi hz0 hz1 .i64 .i64 _ n rfl rfl rfl (by rw [hz2]; omega) (by unfold maxLen; omega) (by have := hb1.size; omega) ?_; intro w2 hown2 hg2))
    have hb2 : Below w.heap.size w w2 := hb1.trans (Below.mono (B := w1.heap.size) ⟨hg2.os, hg2.tape, hg2.output, hg2.size, fun k hk => hg2.block k hk (by simp)⟩ hb1.size)
    have HST := Lib.hid (And.intro hown2 hb2)
    clear hown2 hb2 hb1 hg2 hi hz0 hz1 hz2 HV
    go_loopw [3, 14] (fun ov i wr => ∃ (k : Nat), k ≤ n ∧ i = .int .i64 k ∧ Below w.heap.size w wr ∧ wr.ownsRow w.heap.size 9 1 ov k (strCells ((s.map opL).take k))) (fun _ i _ => n - (intOf i).toNat)
    case atStart => exact ⟨0, Nat.zero_le _, rfl, HST.out.2, HST.out.1⟩
    case round =>
      clear HST
      obtain ⟨k, hk, rfl, hb, hown⟩ := hrel
      obtain ⟨Ao, co, rfl, hmc⟩ := own_form2 hown
      by_cases hlt : k < n
      · obtain ⟨b, off, o, rfl, hbl, ho, c0, c1, c2⟩ := (HX.out.below hb (Nat.le_refl _)).at_ hlt
        have HVO := Lib.hid (text_any (HO.out o (List.mem_of_getElem? ho)))
        unfold OpV.val at HVO
        have HTK : Hid ((s.map opL).take (k + 1) = (s.map opL).take k ++ [opL o]) := take_snoc (by rw [List.getElem?_map, ho]; rfl)
        have hlt2 : (k : Int) < (n : Int) := by omega
        clear ho
        generalize opL o = x at *
        obtain ⟨tx, kd, it⟩ := o
        simp only at HVO c0 c1 c2
        go_wp2_with (first
          | (go_at_call 24; refine (HVO.out _).mono ?_; rintro e w2 ⟨rfl, hb2⟩; have hb2' : Below wr.heap.size wr w2 := Below.trans ((Below.refl _ _).alloc (Nat.le_refl _) _) (hb2.mono (by simp)); have hown2 := own_below hown hb2')
          | (at_builtin; refine app_strs (.tmp 18) (.tmp 21) (hown2.alloc _) (by simp; have := hb.size; have := hb2'.size; omega) (strLit1 rfl rfl) (by omega) rfl rfl rfl rfl ?_; intro v5 w5 hown5 hg5 hat5))
        have hb5 := Below.own (hb.trans (hb2'.mono hb.size)) hown2 (Nat.le_refl _) (World.grownBy.trans (World.grownBy_alloc w2 _ _) hg5)
        go_wp2_with fail
        go_roundw
        case rel => exact ⟨k + 1, by omega, by go_num, hb5, by rw [HTK.out]; exact hown5⟩
        case measure => simp [intOf]; omega
      · obtain rfl : k = n := by omega
        have hall : (s.map opL).take k = s.map opL := List.take_of_length_le (by rw [List.length_map, HL.out]; exact Nat.le_refl _)
        rw [hall] at hown
        have HJ := Join_any Ao k co (s.map opL) wr (RStrs.of_own hown (by omega)) hmc (by have h := schedL_len s; unfold schedL at h; rw [HL.out] at h; omega)
        have HJJ : Hid (Calls Tryd.prog 25 #[.slice Ao k co, .string ⟨#[44]⟩] wr fun e w' => e = .returned T ∧ Below wr.heap.size wr w') := by
          show Calls _ _ _ _ _
          rw [HT.out]; exact HJ
        clear hown hall HJ
        go_wp2_with (go_at_call 25; refine HJJ.out.mono ?_; rintro e w2 ⟨rfl, hb2⟩)
        go_ret
        exact ⟨rfl, hb.trans (hb2.mono hb.size)⟩
end Go.Proofs.YtddkjbibjjehjaaDoor
