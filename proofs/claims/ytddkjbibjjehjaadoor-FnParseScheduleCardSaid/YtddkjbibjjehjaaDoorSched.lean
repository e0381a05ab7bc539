/-
  What is a schedule: ValidSchedule of the program and of the reference compute one function.
-/
import Derived.Test.YtddkjbibjjehjaaDoorValid
namespace Go.Proofs.YtddkjbibjjehjaaDoor
open Go.RowKit Go.BigFrame
set_option linter.unusedVariables false

def noEnd (s : List OpV) (t : Int) : Bool := s.all fun o => !(o.tx == t && isEnd o)
def goodAt (s : List OpV) (i : Nat) : Bool := match s[i]? with | some o => validOp o && noEnd (s.take i) o.tx | none => true
def validS (s : List OpV) : Bool := decide (s.length ≤ 16) && (List.range s.length).all (goodAt s)

theorem isEnd_kind {o : OpV} (h : isEnd o = true) : o.kind = 2 ∨ o.kind = 3 := by simpa [isEnd] using h
theorem endOf_cases (s : List OpV) (t : Int) : (endOf s t = -1 ∧ noEnd s t = true) ∨ ((endOf s t = 2 ∨ endOf s t = 3) ∧ noEnd s t = false) := by
  unfold endOf noEnd
  cases h : s.find? (fun o => o.tx == t && isEnd o) with
  | none =>
    refine .inl ⟨rfl, ?_⟩
    rw [List.find?_eq_none] at h
    rw [List.all_eq_true]
    intro o ho
    have := h o ho
    by_cases h1 : o.tx = t <;> simp_all
  | some o =>
    have h1 := List.find?_some h
    have h2 := List.mem_of_find?_eq_some h
    refine .inr ⟨?_, ?_⟩
    · simp only [Bool.and_eq_true] at h1
      simpa using isEnd_kind h1.2
    · rw [List.all_eq_false]
      exact ⟨o, h2, by simpa using h1⟩
theorem endOf_hit (s : List OpV) (t : Int) (k : Nat) (o : OpV) (ho : s[k]? = some o) (hno : ∀ j, j < k → ∀ o, s[j]? = some o → (o.tx == t && isEnd o) = false) (h : (o.tx == t && isEnd o) = true) : endOf s t = o.kind := by
  have e : s.find? (fun o => o.tx == t && isEnd o) = some o := by
    rw [List.find?_eq_some_iff_getElem]
    obtain ⟨hk, he⟩ := List.getElem?_eq_some_iff.1 ho
    refine ⟨h, k, hk, he, fun j hj => ?_⟩
    have := hno j hj _ (List.getElem?_eq_getElem (by omega))
    rw [this]; rfl
  unfold endOf
  rw [e]; rfl
theorem endOf_none (s : List OpV) (t : Int) (hno : ∀ j, j < s.length → ∀ o, s[j]? = some o → (o.tx == t && isEnd o) = false) : endOf s t = -1 := by
  have e : s.find? (fun o => o.tx == t && isEnd o) = none := by
    rw [List.find?_eq_none]
    intro o ho
    obtain ⟨j, hj⟩ := List.mem_iff_getElem?.1 ho
    have hl : j < s.length := by
      rcases Nat.lt_or_ge j s.length with h | h
      · exact h
      · rw [List.getElem?_eq_none h] at hj; cases hj
    rw [hno j hl o hj]; simp
  unfold endOf
  rw [e]; rfl
theorem no_snoc {α : Type} {s : List α} {p : α → Bool} {k : Nat} {o : α} (ho : s[k]? = some o) (hno : ∀ j, j < k → ∀ o, s[j]? = some o → p o = false) (h : p o = false) :
    ∀ j, j < k + 1 → ∀ o, s[j]? = some o → p o = false := by
  intro j hj o' ho'
  by_cases e : j = k
  · subst e; rw [ho] at ho'; cases ho'; exact h
  · exact hno j (by omega) o' ho'

set_option maxHeartbeats 400000 in
theorem endOf_any (A : Option Addr) (n c : Nat) (s : List OpV) (t : Int) (w : World) (hx : ROps w A n s) :
    Calls Tryd.prog 29 #[.slice A n c, .int .i64 t] w fun e w' => e = .returned (.int .i64 (endOf s t)) ∧ Below w.heap.size w w' := by
  have hn := hx.2.1
  have hl := hx.1
  have HX := Lib.hid hx
  clear hx
  go_enter Tryd.func29, Tryd.ntmps29
  go_wp2
  go_loopw [9] (fun i wr => ∃ k : Nat, k ≤ n ∧ i = .int .i64 k ∧ Below w.heap.size w wr ∧ (∀ j, j < k → ∀ o, s[j]? = some o → (o.tx == t && isEnd o) = false)) (fun i _ => n - (intOf i).toNat)
  case atStart => exact ⟨0, Nat.zero_le _, rfl, Below.refl _ _, by omega⟩
  case round =>
    obtain ⟨k, hk, rfl, hb, hno⟩ := hrel
    by_cases hlt : k < n
    · obtain ⟨b, off, o, rfl, hbl, ho, c0, c1, c2⟩ := (HX.out.below hb (Nat.le_refl _)).at_ hlt
      have HT : Hid ((o.tx == t && isEnd o) = true → endOf s t = o.kind) := fun h => endOf_hit s t k o ho hno h
      have HN : Hid ((o.tx == t && isEnd o) = false → ∀ j, j < k + 1 → ∀ o, s[j]? = some o → (o.tx == t && isEnd o) = false) := fun h => no_snoc ho hno h
      clear hno ho
      obtain ⟨tx, kd, it⟩ := o
      by_cases h1 : tx = t
      · subst h1
        cases h2 : isEnd ⟨tx, kd, it⟩
        all_goals
          go_wp2_with (go_at_call 46; refine (ends_any ⟨tx, kd, it⟩ _).mono ?_; rintro e w' ⟨rfl, hb2⟩; obtain ⟨bc2, bf2⟩ := bcell hb2; have hsz : wr.heap.size < w'.heap.size := by (have := hb2.size; (try simp at this); omega))
        · go_roundw
          case rel => exact ⟨k + 1, by omega, by go_num, hb.trans ((by (repeat (first | exact Below.refl _ _ | assumption | refine B_alloc ?_ (Nat.le_refl _) _ | refine Below.drew ?_ | refine B_drewN ?_ _ | refine B_after (by assumption) ?_ | (refine B_set ?_ ?_; rotate_left; (first | exact Nat.le_refl _ | (simp; done) | (simp at *; omega))))) : Below wr.heap.size wr _).mono hb.size), HN.out (by simp [h2])⟩
          case measure => simp [intOf]; omega
        · go_ret
          exact ⟨ret_int (HT.out (by simp [h2])).symm, hb.trans ((by (repeat (first | exact Below.refl _ _ | assumption | refine B_alloc ?_ (Nat.le_refl _) _ | refine Below.drew ?_ | refine B_drewN ?_ _ | refine B_after (by assumption) ?_ | (refine B_set ?_ ?_; rotate_left; (first | exact Nat.le_refl _ | (simp; done) | (simp at *; omega))))) : Below wr.heap.size wr _).mono hb.size)⟩
      · go_wp2_with fail
        go_roundw
        case rel => exact ⟨k + 1, by omega, by go_num, hb.trans ((by (repeat (first | exact Below.refl _ _ | assumption | refine B_alloc ?_ (Nat.le_refl _) _ | refine Below.drew ?_ | refine B_drewN ?_ _ | refine B_after (by assumption) ?_ | (refine B_set ?_ ?_; rotate_left; (first | exact Nat.le_refl _ | (simp; done) | (simp at *; omega))))) : Below wr.heap.size wr _).mono hb.size), HN.out (by simp [h1])⟩
        case measure => simp [intOf]; omega
    · have HE := Lib.hid (endOf_none s t (fun j hj => hno j (by omega)))
      clear hno
      go_wp2_with fail
      go_ret
      exact ⟨ret_int HE.out.symm, hb⟩

theorem all_snoc {p : Nat → Bool} {k : Nat} (h : ∀ j, j < k → p j = true) (hk : p k = true) : ∀ j, j < k + 1 → p j = true := fun j hj => by
  by_cases e : j = k
  · subst e; exact hk
  · exact h j (by omega)
theorem validS_bad {s : List OpV} {k : Nat} (hk : k < s.length) (h : goodAt s k = false) : validS s = false := by
  unfold validS
  have : (List.range s.length).all (goodAt s) = false := by
    rw [List.all_eq_false]
    exact ⟨k, List.mem_range.2 hk, by simp [h]⟩
  rw [this, Bool.and_false]
theorem validS_end {s : List OpV} (h : ∀ j, j < s.length → goodAt s j = true) : validS s = decide (s.length ≤ 16) := by
  unfold validS
  have : (List.range s.length).all (goodAt s) = true := by
    rw [List.all_eq_true]
    intro j hj
    exact h j (List.mem_range.1 hj)
  rw [this, Bool.and_true]

set_option maxHeartbeats 1000000 in
theorem ValidSchedule_any (A : Option Addr) (n c : Nat) (s : List OpV) (w : World) (hx : ROps w A n s) (hnc : n ≤ c) :
    Calls Tryd.prog 14 #[.slice A n c] w fun e w' => e = .returned (.bool (validS s)) ∧ Below w.heap.size w w' := by
  have hn := hx.2.1
  have hl := hx.1
  have HX := Lib.hid hx
  clear hx
  go_enter Tryd.func14, Tryd.ntmps14
  go_wp2
  go_loopw [7] (fun i wr => ∃ k : Nat, k ≤ n ∧ i = .int .i64 k ∧ Below w.heap.size w wr ∧ (∀ j, j < k → goodAt s j = true)) (fun i _ => n - (intOf i).toNat)
  case atStart => exact ⟨0, Nat.zero_le _, rfl, Below.refl _ _, by omega⟩
  case round =>
    obtain ⟨k, hk, rfl, hb, hno⟩ := hrel
    by_cases hlt : k < n
    · have hxr := HX.out.below hb (Nat.le_refl _)
      obtain ⟨b, off, o, rfl, hbl, ho, c0, c1, c2⟩ := hxr.at_ hlt
      have HX2 := Lib.hid hxr
      have hg : goodAt s k = (validOp o && noEnd (s.take k) o.tx) := by unfold goodAt; rw [ho]
      have hec := endOf_cases (s.take k) o.tx
      obtain ⟨ev, he⟩ : ∃ ev, endOf (s.take k) o.tx = ev := ⟨_, rfl⟩
      rw [he] at hec
      have HE := Lib.hid he
      clear he ho hxr
      cases hv : validOp o
      · have HB := Lib.hid (validS_bad (s := s) (k := k) (by omega) (by rw [hg, hv]; rfl))
        clear hg hec
        obtain ⟨tx, kd, it⟩ := o
        have hv' : ∀ W : World, Calls Tryd.prog 28 #[.agg #[.int .i64 tx, .int .i64 kd, .int .i64 it]] W fun e w' => e = .returned (.bool false) ∧ Below W.heap.size W w' := fun W => by
          have := valid_any ⟨tx, kd, it⟩ W; rw [hv] at this; exact this
        have HV := Lib.hid hv'
        clear hv hv'
        go_wp2_with fail
        obtain ⟨W, hW⟩ : ∃ W : World, W = wr.alloc (.cells #[.int .i64 tx, .int .i64 kd, .int .i64 it] 38) := ⟨_, rfl⟩
        rw [← hW]
        obtain ⟨L0, L1, L2, hbW, hWs⟩ := op_box hW
        clear hW
        refine region_later (by kernel_rfl) (by kernel_rfl) ?_
        repeat (go_big_quiet_step ((go_at_call 28; exact later_call _ (HV.out _))))
        refine wpQuiet_nil ?_
        rintro _ ⟨u, rfl⟩
        go_wp2_with fail
        go_ret
        exact ⟨ret_bool HB.out.symm, Later.trans hb hbW u⟩
      · obtain ⟨tx, kd, it⟩ := o
        have hv' : ∀ W : World, Calls Tryd.prog 28 #[.agg #[.int .i64 tx, .int .i64 kd, .int .i64 it]] W fun e w' => e = .returned (.bool true) ∧ Below W.heap.size W w' := fun W => by
          have := valid_any ⟨tx, kd, it⟩ W; rw [hv] at this; exact this
        have HV := Lib.hid hv'
        have hE' : ∀ (W : World), ROps W (some ⟨b, off, none⟩) k (s.take k) → Calls Tryd.prog 29 #[.slice (some ⟨b, off, none⟩) k c, .int .i64 tx] W fun e w' => e = .returned (.int .i64 ev) ∧ Below W.heap.size W w' := fun W h => by
          have := endOf_any _ k c _ tx W h; rw [HE.out] at this; exact this
        have HE2 := Lib.hid hE'
        rw [hv, Bool.true_and] at hg
        have HG := Lib.hid hg
        have HN := Lib.hid hno
        clear hv hv' hE' hg hno
        have hkc : k ≤ c := by omega
        by_cases h0 : 0 ≤ ev
        · have hq : noEnd (s.take k) tx = false := by
            rcases hec with h | h
            · omega
            · exact h.2
          have HQ := Lib.hid hq
          clear hq
          go_wp2_with fail
          obtain ⟨W, hW⟩ : ∃ W : World, W = wr.alloc (.cells #[.int .i64 tx, .int .i64 kd, .int .i64 it] 38) := ⟨_, rfl⟩
          rw [← hW]
          obtain ⟨L0, L1, L2, hbW, hWs⟩ := op_box hW
          clear hW
          refine region_later (by kernel_rfl) (by kernel_rfl) ?_
          repeat (go_big_quiet_step ((first | (go_at_call 28; exact later_call _ (HV.out _)) | (go_at_call 29; exact later_call _ (HE2.out _ (((HX2.out.take (by omega)).below hbW (Nat.le_refl _)).later _))))))
          refine wpQuiet_nil ?_
          rintro _ ⟨u, rfl⟩
          go_wp2_with fail
          go_ret
          exact ⟨ret_bool (validS_bad (k := k) (by omega) (by rw [HG.out]; exact HQ.out)).symm, Later.trans hb hbW u⟩
        · have hq : noEnd (s.take k) tx = true := by
            rcases hec with h | h
            · exact h.2
            · omega
          have HQ := Lib.hid hq
          clear hq
          go_wp2_with fail
          obtain ⟨W, hW⟩ : ∃ W : World, W = wr.alloc (.cells #[.int .i64 tx, .int .i64 kd, .int .i64 it] 38) := ⟨_, rfl⟩
          rw [← hW]
          obtain ⟨L0, L1, L2, hbW, hWs⟩ := op_box hW
          clear hW
          refine region_later (by kernel_rfl) (by kernel_rfl) ?_
          repeat (go_big_quiet_step ((first | (go_at_call 28; exact later_call _ (HV.out _)) | (go_at_call 29; exact later_call _ (HE2.out _ (((HX2.out.take (by omega)).below hbW (Nat.le_refl _)).later _))))))
          refine wpQuiet_nil ?_
          rintro _ ⟨u, rfl⟩
          go_wp2_with fail
          go_roundw
          case rel => exact ⟨k + 1, by omega, by go_num, Later.trans hb hbW u, all_snoc HN.out (by rw [HG.out]; exact HQ.out)⟩
          case measure => simp [intOf]; omega
    · have HE := Lib.hid (validS_end (s := s) (fun j hj => hno j (by omega)))
      clear hno
      go_wp2_with fail
      go_ret
      exact ⟨ret_bool (by rw [HE.out, hl]; exact decide_eq_decide.2 ⟨fun h => by omega, fun h => by omega⟩), hb⟩
end Go.Proofs.YtddkjbibjjehjaaDoor
