/-
  The reference: source, endOf.
-/
import Derived.Test.YtmookobaljcpbaaDrag0
namespace Go.Proofs.Ytmookobaljcpbaa
open Go.RowKit Go.BigFrame
set_option linter.unusedVariables false

def sfB (s : List OpV) (i : Nat) (x : Int) (q : OpV) : Bool := q.kind == 1 && q.item == x && !abB s q.tx i
def sfTo (s : List OpV) (i : Nat) (x : Int) : Nat → Int
  | 0 => -1
  | k + 1 => match s[k]? with | some q => if sfB s i x q then q.tx else sfTo s i x k | none => sfTo s i x k
theorem sfTo_succ {s : List OpV} {i : Nat} {x : Int} {k : Nat} {q : OpV} (h : s[k]? = some q) : sfTo s i x (k + 1) = if sfB s i x q then q.tx else sfTo s i x k := by simp only [sfTo, h]
/-- In a schedule one aborts exactly if one ends with an abort. -/
theorem abB_end {s : List OpV} (hv : validS s = true) (t : Int) (i : Nat) : abB s t i = (endOf (s.take i) t == 3) := by
  have hvt : validS (s.take i) = true := validS_sub hv (List.take_sublist i s)
  cases h : abB s t i
  · symm
    rw [beq_eq_false_iff_ne]
    intro he
    unfold endOf at he
    cases hf : (s.take i).find? (fun o => o.tx == t && isEnd o) with
    | none => rw [hf] at he; simp at he
    | some o =>
      rw [hf] at he
      have h1 := List.find?_some hf
      simp only [Bool.and_eq_true, beq_iff_eq] at h1
      unfold abB at h
      rw [List.any_eq_false] at h
      refine h o (List.mem_of_find?_eq_some hf) ?_
      simp only [Bool.and_eq_true, beq_iff_eq]
      exact ⟨h1.1, by simpa using he⟩
  · symm
    unfold abB at h
    rw [List.any_eq_true] at h
    obtain ⟨o, ho, h⟩ := h
    simp only [Bool.and_eq_true, beq_iff_eq] at h
    obtain ⟨k, hk⟩ := List.mem_iff_getElem?.1 ho
    rw [← h.1]
    have := endOf_hit (s.take i) o.tx k o hk (fun j hj q hq => by
      cases hq2 : (q.tx == o.tx && isEnd q)
      · rfl
      · simp only [Bool.and_eq_true, beq_iff_eq] at hq2
        have := validS_after hvt hq hk hq2.2 hq2.1
        omega) (by simp [isEnd, h.2])
    rw [this, h.2]; rfl
theorem sf_eq {s : List OpV} (hv : validS s = true) (i : Nat) (x : Int) (k : Nat) : sfTo s i x k = rfTo s i x k := by
  induction k with
  | zero => rfl
  | succ k ih =>
    cases e : s[k]? with
    | none => simp only [sfTo, rfTo, e]; exact ih
    | some q =>
      rw [sfTo_succ e, rfTo_succ e, ih]
      unfold sfB rfB
      rw [abB_end hv]
      rfl

set_option maxRecDepth 100000 in
set_option maxHeartbeats 2000000 in
theorem source_any (A : Option Addr) (n c k : Nat) (s : List OpV) (o : OpV) (w : World) (hx : ROps w A n s) (ho : s[k]? = some o) :
    Calls Try.prog 62 #[.slice A n c, .int .i64 (k : Int)] w fun e w' => e = .returned (.int .i64 (sfTo s k o.item k)) ∧ Below w.heap.size w w' := by
  have hn := hx.2.1
  have hl := hx.1
  have hk : k < n := by have := (List.getElem?_eq_some_iff.1 ho).1; omega
  have HX := Lib.hid hx
  have HO := Lib.hid ho
  clear hx ho
  have hkn : (k : Int) < (n : Int) := by omega
  have hk0 : (0 : Int) ≤ (k : Int) := by omega
  go_enter Try.func62, Try.ntmps62
  go_wp2_with fail
  go_loopw [5] (fun i wr => ∃ j : Nat, j ≤ k ∧ i = .int .i64 ((j : Int) - 1) ∧ Below w.heap.size w wr ∧ sfTo s k o.item k = sfTo s k o.item j) (fun i _ => (intOf i + 1).toNat)
  case atStart => exact ⟨k, Nat.le_refl _, by go_num, Below.refl _ _, rfl⟩
  case round =>
    obtain ⟨j, hj, rfl, hb, he⟩ := hrel
    by_cases hz : 0 < j
    · obtain ⟨q, rfl⟩ : ∃ q, j = q + 1 := ⟨j - 1, by omega⟩
      have e1 : (((q + 1 : Nat) : Int) - 1) = (q : Int) := by omega
      rw [e1]
      have hxr := HX.out.below hb (Nat.le_refl _)
      obtain ⟨b, off, p, hA, hbl, hp, c0, c1, c2⟩ := hxr.at_ (k := q) (by omega)
      obtain ⟨b', off', o', hA', _, ho', d0, d1, d2⟩ := hxr.at_ hk
      subst hA
      injection hA' with hA'; injection hA' with q1 q2 _; subst q1; subst q2
      rw [HO.out] at ho'
      injection ho' with ho'
      subst ho'
      obtain ⟨E, hE⟩ : ∃ E, abB s p.tx k = E := ⟨_, rfl⟩
      have hC : ∀ u : Later wr, Calls Try.prog 90 #[.slice (some ⟨b, off, none⟩) n c, .int .i64 p.tx, .int .i64 (k : Int)] u.1 fun e w' => e = .returned (.bool E) ∧ Below u.1.heap.size u.1 w' := fun u => by
        have := abortedAt_any (some ⟨b, off, none⟩) n c s p.tx k u.1 (hxr.later u) (by omega); rw [hE] at this; exact this
      have hrs := sfTo_succ (i := k) (x := o.item) hp
      unfold sfB at hrs
      rw [hE] at hrs
      obtain ⟨ptx, pk, pit⟩ := p
      simp only at c0 c1 c2 hC hrs
      obtain ⟨b1, hb1⟩ : ∃ z, (pk == 1) = z := ⟨_, rfl⟩
      obtain ⟨b2, hb2⟩ : ∃ z, (pit == o.item) = z := ⟨_, rfl⟩
      obtain ⟨b3, rfl⟩ : ∃ z, E = z := ⟨_, rfl⟩
      rw [hb1, hb2] at hrs
      have HC := Lib.hid hC
      have HRS := Lib.hid hrs
      have HE := Lib.hid he
      have L0 := Later.cell c0
      have L1 := Later.cell c1
      have L2 := Later.cell c2
      have M2 := Later.cell d2
      have hqn : (q : Int) < (n : Int) := by omega
      have hq0 : (0 : Int) ≤ (q : Int) := by omega
      clear hC hrs he hp c0 c1 c2 d0 d1 d2 hxr e1 hE
      cases b1
      · go_wp2_with fail
        refine region_later (by kernel_rfl) (by kernel_rfl) ?_
        repeat (go_big_quiet_step ((go_at_call 90; exact later_call _ (HC.out _))))
        refine wpQuiet_nil ?_
        rintro _ ⟨u, rfl⟩
        have hbu := hb.trans (u.2.mono hb.size)
        go_wp2_with fail
        go_roundw
        case rel => exact ⟨q, by omega, by go_num, hbu, by rw [HE.out, HRS.out]; rfl⟩
        case measure => simp [intOf] <;> omega
      · cases b2
        · go_wp2_with fail
          refine region_later (by kernel_rfl) (by kernel_rfl) ?_
          repeat (go_big_quiet_step ((go_at_call 90; exact later_call _ (HC.out _))))
          refine wpQuiet_nil ?_
          rintro _ ⟨u, rfl⟩
          have hbu := hb.trans (u.2.mono hb.size)
          go_wp2_with fail
          go_roundw
          case rel => exact ⟨q, by omega, by go_num, hbu, by rw [HE.out, HRS.out]; rfl⟩
          case measure => simp [intOf] <;> omega
        · cases E
          · go_wp2_with fail
            refine region_later (by kernel_rfl) (by kernel_rfl) ?_
            repeat (go_big_quiet_step ((go_at_call 90; exact later_call _ (HC.out _))))
            refine wpQuiet_nil ?_
            rintro _ ⟨u, rfl⟩
            have hbu := hb.trans (u.2.mono hb.size)
            have l0 := L0 u
            go_wp2_with fail
            go_ret
            exact ⟨ret_int (by rw [HE.out, HRS.out]; rfl), hbu⟩
          · go_wp2_with fail
            refine region_later (by kernel_rfl) (by kernel_rfl) ?_
            repeat (go_big_quiet_step ((go_at_call 90; exact later_call _ (HC.out _))))
            refine wpQuiet_nil ?_
            rintro _ ⟨u, rfl⟩
            have hbu := hb.trans (u.2.mono hb.size)
            go_wp2_with fail
            go_roundw
            case rel => exact ⟨q, by omega, by go_num, hbu, by rw [HE.out, HRS.out]; rfl⟩
            case measure => simp [intOf] <;> omega
    · obtain rfl : j = 0 := by omega
      have HE := Lib.hid he
      clear he
      go_wp2_with fail
      go_ret
      exact ⟨ret_int (by rw [HE.out]; rfl), hb⟩

set_option maxHeartbeats 1000000 in
theorem sendOf_any (A : Option Addr) (n c : Nat) (s : List OpV) (t : Int) (w : World) (hx : ROps w A n s) :
    Calls Try.prog 63 #[.slice A n c, .int .i64 t] w fun e w' => e = .returned (.int .i64 (endOf s t)) ∧ Below w.heap.size w w' := by
  have hn := hx.2.1
  have hl := hx.1
  have HX := Lib.hid hx
  clear hx
  go_enter Try.func63, Try.ntmps63
  go_wp2_with fail
  go_loopw [5] (fun x wr => ∃ k : Nat, k ≤ n ∧ x = .int .i64 k ∧ (∀ j, j < k → ∀ o, s[j]? = some o → (o.tx == t && isEnd o) = false) ∧ Below w.heap.size w wr) (fun x _ => n - (intOf x).toNat)
  case atStart => exact ⟨0, Nat.zero_le _, rfl, by omega, Below.refl _ _⟩
  case round =>
    obtain ⟨k, hk, rfl, hno, hb⟩ := hrel
    by_cases hlt : k < n
    · obtain ⟨b, off, o, rfl, hbl, ho, c0, c1, c2⟩ := (HX.out.below hb (Nat.le_refl _)).at_ hlt
      have HN : Hid ((o.tx == t && isEnd o) = false → ∀ j, j < k + 1 → ∀ o, s[j]? = some o → (o.tx == t && isEnd o) = false) := fun h => no_snoc (p := fun o => o.tx == t && isEnd o) ho hno h
      have HT : Hid ((o.tx == t && isEnd o) = true → endOf s t = o.kind) := fun h => endOf_hit s t k o ho hno h
      clear hno ho
      obtain ⟨be, hbe⟩ : ∃ be, isEnd o = be := ⟨_, rfl⟩
      have hC : ∀ W : World, Calls Try.prog 76 #[o.val] W fun e w' => e = .returned (.bool be) ∧ Below W.heap.size W w' := fun W => by
        have := sends_any o W; rw [hbe] at this; exact this
      rw [hbe] at HN HT
      clear hbe
      obtain ⟨tx, kd, it⟩ := o
      unfold OpV.val at hC
      have HC := Lib.hid hC
      clear hC
      simp only at HN HT c0 c1 c2
      have L1 := Later.cell c1
      have hs := hb.size
      by_cases h1 : tx = t
      · subst h1
        rw [beq_self_eq_true, Bool.true_and] at HN HT
        go_wp2_with fail
        refine (HC.out _).mono ?_
        rintro e w2 ⟨rfl, hb2⟩
        have hbw := hb.trans (hb2.mono hs)
        have l1 := L1 ⟨w2, hb2⟩
        simp only at l1
        clear hb2
        cases be
        · have hz := Lib.hid (HN.out (by first | rfl | trivial))
          go_wp2_with fail
          go_roundw
          case rel => exact ⟨k + 1, by omega, by go_num, hz.out, hbw⟩
          case measure => simp [intOf]; omega
        · have hz := Lib.hid (HT.out (by first | rfl | trivial))
          go_wp2_with fail
          go_ret
          exact ⟨ret_int (by rw [hz.out]), hbw⟩
      · have h1' : (tx == t) = false := by simpa using h1
        have hz := Lib.hid (HN.out (by rw [h1']; rfl))
        go_wp2_with fail
        go_roundw
        case rel => exact ⟨k + 1, by omega, by go_num, hz.out, hb⟩
        case measure => simp [intOf]; omega
    · have hz : Hid (endOf s t = -1) := endOf_none s t (fun j hj => hno j (by omega))
      clear hno
      go_wp2_with fail
      go_ret
      exact ⟨ret_int (by rw [hz.out]), hb⟩
end Go.Proofs.Ytmookobaljcpbaa
