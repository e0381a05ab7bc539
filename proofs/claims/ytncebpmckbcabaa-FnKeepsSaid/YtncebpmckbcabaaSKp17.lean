/-
  Texts that the proof rests on, joined: part 17.
-/
import Derived.Test.YtncebpmckbcabaaSKp3
import Derived.Test.YtncebpmckbcabaaSKp4
import Derived.Test.YtncebpmckbcabaaSKp5
import Derived.Test.YtncebpmckbcabaaSKp7
namespace Go.Proofs.Ytncebpmckbcabaa
open Go.RowKit Go.BigFrame
set_option linter.unusedVariables false


set_option maxHeartbeats 400000 in
theorem IndexS_any (A : Option Addr) (n c : Nat) (xs : List Int) (x : Int) (w : World) (hx : RInts w A n xs) :
    Calls Try.prog 116 #[.slice A n c, .int .i64 x] w fun e w' => e = .returned (.int .i64 (idxZ xs x)) ∧ Below w.heap.size w w' := by
  have hn := hx.2.1
  have hl := hx.1
  have HX := Lib.hid hx
  clear hx
  go_enter Try.func116, Try.ntmps116
  go_wp2_with fail
  go_loopw [8] (fun i wr => ∃ k : Nat, k ≤ n ∧ i = .int .i64 k ∧ Below w.heap.size w wr ∧ (∀ j, j < k → ∀ y, xs[j]? = some y → (y == x) = false)) (fun i _ => n - (intOf i).toNat)
  case atStart => exact ⟨0, Nat.zero_le _, rfl, Below.refl _ _, by omega⟩
  case round =>
    obtain ⟨k, hk, rfl, hb, hno⟩ := hrel
    by_cases hlt : k < n
    · obtain ⟨b, off, y, rfl, hbl, ho, c0⟩ := (HX.out.below hb (Nat.le_refl _)).at_ hlt
      have HN : Hid ((y == x) = false → ∀ j, j < k + 1 → ∀ y, xs[j]? = some y → (y == x) = false) := fun h => no_snoc ho hno h
      have HT : Hid ((y == x) = true → idxZ xs x = (k : Int)) := fun h => idxZ_hit ho h hno
      have L0 := Later.cell c0
      clear hno ho
      by_cases h1 : y = x
      · have hs := Lib.hid (HT.out (by simpa using h1))
        have h1' : (x == y) = true := by simpa using h1.symm
        go_wp2_with fail
        try (refine region_later (by kernel_rfl) (by kernel_rfl) ?_; repeat (go_big_quiet_step (fail)); refine wpQuiet_nil ?_; rintro _ ⟨u, rfl⟩; go_wp2_with fail)
        go_ret
        exact ⟨ret_int hs.out.symm, by first | exact hb | exact hb.trans (u.2.mono hb.size)⟩
      · have hs := Lib.hid (HN.out (by simpa using h1))
        have h1' : (x == y) = false := by simpa using fun h => h1 h.symm
        go_wp2_with fail
        try (refine region_later (by kernel_rfl) (by kernel_rfl) ?_; repeat (go_big_quiet_step (fail)); refine wpQuiet_nil ?_; rintro _ ⟨u, rfl⟩; go_wp2_with fail)
        go_roundw
        case rel => exact ⟨k + 1, by omega, by go_num, by first | exact hb | exact hb.trans (u.2.mono hb.size), hs.out⟩
        case measure => simp [intOf]; omega
    · have HE := Lib.hid (idxZ_none (xs := xs) (x := x) (fun j hj => hno j (by omega)))
      clear hno
      go_wp2_with fail
      go_ret
      exact ⟨ret_int HE.out.symm, hb⟩


set_option maxHeartbeats 400000 in
theorem ContainsS_any (A : Option Addr) (n c : Nat) (xs : List Int) (x : Int) (w : World) (hx : RInts w A n xs) :
    Calls Try.prog 81 #[.slice A n c, .int .i64 x] w fun e w' => e = .returned (.bool (xs.any fun y => y == x)) ∧ Below w.heap.size w w' := by
  have HI := Lib.hid (IndexS_any A n c xs x w hx)
  have hz := idxZ_any xs x
  clear hx
  go_enter Try.func81, Try.ntmps81
  go_wp2_with fail
  refine HI.out.mono ?_
  rintro e w1 ⟨rfl, hb⟩
  generalize idxZ xs x = z at *
  cases ha : (xs.any fun y => y == x)
  · rw [ha] at hz
    have hz2 : z = -1 := by simpa using hz
    subst hz2
    have HA := Lib.hid ha
    clear ha hz
    go_wp2_with fail
    go_ret
    exact ⟨ret_bool HA.out.symm, hb⟩
  · rw [ha] at hz
    have hz2 : 0 ≤ z := by simpa using hz
    have HA := Lib.hid ha
    clear ha hz
    go_wp2_with fail
    go_ret
    exact ⟨ret_bool HA.out.symm, hb⟩

end Go.Proofs.Ytncebpmckbcabaa
namespace Go.Proofs.Ytncebpmckbcabaa
open Go.RowKit Go.BigFrame
set_option linter.unusedVariables false

theorem opsOf_snoc {s : List OpV} {k : Nat} {o : OpV} {t : Int} (h : s[k]? = some o) : opsOf (s.take (k + 1)) t = opsOf (s.take k) t ++ if o.tx = t then [o] else [] := by
  unfold opsOf
  rw [take_snoc h, List.filter_append]
  by_cases e : o.tx = t <;> simp [e]
set_option maxRecDepth 100000 in
set_option maxHeartbeats 1000000 in
theorem sopsOf_any (A : Option Addr) (n c : Nat) (s : List OpV) (t : Int) (w : World) (hx : ROps w A n s) :
    Calls Try.prog 91 #[.slice A n c, .int .i64 t] w (RetOps w (opsOf s t)) := by
  have hn := hx.2.1
  have hl := hx.1
  have HX := Lib.hid hx
  clear hx
  have HST : Hid ((w.alloc (.cells #[] 62)).ownsRow w.heap.size 62 3 (.slice (some ⟨w.heap.size, 0, none⟩) 0 0) 0 (opCells (opsOf (s.take 0) t))) :=
    World.ownsRow_made w #[] 0 (Nat.le_refl _) (by decide) rfl
  go_enter Try.func91, Try.ntmps91
  go_wp2_with fail
  go_loopw [5, 6] (fun ov i wr => ∃ (k m : Nat), k ≤ n ∧ m ≤ k ∧ i = .int .i64 k ∧ Below w.heap.size w wr ∧ wr.ownsRow w.heap.size 62 3 ov m (opCells (opsOf (s.take k) t))) (fun _ i _ => n - (intOf i).toNat)
  case atStart => exact ⟨0, 0, Nat.zero_le _, Nat.le_refl _, rfl, (Below.refl _ _).alloc (Nat.le_refl _) _, HST.out⟩
  case round =>
    clear HST
    obtain ⟨k, m, hk, hmk, rfl, hb, hown⟩ := hrel
    obtain ⟨Ao, co, rfl, hmc⟩ := own_form2 hown
    by_cases hlt : k < n
    · obtain ⟨b, off, o, rfl, hbl, ho, c0, c1, c2⟩ := (HX.out.below hb (Nat.le_refl _)).at_ hlt
      have hs := hb.size
      have HT := Lib.hid (opsOf_snoc (t := t) ho)
      clear ho
      obtain ⟨tx, kd, it⟩ := o
      simp only at HT c0 c1 c2
      by_cases h1 : tx = t
      · rw [if_pos h1] at HT
        subst h1
        go_wp2_with (at_builtin; refine app_ops (.tmp 21) (.tmp 26) (hown.alloc _) (by simp; omega) (ROps.lit1 _ ⟨_, _, _⟩ _) (by omega) rfl rfl rfl rfl ?_; intro v3 w3 hown3 hg3 hat3)
        have hb3 := Below.own hb hown (Nat.le_refl _) (World.grownBy.trans (World.grownBy_alloc wr _ _) hg3)
        go_wp2_with fail
        go_roundw
        case rel => exact ⟨k + 1, m + 1, by omega, by omega, by go_num, hb3, by rw [HT.out]; simpa using hown3⟩
        case measure => simp [intOf]; omega
      · rw [if_neg h1, List.append_nil] at HT
        go_wp2_with fail
        go_roundw
        case rel => exact ⟨k + 1, m, by omega, by omega, by go_num, hb, by rw [HT.out]; exact hown⟩
        case measure => simp [intOf]; omega
    · have e : s.take k = s := List.take_of_length_le (by omega)
      rw [e] at hown
      have HO := Lib.hid (RetOps.mk (c := co) (own_lenOps hown) hmc (FreshOps.of_own hown (Nat.le_refl _) (by omega)) hb)
      clear hown e
      go_wp2_with fail
      go_ret
      exact HO.out

end Go.Proofs.Ytncebpmckbcabaa
namespace Go.Proofs.Ytncebpmckbcabaa
open Go.RowKit Go.BigFrame
set_option linter.unusedVariables false


/-- From whom a read of item x at place i reads, as far as the places below k go. -/
def rfB (s : List OpV) (i : Nat) (x : Int) (q : OpV) : Bool := q.kind == 1 && q.item == x && endOf (s.take i) q.tx != 3
def rfTo (s : List OpV) (i : Nat) (x : Int) : Nat → Int
  | 0 => -1
  | k + 1 => match s[k]? with | some q => if rfB s i x q then q.tx else rfTo s i x k | none => rfTo s i x k
theorem rfTo_succ {s : List OpV} {i : Nat} {x : Int} {k : Nat} {q : OpV} (h : s[k]? = some q) : rfTo s i x (k + 1) = if rfB s i x q then q.tx else rfTo s i x k := by simp only [rfTo, h]

set_option maxRecDepth 100000 in
set_option maxHeartbeats 2000000 in
theorem readFrom_any (A : Option Addr) (n c k : Nat) (s : List OpV) (o : OpV) (w : World) (hx : ROps w A n s) (ho : s[k]? = some o) (hnc : n ≤ c) :
    Calls Try.prog 163 #[.slice A n c, .int .i64 (k : Int)] w fun e w' => e = .returned (.int .i64 (rfTo s k o.item k)) ∧ Below w.heap.size w w' := by
  have hn := hx.2.1
  have hl := hx.1
  have hk : k < n := by have := (List.getElem?_eq_some_iff.1 ho).1; omega
  have HX := Lib.hid hx
  have HO := Lib.hid ho
  clear hx ho
  have hkc : (k : Int) ≤ (c : Int) := by omega
  have hkn : (k : Int) < (n : Int) := by omega
  have hk0 : (0 : Int) ≤ (k : Int) := by omega
  go_enter Try.func163, Try.ntmps163
  go_wp2_with fail
  go_loopw [5] (fun i wr => ∃ j : Nat, j ≤ k ∧ i = .int .i64 ((j : Int) - 1) ∧ Below w.heap.size w wr ∧ rfTo s k o.item k = rfTo s k o.item j) (fun i _ => (intOf i + 1).toNat)
  case atStart => exact ⟨k, Nat.le_refl _, by go_num, Below.refl _ _, rfl⟩
  case round =>
    obtain ⟨j, hj, rfl, hb, he⟩ := hrel
    by_cases hz : 0 < j
    · obtain ⟨q, rfl⟩ : ∃ q, j = q + 1 := ⟨j - 1, by omega⟩
      have e1 : (((q + 1 : Nat) : Int) - 1) = (q : Int) := by omega
      rw [e1]
      have hxr := HX.out.below hb (Nat.le_refl _)
      obtain ⟨b, off, p, hA, hbl, hp, c0, c1, c2⟩ := hxr.at_ (k := q) (by omega)
      obtain ⟨b', off', o', hA', _, ho', d0, d1, d2⟩ := hxr.at_ hk
      subst hA
      injection hA' with hA'; injection hA' with q1 q2 _; subst q1; subst q2
      rw [HO.out] at ho'
      injection ho' with ho'
      subst ho'
      obtain ⟨E, hE⟩ : ∃ E, endOf (s.take k) p.tx = E := ⟨_, rfl⟩
      have hC : ∀ u : Later wr, Calls Try.prog 70 #[.slice (some ⟨b, off, none⟩) k c, .int .i64 p.tx] u.1 fun e w' => e = .returned (.int .i64 E) ∧ Below u.1.heap.size u.1 w' := fun u => by
        have := endOf_any (some ⟨b, off, none⟩) k c (s.take k) p.tx u.1 ((hxr.take (by omega)).later u); rw [hE] at this; exact this
      have hrs := rfTo_succ (i := k) (x := o.item) hp
      unfold rfB at hrs
      rw [hE] at hrs
      obtain ⟨ptx, pk, pit⟩ := p
      simp only at c0 c1 c2 hC hrs
      obtain ⟨b1, hb1⟩ : ∃ z, (pk == 1) = z := ⟨_, rfl⟩
      obtain ⟨b2, hb2⟩ : ∃ z, (pit == o.item) = z := ⟨_, rfl⟩
      obtain ⟨b3, hb3⟩ : ∃ z, (E != 3) = z := ⟨_, rfl⟩
      rw [hb1, hb2, hb3] at hrs
      have HC := Lib.hid hC
      have HRS := Lib.hid hrs
      have HE := Lib.hid he
      have L0 := Later.cell c0
      have L1 := Later.cell c1
      have L2 := Later.cell c2
      have M2 := Later.cell d2
      have hqn : (q : Int) < (n : Int) := by omega
      have hq0 : (0 : Int) ≤ (q : Int) := by omega
      clear hC hrs he hp c0 c1 c2 d0 d1 d2 hxr e1 hE
      cases b1
      · go_wp2_with fail
        refine region_later (by kernel_rfl) (by kernel_rfl) ?_
        repeat (go_big_quiet_step ((go_at_call 70; exact later_call _ (HC.out _))))
        refine wpQuiet_nil ?_
        rintro _ ⟨u, rfl⟩
        have hbu := hb.trans (u.2.mono hb.size)
        go_wp2_with fail
        go_roundw
        case rel => exact ⟨q, by omega, by go_num, hbu, by rw [HE.out, HRS.out]; rfl⟩
        case measure => simp [intOf] <;> omega
      · cases b2
        · go_wp2_with fail
          refine region_later (by kernel_rfl) (by kernel_rfl) ?_
          repeat (go_big_quiet_step ((go_at_call 70; exact later_call _ (HC.out _))))
          refine wpQuiet_nil ?_
          rintro _ ⟨u, rfl⟩
          have hbu := hb.trans (u.2.mono hb.size)
          go_wp2_with fail
          go_roundw
          case rel => exact ⟨q, by omega, by go_num, hbu, by rw [HE.out, HRS.out]; rfl⟩
          case measure => simp [intOf] <;> omega
        · cases b3
          · go_wp2_with fail
            refine region_later (by kernel_rfl) (by kernel_rfl) ?_
            repeat (go_big_quiet_step ((go_at_call 70; exact later_call _ (HC.out _))))
            refine wpQuiet_nil ?_
            rintro _ ⟨u, rfl⟩
            have hbu := hb.trans (u.2.mono hb.size)
            go_wp2_with fail
            go_roundw
            case rel => exact ⟨q, by omega, by go_num, hbu, by rw [HE.out, HRS.out]; rfl⟩
            case measure => simp [intOf] <;> omega
          · go_wp2_with fail
            refine region_later (by kernel_rfl) (by kernel_rfl) ?_
            repeat (go_big_quiet_step ((go_at_call 70; exact later_call _ (HC.out _))))
            refine wpQuiet_nil ?_
            rintro _ ⟨u, rfl⟩
            have hbu := hb.trans (u.2.mono hb.size)
            have l0 := L0 u
            go_wp2_with fail
            go_ret
            exact ⟨ret_int (by rw [HE.out, HRS.out]; rfl), hbu⟩
    · obtain rfl : j = 0 := by omega
      have HE := Lib.hid he
      clear he
      go_wp2_with fail
      go_ret
      exact ⟨ret_int (by rw [HE.out]; rfl), hb⟩
end Go.Proofs.Ytncebpmckbcabaa
namespace Go.Proofs.Ytncebpmckbcabaa
open Go.RowKit Go.BigFrame
set_option linter.unusedVariables false

def abB (s : List OpV) (t : Int) (i : Nat) : Bool := (s.take i).any fun o => o.tx == t && o.kind == 3
theorem abB_snoc {s : List OpV} {t : Int} {k : Nat} {o : OpV} (h : s[k]? = some o) : abB s t (k + 1) = (abB s t k || (o.tx == t && o.kind == 3)) := by
  unfold abB
  rw [take_snoc h, List.any_append]; simp
theorem abB_le {s : List OpV} {t : Int} {k i : Nat} (hk : k ≤ i) (h : abB s t k = true) : abB s t i = true := by
  unfold abB at *
  rw [List.any_eq_true] at *
  obtain ⟨o, ho, e⟩ := h
  refine ⟨o, ?_, e⟩
  have : s.take k = (s.take i).take k := by rw [List.take_take, Nat.min_eq_left hk]
  rw [this] at ho
  exact List.mem_of_mem_take ho

set_option maxHeartbeats 1000000 in
theorem abortedAt_any (A : Option Addr) (n c : Nat) (s : List OpV) (t : Int) (i : Nat) (w : World) (hx : ROps w A n s) (hi : i ≤ n) :
    Calls Try.prog 165 #[.slice A n c, .int .i64 t, .int .i64 (i : Int)] w fun e w' => e = .returned (.bool (abB s t i)) ∧ Below w.heap.size w w' := by
  have hn := hx.2.1
  have hl := hx.1
  have HX := Lib.hid hx
  clear hx
  go_enter Try.func165, Try.ntmps165
  go_wp2_with fail
  go_loopw [7] (fun x wr => ∃ k : Nat, k ≤ i ∧ x = .int .i64 k ∧ abB s t k = false ∧ Below w.heap.size w wr) (fun x _ => i - (intOf x).toNat)
  case atStart => exact ⟨0, Nat.zero_le _, rfl, by simp [abB], Below.refl _ _⟩
  case round =>
    obtain ⟨k, hk, rfl, hno, hb⟩ := hrel
    by_cases hlt : k < i
    · obtain ⟨b, off, o, rfl, hbl, ho, c0, c1, c2⟩ := (HX.out.below hb (Nat.le_refl _)).at_ (k := k) (by omega)
      have HS := Lib.hid (abB_snoc (t := t) ho)
      rw [hno, Bool.false_or] at HS
      have HT : Hid (abB s t (k + 1) = true → abB s t i = true) := fun h => abB_le (by omega) h
      clear hno ho
      obtain ⟨tx, kd, it⟩ := o
      simp only at HS c0 c1 c2
      have hki : (k : Int) < (i : Int) := by omega
      have hkn : (k : Int) < (n : Int) := by omega
      have L0 := Later.cell c0
      have L1 := Later.cell c1
      by_cases h1 : tx = t
      · by_cases h2 : kd = 3
        · have hs := Lib.hid (HT.out (by rw [HS.out]; simp [h1, h2]))
          subst h1
          subst h2
          go_wp2_with fail
          go_ret
          exact ⟨ret_bool hs.out.symm, hb⟩
        · have h2' : (kd == 3) = false := by simpa using h2
          rw [h2', Bool.and_false] at HS
          subst h1
          go_wp2_with fail
          go_roundw
          case rel => exact ⟨k + 1, by omega, by go_num, HS.out, hb⟩
          case measure => simp [intOf]; omega
      · have h1' : (tx == t) = false := by simpa using h1
        rw [h1', Bool.false_and] at HS
        go_wp2_with fail
        go_roundw
        case rel => exact ⟨k + 1, by omega, by go_num, HS.out, hb⟩
        case measure => simp [intOf]; omega
    · obtain rfl : k = i := by omega
      have HN := Lib.hid hno
      clear hno
      go_wp2_with fail
      go_ret
      exact ⟨ret_bool HN.out.symm, hb⟩
end Go.Proofs.Ytncebpmckbcabaa
namespace Go.Proofs.Ytncebpmckbcabaa
open Go.RowKit Go.BigFrame
set_option linter.unusedVariables false

def sfB (s : List OpV) (i : Nat) (x : Int) (q : OpV) : Bool := q.kind == 1 && q.item == x && !abB s q.tx i
def sfTo (s : List OpV) (i : Nat) (x : Int) : Nat → Int
  | 0 => -1
  | k + 1 => match s[k]? with | some q => if sfB s i x q then q.tx else sfTo s i x k | none => sfTo s i x k
theorem sfTo_succ {s : List OpV} {i : Nat} {x : Int} {k : Nat} {q : OpV} (h : s[k]? = some q) : sfTo s i x (k + 1) = if sfB s i x q then q.tx else sfTo s i x k := by simp only [sfTo, h]
/-- In a schedule one aborts exactly if one ends with an abort. -/
theorem abB_end {s : List OpV} (hv : validS s = true) (t : Int) (i : Nat) : abB s t i = (endOf (s.take i) t == 3) := by
  have hvt : validS (s.take i) = true := validS_sub hv (List.take_sublist i s)
  cases h : abB s t i
  · symm
    rw [beq_eq_false_iff_ne]
    intro he
    unfold endOf at he
    cases hf : (s.take i).find? (fun o => o.tx == t && isEnd o) with
    | none => rw [hf] at he; simp at he
    | some o =>
      rw [hf] at he
      have h1 := List.find?_some hf
      simp only [Bool.and_eq_true, beq_iff_eq] at h1
      unfold abB at h
      rw [List.any_eq_false] at h
      refine h o (List.mem_of_find?_eq_some hf) ?_
      simp only [Bool.and_eq_true, beq_iff_eq]
      exact ⟨h1.1, by simpa using he⟩
  · symm
    unfold abB at h
    rw [List.any_eq_true] at h
    obtain ⟨o, ho, h⟩ := h
    simp only [Bool.and_eq_true, beq_iff_eq] at h
    obtain ⟨k, hk⟩ := List.mem_iff_getElem?.1 ho
    rw [← h.1]
    have := endOf_hit (s.take i) o.tx k o hk (fun j hj q hq => by
      cases hq2 : (q.tx == o.tx && isEnd q)
      · rfl
      · simp only [Bool.and_eq_true, beq_iff_eq] at hq2
        have := validS_after hvt hq hk hq2.2 hq2.1
        omega) (by simp [isEnd, h.2])
    rw [this, h.2]; rfl
theorem sf_eq {s : List OpV} (hv : validS s = true) (i : Nat) (x : Int) (k : Nat) : sfTo s i x k = rfTo s i x k := by
  induction k with
  | zero => rfl
  | succ k ih =>
    cases e : s[k]? with
    | none => simp only [sfTo, rfTo, e]; exact ih
    | some q =>
      rw [sfTo_succ e, rfTo_succ e, ih]
      unfold sfB rfB
      rw [abB_end hv]
      rfl

set_option maxRecDepth 100000 in
set_option maxHeartbeats 2000000 in
theorem source_any (A : Option Addr) (n c k : Nat) (s : List OpV) (o : OpV) (w : World) (hx : ROps w A n s) (ho : s[k]? = some o) :
    Calls Try.prog 147 #[.slice A n c, .int .i64 (k : Int)] w fun e w' => e = .returned (.int .i64 (sfTo s k o.item k)) ∧ Below w.heap.size w w' := by
  have hn := hx.2.1
  have hl := hx.1
  have hk : k < n := by have := (List.getElem?_eq_some_iff.1 ho).1; omega
  have HX := Lib.hid hx
  have HO := Lib.hid ho
  clear hx ho
  have hkn : (k : Int) < (n : Int) := by omega
  have hk0 : (0 : Int) ≤ (k : Int) := by omega
  go_enter Try.func147, Try.ntmps147
  go_wp2_with fail
  go_loopw [5] (fun i wr => ∃ j : Nat, j ≤ k ∧ i = .int .i64 ((j : Int) - 1) ∧ Below w.heap.size w wr ∧ sfTo s k o.item k = sfTo s k o.item j) (fun i _ => (intOf i + 1).toNat)
  case atStart => exact ⟨k, Nat.le_refl _, by go_num, Below.refl _ _, rfl⟩
  case round =>
    obtain ⟨j, hj, rfl, hb, he⟩ := hrel
    by_cases hz : 0 < j
    · obtain ⟨q, rfl⟩ : ∃ q, j = q + 1 := ⟨j - 1, by omega⟩
      have e1 : (((q + 1 : Nat) : Int) - 1) = (q : Int) := by omega
      rw [e1]
      have hxr := HX.out.below hb (Nat.le_refl _)
      obtain ⟨b, off, p, hA, hbl, hp, c0, c1, c2⟩ := hxr.at_ (k := q) (by omega)
      obtain ⟨b', off', o', hA', _, ho', d0, d1, d2⟩ := hxr.at_ hk
      subst hA
      injection hA' with hA'; injection hA' with q1 q2 _; subst q1; subst q2
      rw [HO.out] at ho'
      injection ho' with ho'
      subst ho'
      obtain ⟨E, hE⟩ : ∃ E, abB s p.tx k = E := ⟨_, rfl⟩
      have hC : ∀ u : Later wr, Calls Try.prog 165 #[.slice (some ⟨b, off, none⟩) n c, .int .i64 p.tx, .int .i64 (k : Int)] u.1 fun e w' => e = .returned (.bool E) ∧ Below u.1.heap.size u.1 w' := fun u => by
        have := abortedAt_any (some ⟨b, off, none⟩) n c s p.tx k u.1 (hxr.later u) (by omega); rw [hE] at this; exact this
      have hrs := sfTo_succ (i := k) (x := o.item) hp
      unfold sfB at hrs
      rw [hE] at hrs
      obtain ⟨ptx, pk, pit⟩ := p
      simp only at c0 c1 c2 hC hrs
      obtain ⟨b1, hb1⟩ : ∃ z, (pk == 1) = z := ⟨_, rfl⟩
      obtain ⟨b2, hb2⟩ : ∃ z, (pit == o.item) = z := ⟨_, rfl⟩
      obtain ⟨b3, rfl⟩ : ∃ z, E = z := ⟨_, rfl⟩
      rw [hb1, hb2] at hrs
      have HC := Lib.hid hC
      have HRS := Lib.hid hrs
      have HE := Lib.hid he
      have L0 := Later.cell c0
      have L1 := Later.cell c1
      have L2 := Later.cell c2
      have M2 := Later.cell d2
      have hqn : (q : Int) < (n : Int) := by omega
      have hq0 : (0 : Int) ≤ (q : Int) := by omega
      clear hC hrs he hp c0 c1 c2 d0 d1 d2 hxr e1 hE
      cases b1
      · go_wp2_with fail
        refine region_later (by kernel_rfl) (by kernel_rfl) ?_
        repeat (go_big_quiet_step ((go_at_call 165; exact later_call _ (HC.out _))))
        refine wpQuiet_nil ?_
        rintro _ ⟨u, rfl⟩
        have hbu := hb.trans (u.2.mono hb.size)
        go_wp2_with fail
        go_roundw
        case rel => exact ⟨q, by omega, by go_num, hbu, by rw [HE.out, HRS.out]; rfl⟩
        case measure => simp [intOf] <;> omega
      · cases b2
        · go_wp2_with fail
          refine region_later (by kernel_rfl) (by kernel_rfl) ?_
          repeat (go_big_quiet_step ((go_at_call 165; exact later_call _ (HC.out _))))
          refine wpQuiet_nil ?_
          rintro _ ⟨u, rfl⟩
          have hbu := hb.trans (u.2.mono hb.size)
          go_wp2_with fail
          go_roundw
          case rel => exact ⟨q, by omega, by go_num, hbu, by rw [HE.out, HRS.out]; rfl⟩
          case measure => simp [intOf] <;> omega
        · cases E
          · go_wp2_with fail
            refine region_later (by kernel_rfl) (by kernel_rfl) ?_
            repeat (go_big_quiet_step ((go_at_call 165; exact later_call _ (HC.out _))))
            refine wpQuiet_nil ?_
            rintro _ ⟨u, rfl⟩
            have hbu := hb.trans (u.2.mono hb.size)
            have l0 := L0 u
            go_wp2_with fail
            go_ret
            exact ⟨ret_int (by rw [HE.out, HRS.out]; rfl), hbu⟩
          · go_wp2_with fail
            refine region_later (by kernel_rfl) (by kernel_rfl) ?_
            repeat (go_big_quiet_step ((go_at_call 165; exact later_call _ (HC.out _))))
            refine wpQuiet_nil ?_
            rintro _ ⟨u, rfl⟩
            have hbu := hb.trans (u.2.mono hb.size)
            go_wp2_with fail
            go_roundw
            case rel => exact ⟨q, by omega, by go_num, hbu, by rw [HE.out, HRS.out]; rfl⟩
            case measure => simp [intOf] <;> omega
    · obtain rfl : j = 0 := by omega
      have HE := Lib.hid he
      clear he
      go_wp2_with fail
      go_ret
      exact ⟨ret_int (by rw [HE.out]; rfl), hb⟩

end Go.Proofs.Ytncebpmckbcabaa
