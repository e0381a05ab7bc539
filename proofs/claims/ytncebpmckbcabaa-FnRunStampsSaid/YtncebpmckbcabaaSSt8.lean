/-
  Texts that the proof rests on, joined: part 8.
-/
import Derived.Lib.SliceRun
import Derived.Maps.AppendAt
import Derived.Test.YtncebpmckbcabaaSSt1
import Derived.Test.YtncebpmckbcabaaSSt2
import Derived.Test.YtncebpmckbcabaaSSt4
import Derived.Test.YtncebpmckbcabaaSSt5
import Derived.Test.YtncebpmckbcabaaSSt7
namespace Go.Proofs.Ytncebpmckbcabaa
open Go.RowKit
set_option linter.unusedVariables false

theorem cf_pair {L : List OpV} {t u : Int} : Cf L t u ↔ ¬ L.Pairwise (fun a b => ¬ (confB a b = true ∧ a.tx = t ∧ b.tx = u)) := by
  rw [List.pairwise_iff_getElem]
  constructor
  · rintro ⟨i, k, a, b, hik, ha, hb, r⟩ h
    obtain ⟨h1, e1⟩ := List.getElem?_eq_some_iff.1 ha
    obtain ⟨h2, e2⟩ := List.getElem?_eq_some_iff.1 hb
    have := h i k h1 h2 hik
    rw [e1, e2] at this
    exact this r
  · intro h
    apply Classical.byContradiction
    intro hn
    refine h fun i k h1 h2 hik r => hn ⟨i, k, _, _, hik, List.getElem?_eq_getElem h1, List.getElem?_eq_getElem h2, r⟩
theorem Cf.sub {L M : List OpV} {t u : Int} (h : Cf M t u) (hs : List.Sublist M L) : Cf L t u := by
  rw [cf_pair] at h ⊢
  exact fun hp => h (hp.sublist hs)
theorem stamp_inj {s : List OpV} {a b : OpV} (ha : a ∈ s) (hb : b ∈ s) (h : stampN s a.tx = stampN s b.tx) : a.tx = b.tx := by
  obtain ⟨q, hq, e⟩ := stampN_at ha
  obtain ⟨p, hp, e'⟩ := stampN_at hb
  rw [h, hp] at hq
  injection hq with hq
  rw [← e, ← e', hq]
/-- In a serial schedule conflicts go by the first operations. -/
theorem Cf.serial {s : List OpV} (hs : isSer s = true) {L : List OpV} (hL : List.Sublist L s) {t u : Int} (h : Cf L t u) : stampN s t < stampN s u := by
  have h2 := h.sub hL
  obtain ⟨i, k, a, b, hik, ha, hb, hc, rfl, rfl⟩ := h2
  have hp := ser_sorted hs
  rw [List.pairwise_iff_getElem] at hp
  obtain ⟨h1, e1⟩ := List.getElem?_eq_some_iff.1 ha
  obtain ⟨h3, e3⟩ := List.getElem?_eq_some_iff.1 hb
  have := hp i k h1 h3 hik
  rw [e1, e3] at this
  rcases Nat.lt_or_ge (stampN s a.tx) (stampN s b.tx) with h' | h'
  · exact h'
  · exact absurd (stamp_inj (List.mem_of_getElem? ha) (List.mem_of_getElem? hb) (Nat.le_antisymm this h')) h.ne
end Go.Proofs.Ytncebpmckbcabaa
namespace Go.Proofs.Ytncebpmckbcabaa
open Go.RowKit
set_option linter.unusedVariables false

theorem op_struct : Try.prog.underlying 62 = some (.struct (Try.prog.fieldsOf 62)) := by kernel_rfl
theorem op_held : Try.prog.stoodInHeld 62 = false := by kernel_rfl
theorem op_guard : Try.prog.eqGuardType Try.prog.depth 62 = false := by kernel_rfl

end Go.Proofs.Ytncebpmckbcabaa
namespace Go.Proofs.Ytncebpmckbcabaa
open Go.RowKit Go.BigFrame
set_option linter.unusedVariables false

def isAt (s : List OpV) (k : Nat) (t : Int) : Bool := match s[k]? with | some o => o.tx == t | none => false
def firstTo (s : List OpV) (t : Int) : Nat → Int
  | 0 => -1
  | k + 1 => if firstTo s t k < 0 ∧ isAt s k t = true then (k : Int) else firstTo s t k
def lastTo (s : List OpV) (t : Int) : Nat → Int
  | 0 => -1
  | k + 1 => if isAt s k t = true then (k : Int) else lastTo s t k
def firstI (s : List OpV) (t : Int) : Int := firstTo s t s.length
def lastI (s : List OpV) (t : Int) : Int := lastTo s t s.length
set_option maxHeartbeats 400000 in
theorem span_any (A : Option Addr) (n c : Nat) (s : List OpV) (t : Int) (w : World) (hx : ROps w A n s) :
    Calls Try.prog 82 #[.slice A n c, .int .i64 t] w fun e w' => e = .returned (.tuple #[.int .i64 (firstI s t), .int .i64 (lastI s t)]) ∧ Below w.heap.size w w' := by
  have hn := hx.2.1
  have hl := hx.1
  have HX := Lib.hid hx
  clear hx
  go_enter Try.func82, Try.ntmps82
  go_wp2_with fail
  go_loopw [6, 7, 12] (fun f l i wr => ∃ k : Nat, k ≤ n ∧ i = .int .i64 k ∧ f = .int .i64 (firstTo s t k) ∧ l = .int .i64 (lastTo s t k) ∧ Below w.heap.size w wr) (fun _ _ i _ => n - (intOf i).toNat)
  case atStart => exact ⟨0, Nat.zero_le _, rfl, rfl, rfl, Below.refl _ _⟩
  case round =>
    obtain ⟨k, hk, rfl, rfl, rfl, hb⟩ := hrel
    by_cases hlt : k < n
    · obtain ⟨b, off, o, rfl, hbl, ho, c0, c1, c2⟩ := (HX.out.below hb (Nat.le_refl _)).at_ hlt
      have hat : isAt s k t = (o.tx == t) := by unfold isAt; rw [ho]
      have hf : Hid (firstTo s t (k + 1) = if firstTo s t k < 0 ∧ (o.tx == t) = true then (k : Int) else firstTo s t k) := by
        show firstTo s t (k + 1) = _
        simp only [firstTo, hat]
      have hla : Hid (lastTo s t (k + 1) = if (o.tx == t) = true then (k : Int) else lastTo s t k) := by
        show lastTo s t (k + 1) = _
        simp only [lastTo, hat]
      generalize hF : firstTo s t k = F at *
      generalize hL : lastTo s t k = L at *
      have HF := Lib.hid hF
      have HL := Lib.hid hL
      clear hF hL hat ho
      obtain ⟨tx, kd, it⟩ := o
      simp only at hf hla c0 c1 c2
      by_cases h1 : tx = t
      · subst h1
        by_cases h2 : F < 0
        · go_wp2_with fail
          go_roundw
          case rel => exact ⟨k + 1, by omega, by go_num, by rw [hf.out, if_pos ⟨h2, by simp⟩], by rw [hla.out, if_pos (by simp)], hb.trans ((by (repeat (first | exact Below.refl _ _ | assumption | refine B_alloc ?_ (Nat.le_refl _) _ | refine Below.drew ?_ | refine B_drewN ?_ _ | refine B_after (by assumption) ?_ | (refine B_set ?_ ?_; rotate_left; (first | exact Nat.le_refl _ | (simp; done) | (simp at *; omega))))) : Below wr.heap.size wr _).mono hb.size)⟩
          case measure => simp [intOf]; omega
        · go_wp2_with fail
          go_roundw
          case rel => exact ⟨k + 1, by omega, by go_num, by rw [hf.out, if_neg (fun h => h2 h.1)], by rw [hla.out, if_pos (by simp)], hb.trans ((by (repeat (first | exact Below.refl _ _ | assumption | refine B_alloc ?_ (Nat.le_refl _) _ | refine Below.drew ?_ | refine B_drewN ?_ _ | refine B_after (by assumption) ?_ | (refine B_set ?_ ?_; rotate_left; (first | exact Nat.le_refl _ | (simp; done) | (simp at *; omega))))) : Below wr.heap.size wr _).mono hb.size)⟩
          case measure => simp [intOf]; omega
      · have h1' : (tx == t) = false := by simpa using h1
        go_wp2_with fail
        go_roundw
        case rel => exact ⟨k + 1, by omega, by go_num, by rw [hf.out, if_neg (fun h => by simp [h1'] at h)], by rw [hla.out, if_neg (by simp [h1'])], hb.trans ((by (repeat (first | exact Below.refl _ _ | assumption | refine B_alloc ?_ (Nat.le_refl _) _ | refine Below.drew ?_ | refine B_drewN ?_ _ | refine B_after (by assumption) ?_ | (refine B_set ?_ ?_; rotate_left; (first | exact Nat.le_refl _ | (simp; done) | (simp at *; omega))))) : Below wr.heap.size wr _).mono hb.size)⟩
        case measure => simp [intOf]; omega
    · obtain rfl : k = n := by omega
      have h1 : Hid (firstTo s t k = firstI s t) := by show _ = _; unfold firstI; rw [hl]
      have h2 : Hid (lastTo s t k = lastI s t) := by show _ = _; unfold lastI; rw [hl]
      go_wp2_with fail
      go_ret2
      exact ⟨by rw [← h1.out, ← h2.out]; rfl, hb⟩

theorem beq_op (a b c a' b' c' : Int) : (a == a' && b == b' && c == c') = ((⟨a', b', c'⟩ : OpV) == ⟨a, b, c⟩) := by
  rw [Bool.eq_iff_iff]
  simp only [Bool.and_eq_true, beq_iff_eq, OpV.mk.injEq]
  constructor
  · rintro ⟨⟨rfl, rfl⟩, rfl⟩; exact ⟨rfl, rfl, rfl⟩
  · rintro ⟨rfl, rfl, rfl⟩; exact ⟨⟨rfl, rfl⟩, rfl⟩

end Go.Proofs.Ytncebpmckbcabaa
namespace Go.Proofs.Ytncebpmckbcabaa
open Go.RowKit Go.BigFrame
set_option linter.unusedVariables false

set_option maxRecDepth 100000 in
set_option maxHeartbeats 1000000 in
theorem CloneI_any (b off n c : Nat) (xs : List Int) (w : World) (hx : RInts w (some ⟨b, off, none⟩) n xs) :
    Calls Try.prog 176 #[.slice (some ⟨b, off, none⟩) n c] w (RetInts w xs) := by
  have hl := hx.1
  have hn := hx.2.1
  have HX1 : Hid (RInts (w.alloc (.cells #[] 3)) (some ⟨b, off, none⟩) n xs) := hx.below ((Below.refl _ w).alloc (Nat.le_refl _) _) (Nat.le_refl _)
  have HST : Hid ((w.alloc (.cells #[] 3)).ownsRow w.heap.size 3 1 (.slice (some ⟨w.heap.size, 0, none⟩) 0 0) 0 (intCells [])) :=
    World.ownsRow_made w #[] 0 (Nat.le_refl _) (by decide) rfl
  have hz : ∀ w1 : World, (binOp .eql 26 (.slice (some ⟨b, off, none⟩) n c) (.slice none 0 0)).run Try.prog w1 = .ok (.bool false) w1 := fun w1 => Go.Lib.run_eql_slice_nil w1 26 3 (some ⟨b, off, none⟩) n c 0 0 Try.underlying26
  clear hx
  go_enter Try.func176, Try.ntmps176
  go_wp2_with (at_builtin; refine app_ints (.tmp 5) (.tmp 6) HST.out (by simp) HX1.out (by omega) rfl rfl rfl rfl ?_; intro v1 w1 hown1 hg1 hat1)
  have hb1 : Below w.heap.size w w1 := Below.own ((Below.refl _ w).alloc (Nat.le_refl _) _) HST.out (Nat.le_refl _) hg1
  rw [List.nil_append, Nat.zero_add] at hown1
  obtain ⟨A1, c1, rfl, hc1⟩ := own_form2 hown1
  have HO := Lib.hid (RetInts.mk hl hc1 (FreshInts.of_own (w0 := w) hown1 (Nat.le_refl _) (by omega)) hb1)
  clear hown1 hg1 hat1 HST HX1 hb1
  go_wp2_with fail
  go_ret
  exact HO.out

end Go.Proofs.Ytncebpmckbcabaa
namespace Go.Proofs.Ytncebpmckbcabaa
open Go.RowKit Go.BigFrame
set_option linter.unusedVariables false

set_option maxHeartbeats 400000 in
theorem isIn_any (A : Option Addr) (n c : Nat) (xs : List Int) (x : Int) (w : World) (hx : RInts w A n xs) :
    Calls Try.prog 86 #[.slice A n c, .int .i64 x] w fun e w' => e = .returned (.bool (xs.any fun y => y == x)) ∧ Below w.heap.size w w' := by
  have hn := hx.2.1
  have hl := hx.1
  have HX := Lib.hid hx
  clear hx
  go_enter Try.func86, Try.ntmps86
  go_wp2_with fail
  go_loop [5] (fun i => ∃ k : Nat, k ≤ n ∧ i = .int .i64 k ∧ ((xs.take k).any fun y => y == x) = false) (fun i => n - (intOf i).toNat)
  case atStart => exact ⟨0, Nat.zero_le _, rfl, by simp⟩
  case round =>
    obtain ⟨k, hk, rfl, hno⟩ := hrel
    by_cases hlt : k < n
    · obtain ⟨b, off, y, rfl, hbl, ho, c0⟩ := HX.out.at_ hlt
      have hst : ((xs.take (k + 1)).any fun y => y == x) = ((xs.take k).any (fun y => y == x) || y == x) := by
        rw [List.take_add_one, ho, List.any_append]; simp
      rw [hno, Bool.false_or] at hst
      have HS := Lib.hid hst
      have HM := Lib.hid (List.mem_of_getElem? ho)
      clear hst ho hno
      by_cases h1 : y = x
      · have ht : Hid ((xs.any fun y => y == x) = true) := List.any_eq_true.2 ⟨y, HM.out, by simpa using h1⟩
        go_wp2_with fail
        go_ret
        exact ⟨ret_bool ht.out.symm, Below.refl _ _⟩
      · have h1' : (y == x) = false := by simpa using h1
        go_wp2_with fail
        go_round
        case rel => exact ⟨k + 1, by omega, by go_num, by rw [HS.out]; exact h1'⟩
        case measure => simp [intOf]; omega
    · rw [List.take_of_length_le (by omega)] at hno
      have HN := Lib.hid hno
      clear hno
      go_wp2_with fail
      go_ret
      exact ⟨ret_bool HN.out.symm, Below.refl _ _⟩

theorem eq_of_get {α : Type} {xs ys : List α} (hl : xs.length = ys.length) (h : ∀ j, j < xs.length → xs[j]? = ys[j]?) : xs = ys := by
  apply List.ext_getElem? 
  intro i
  rcases Nat.lt_or_ge i xs.length with h1 | h1
  · exact h i h1
  · rw [List.getElem?_eq_none h1, List.getElem?_eq_none (by omega)]

set_option maxHeartbeats 400000 in
theorem equalInts_any (A B : Option Addr) (n m c d : Nat) (xs ys : List Int) (w : World) (hx : RInts w A n xs) (hy : RInts w B m ys) :
    Calls Try.prog 19 #[.slice A n c, .slice B m d] w fun e w' => e = .returned (.bool (xs == ys)) ∧ Below w.heap.size w w' := by
  have hn := hx.2.1
  have hl := hx.1
  have hm := hy.2.1
  have hly := hy.1
  have HX := Lib.hid hx
  have HY := Lib.hid hy
  clear hx hy
  by_cases hnm : n = m
  · subst hnm
    go_enter Try.func19, Try.ntmps19
    go_wp2_with fail
    go_loopw [5] (fun i wr => ∃ k : Nat, k ≤ n ∧ i = .int .i64 k ∧ Below w.heap.size w wr ∧ ∀ j, j < k → xs[j]? = ys[j]?) (fun i _ => n - (intOf i).toNat)
    case atStart => exact ⟨0, Nat.zero_le _, rfl, Below.refl _ _, by omega⟩
    case round =>
      obtain ⟨k, hk, rfl, hb, hno⟩ := hrel
      by_cases hlt : k < n
      · obtain ⟨b, off, x, rfl, hbl, hox, c0⟩ := (HX.out.below hb (Nat.le_refl _)).at_ hlt
        obtain ⟨b', off', y, rfl, hbl', hoy, d0⟩ := (HY.out.below hb (Nat.le_refl _)).at_ hlt
        have HN : Hid (x = y → ∀ j, j < k + 1 → xs[j]? = ys[j]?) := fun h j hj => by
          by_cases e : j = k
          · subst e; rw [hox, hoy, h]
          · exact hno j (by omega)
        have HT : Hid (¬ x = y → (xs == ys) = false) := fun h => by
          rw [beq_eq_false_iff_ne]
          intro e
          rw [e, hoy] at hox
          injection hox with hox
          exact h hox.symm
        have L0 := Later.cell c0
        have M0 := Later.cell d0
        have hki : (k : Int) < (n : Int) := by omega
        clear hno hox hoy c0 d0
        by_cases h1 : x = y
        · have hs := Lib.hid (HN.out h1)
          subst h1
          go_wp2_with fail
          refine region_later (by kernel_rfl) (by kernel_rfl) ?_
          repeat (go_big_quiet_step (fail))
          refine wpQuiet_nil ?_
          rintro _ ⟨u, rfl⟩
          have hbu := hb.trans (u.2.mono hb.size)
          go_wp2_with fail
          go_roundw
          case rel => exact ⟨k + 1, by omega, by go_num, hbu, hs.out⟩
          case measure => simp [intOf]; omega
        · have hs := Lib.hid (HT.out h1)
          have h1' : (x != y) = true := by simpa using h1
          go_wp2_with fail
          refine region_later (by kernel_rfl) (by kernel_rfl) ?_
          repeat (go_big_quiet_step (fail))
          refine wpQuiet_nil ?_
          rintro _ ⟨u, rfl⟩
          have hbu := hb.trans (u.2.mono hb.size)
          go_wp2_with fail
          go_ret
          exact ⟨ret_bool hs.out.symm, hbu⟩
      · have hs : Hid ((xs == ys) = true) := by
          show _ = _
          rw [beq_iff_eq]
          exact eq_of_get (by omega) (fun j hj => hno j (by omega))
        clear hno
        go_wp2_with fail
        go_ret
        exact ⟨ret_bool hs.out.symm, hb⟩
  · have hs : Hid ((xs == ys) = false) := by
      show _ = _
      rw [beq_eq_false_iff_ne]
      intro e
      rw [e] at hl
      omega
    go_enter Try.func19, Try.ntmps19
    go_wp2_with fail
    go_ret
    exact ⟨ret_bool hs.out.symm, Below.refl _ _⟩

end Go.Proofs.Ytncebpmckbcabaa
namespace Go.Proofs.Ytncebpmckbcabaa
open Go.RowKit Go.BigFrame
set_option linter.unusedVariables false

/-- The slice value reads as a list of lists. -/
def RLists (w : World) (A : Option Addr) (n : Nat) (xss : List (List Int)) : Prop :=
  xss.length = n ∧ n ≤ 1099511627776 ∧ (0 < n → ∃ b off, A = some ⟨b, off, none⟩ ∧ b < w.heap.size ∧ ∀ i xs, xss[i]? = some xs →
    ∃ B m c, w.cell? ⟨b, off + i, none⟩ = some (.slice B m c) ∧ m ≤ c ∧ RInts w B m xs)
theorem RLists.nil {w : World} {A : Option Addr} : RLists w A 0 [] := ⟨rfl, by omega, fun h => absurd h (by omega)⟩
theorem RLists.below {w w' : World} {A : Option Addr} {n : Nat} {xss : List (List Int)} (h : RLists w A n xss) {B : Nat} (hb : Below B w w') (hB : w.heap.size ≤ B) : RLists w' A n xss := by
  obtain ⟨h1, h2, h3⟩ := h
  refine ⟨h1, h2, fun hn => ?_⟩
  obtain ⟨b, off, hA, hlt, hc⟩ := h3 hn
  have hs := hb.size
  refine ⟨b, off, hA, by omega, fun i xs hi => ?_⟩
  obtain ⟨C, m, c, e, hmc, hr⟩ := hc i xs hi
  exact ⟨C, m, c, (hb.cell (p := ⟨b, _, none⟩) (by simp; omega)).trans e, hmc, hr.below hb hB⟩
theorem RLists.at_ {w : World} {A : Option Addr} {n : Nat} {xss : List (List Int)} (h : RLists w A n xss) {k : Nat} (hk : k < n) : ∃ b off xs B m c, A = some ⟨b, off, none⟩ ∧ b < w.heap.size ∧ xss[k]? = some xs ∧
    w.cell? ⟨b, off + k, none⟩ = some (.slice B m c) ∧ m ≤ c ∧ RInts w B m xs := by
  obtain ⟨h1, h2, h3⟩ := h
  obtain ⟨b, off, hA, hlt, hc⟩ := h3 (by omega)
  have e : xss[k]? = some (xss[k]'(by omega)) := List.getElem?_eq_getElem (by omega)
  obtain ⟨B, m, c, r⟩ := hc k _ e
  exact ⟨b, off, _, B, m, c, hA, hlt, e, r⟩
theorem RLists.lit1 {w : World} {H : Nat} (hH : w.heap.size = H) {T : TypeId} {B : Option Addr} {m c : Nat} {xs : List Int} (hmc : m ≤ c) (hr : RInts w B m xs) : RLists (w.alloc (.cells #[.slice B m c] T)) (some ⟨H, 0, none⟩) 1 [xs] := by
  subst hH
  refine ⟨rfl, by omega, fun _ => ⟨w.heap.size, 0, rfl, by simp, fun i xs' hi => ?_⟩⟩
  match i, hi with
  | 0, hi =>
    simp only [List.getElem?_cons_zero, Option.some.injEq] at hi
    subst hi
    exact ⟨B, m, c, box_at _ _ _ _ _ (by simp), hmc, hr.below ((Below.refl _ w).alloc (Nat.le_refl _) _) (Nat.le_refl _)⟩
  | i + 1, hi => simp at hi

set_option maxRecDepth 100000 in
set_option maxHeartbeats 1000000 in
theorem holdsList_any (A B : Option Addr) (n m c d : Nat) (xss : List (List Int)) (ys : List Int) (w : World) (hx : RLists w A n xss) (hy : RInts w B m ys) :
    Calls Try.prog 37 #[.slice A n c, .slice B m d] w fun e w' => e = .returned (.bool (xss.any fun xs => xs == ys)) ∧ Below w.heap.size w w' := by
  have hn := hx.2.1
  have hl := hx.1
  have HX := Lib.hid hx
  have HY := Lib.hid hy
  clear hx hy
  go_enter Try.func37, Try.ntmps37
  go_wp2_with fail
  go_loopw [5] (fun i wr => ∃ k : Nat, k ≤ n ∧ i = .int .i64 k ∧ Below w.heap.size w wr ∧ ((xss.take k).any fun xs => xs == ys) = false) (fun i _ => n - (intOf i).toNat)
  case atStart => exact ⟨0, Nat.zero_le _, rfl, Below.refl _ _, by simp⟩
  case round =>
    obtain ⟨k, hk, rfl, hb, hno⟩ := hrel
    by_cases hlt : k < n
    · obtain ⟨b, off, xs, C, q, cq, rfl, hbl, ho, c0, hqc, hr⟩ := (HX.out.below hb (Nat.le_refl _)).at_ hlt
      have hst : ((xss.take (k + 1)).any fun xs => xs == ys) = (xs == ys) := by
        rw [List.take_add_one, ho, List.any_append, hno]; simp
      have hmem := List.mem_of_getElem? ho
      obtain ⟨bb, hbb⟩ : ∃ b, (xs == ys) = b := ⟨_, rfl⟩
      have hcl : Calls Try.prog 19 #[.slice C q cq, .slice B m d] wr fun e w' => e = .returned (.bool bb) ∧ Below wr.heap.size wr w' := by
        have := equalInts_any C B q m cq d xs ys wr hr (HY.out.below hb (Nat.le_refl _)); rw [hbb] at this; exact this
      have HT : Hid (bb = true → (xss.any fun xs => xs == ys) = true) := fun h => List.any_eq_true.2 ⟨xs, hmem, by rw [hbb]; exact h⟩
      rw [hbb] at hst
      have HS := Lib.hid hst
      have HC := Lib.hid hcl
      clear hst ho hno hcl hbb hmem hr
      go_wp2_with fail
      refine HC.out.mono ?_
      rintro e w1 ⟨rfl, hb1⟩
      have hb2 := hb.trans (hb1.mono hb.size)
      cases bb
      · go_wp2_with fail
        go_roundw
        case rel => exact ⟨k + 1, by omega, by go_num, hb2, HS.out⟩
        case measure => simp [intOf]; omega
      · go_wp2_with fail
        go_ret
        exact ⟨ret_bool (HT.out (by first | rfl | trivial)).symm, hb2⟩
    · rw [List.take_of_length_le (by omega)] at hno
      have HN := Lib.hid hno
      clear hno
      go_wp2_with fail
      go_ret
      exact ⟨ret_bool HN.out.symm, hb⟩
end Go.Proofs.Ytncebpmckbcabaa
