/-
  IsSerial of the program.
-/
import Derived.Test.YtmookobaljcpbaaKept3
import Derived.Deep.LoopGhost
namespace Go.Proofs.Ytmookobaljcpbaa
open Go.RowKit Go.BigFrame
set_option linter.unusedVariables false

/-- At index i the program finds that a transaction comes again. -/
def serBad (s : List OpV) (i : Nat) : Bool := match s[i]?, s[i - 1]? with | some o, some q => (o.tx != q.tx) && hasTx (s.take i) o.tx | _, _ => false
def isSer (s : List OpV) : Bool := (List.range s.length).all fun i => i == 0 || !serBad s i
def isSerV (s : List OpV) : Bool := isSer s && validS s

set_option maxHeartbeats 400000 in
theorem IsSerial1_any (o q : OpV) (A : Option Addr) (n c b b2 k : Nat) (s : List OpV) (w : World) (hc : w.cell? ⟨b, 0, none⟩ = some (.slice A n c)) (hc2 : w.cell? ⟨b2, 0, none⟩ = some (.int .i64 (k : Int))) (hx : ROps w A n s) (hk : k < n) (hq : s[k]? = some q) :
    Calls Try.prog 43 #[o.val, .pointer (some ⟨b, 0, none⟩), .pointer (some ⟨b2, 0, none⟩)] w fun e w' => e = .returned (.bool (o.tx == q.tx)) ∧ Below w.heap.size w w' := by
  obtain ⟨t, kd, x⟩ := o
  unfold OpV.val
  have hn := hx.2.1
  obtain ⟨b3, off, q', rfl, hbl, ho, c0, c1, c2⟩ := hx.at_ hk
  rw [hq] at ho
  injection ho with ho
  subst ho
  clear hq hx
  go_enter Try.func43, Try.ntmps43
  go_wp2_with fail
  obtain ⟨W, hW⟩ : ∃ W : World, W = w.alloc (.cells #[.int .i64 t, .int .i64 kd, .int .i64 x] 55) := ⟨_, rfl⟩
  rw [← hW]
  obtain ⟨L0, L1, L2, hbW, hWs⟩ := op_box hW
  have M0 := Later.cell (W := W) ((hbW.cell (p := ⟨b, 0, none⟩) (block_lt_of_cell hc)).trans hc)
  have M1 := Later.cell (W := W) ((hbW.cell (p := ⟨b2, 0, none⟩) (block_lt_of_cell hc2)).trans hc2)
  have M2 := Later.cell (W := W) ((hbW.cell (p := ⟨b3, off + k * 3, none⟩) (by simpa using hbl)).trans c0)
  clear hW hc hc2 c0 c1 c2
  refine region_later (by kernel_rfl) (by kernel_rfl) ?_
  repeat (go_big_quiet_step (fail))
  refine wpQuiet_nil ?_
  rintro _ ⟨u, rfl⟩
  go_wp2_with fail
  go_ret
  exact ⟨rfl, hbW.trans (u.2.mono (by omega))⟩

theorem runs_IsSerial1 : Runs 43 := runs_of Try.func43 (by kernel_rfl) rfl
theorem isSer_bad {s : List OpV} {k : Nat} (hk : k + 1 < s.length) (h : serBad s (k + 1) = true) : isSer s = false := by
  unfold isSer
  rw [List.all_eq_false]
  exact ⟨k + 1, List.mem_range.2 hk, by simp [h]⟩
theorem isSer_end {s : List OpV} {k : Nat} (hk : s.length ≤ k + 1) (h : ∀ j, j < k → serBad s (j + 1) = false) : isSer s = true := by
  unfold isSer
  rw [List.all_eq_true]
  intro j hj
  have hj := List.mem_range.1 hj
  cases j with
  | zero => rfl
  | succ j => simp [h j (by omega)]

/-- What the loop of IsSerial carries. -/
def SerInv (w : World) (A : Option Addr) (n c : Nat) (s : List OpV) (k bi : Nat) (wr : World) : Prop :=
  Below w.heap.size w wr ∧ wr.cell? ⟨w.heap.size, 0, none⟩ = some (.slice A n c) ∧ wr.cell? ⟨bi, 0, none⟩ = some (.int .i64 ((k : Int) + 1)) ∧ wr.frozen? ⟨bi, 0, none⟩ = false ∧ w.heap.size < bi ∧ (∀ j, j < k → serBad s (j + 1) = false)

theorem SerInv.next {w wr W : World} {A : Option Addr} {n c k bi : Nat} {s : List OpV} (h : SerInv w A n c s k bi wr) (hb : Below wr.heap.size wr W) (hg : serBad s (k + 1) = false) :
    SerInv w A n c s (k + 1) W.heap.size ((W.alloc (.cells #[.int .i64 ((k : Int) + 1)] 3)).setCell ⟨W.heap.size, 0, none⟩ (.int .i64 ((k : Int) + 1 + 1))) ∧
    SerInv w A n c s (k + 1) W.heap.size (W.alloc (.cells #[.int .i64 ((k : Int) + 1 + 1)] 3)) := by
  obtain ⟨h1, h2, h3, h4, h5, h6⟩ := h
  have e : (((k + 1 : Nat) : Int) + 1) = (k : Int) + 1 + 1 := by omega
  have hlt := block_lt_of_cell h2
  have hlt3 := block_lt_of_cell h3
  have hs := hb.size
  have hbw : Below w.heap.size w W := h1.trans (hb.mono h1.size)
  simp only at hlt hlt3
  have h7 : ∀ j, j < k + 1 → serBad s (j + 1) = false := fun j hj => by
    by_cases e : j = k
    · subst e; exact hg
    · exact h6 j (by omega)
  have hc0 : W.cell? ⟨w.heap.size, 0, none⟩ = some (.slice A n c) := (hb.cell (p := ⟨w.heap.size, 0, none⟩) (by simpa using hlt)).trans h2
  unfold SerInv
  rw [e]
  refine ⟨⟨B_set (B_alloc hbw (Nat.le_refl _) _) (by omega), ?_, ?_, ?_, by omega, h7⟩, ⟨B_alloc hbw (Nat.le_refl _) _, ?_, box_at _ _ _ _ _ rfl, ?_, by omega, h7⟩⟩
  · rw [World.cell?_setCell_other _ _ _ _ (by simp <;> omega), World.cell?_alloc_lt _ _ _ (by simp <;> omega)]; exact hc0
  · have : ((W.alloc (.cells #[.int .i64 ((k : Int) + 1)] 3)).setCell ⟨W.heap.size, 0, none⟩ (.int .i64 ((k : Int) + 1 + 1))).heap[W.heap.size]? = some (.cells #[.int .i64 ((k : Int) + 1 + 1)] 3 (0, 0)) := one_setCell (heap_alloc_new W _)
    exact cell_of_one this
  · have : ((W.alloc (.cells #[.int .i64 ((k : Int) + 1)] 3)).setCell ⟨W.heap.size, 0, none⟩ (.int .i64 ((k : Int) + 1 + 1))).heap[W.heap.size]? = some (.cells #[.int .i64 ((k : Int) + 1 + 1)] 3 (0, 0)) := one_setCell (heap_alloc_new W _)
    exact free_of_one this
  · rw [World.cell?_alloc_lt _ _ _ (by simp <;> omega)]; exact hc0
  · exact free_of_one (v := .int .i64 ((k : Int) + 1 + 1)) (t := 3) (heap_alloc_new W _)

set_option maxHeartbeats 1000000 in
theorem IsSerial_any (A : Option Addr) (n c : Nat) (s : List OpV) (w : World) (hx : ROps w A n s) (hnc : n ≤ c) :
    Calls Try.prog 10 #[.slice A n c] w fun e w' => e = .returned (.bool (isSerV s)) ∧ Below w.heap.size w w' := by
  have hn := hx.2.1
  have hl := hx.1
  have hST : ∀ W : World, W = (w.alloc (.cells #[.slice A n c] 23)).alloc (.cells #[.int .i64 1] 3) → SerInv w A n c s 0 (w.heap.size + 1) W := by
    intro W hW
    subst hW
    refine ⟨((Below.refl _ _).alloc (Nat.le_refl _) _).alloc (by simp) _, ?_, ?_, ?_, by omega, by omega⟩
    · rw [World.cell?_alloc_lt _ _ _ (by simp)]; exact box_at _ _ _ _ _ rfl
    · have := box_at (w.alloc (.cells #[.slice A n c] 23)) #[.int .i64 1] 3 0 (.int .i64 1) rfl
      rwa [World.size_alloc] at this
    · have := free_of_one (w := (w.alloc (.cells #[.slice A n c] 23)).alloc (.cells #[.int .i64 1] 3)) (b := w.heap.size + 1) (v := .int .i64 1) (t := 3) (by have := heap_alloc_new (w.alloc (.cells #[.slice A n c] 23)) (.cells #[.int .i64 1] 3); rwa [World.size_alloc] at this)
      exact this
  have HST := Lib.hid hST
  have HX := Lib.hid hx
  clear hx hST
  go_enter Try.func10, Try.ntmps10
  go_wp2_with fail
  go_loopg [3] n (fun g pv wr => ∃ k bi : Nat, g = n - k ∧ pv = .pointer (some ⟨bi, 0, none⟩) ∧ SerInv w A n c s k bi wr)
  case atStart => exact ⟨0, w.heap.size + 1, rfl, rfl, HST.out _ rfl⟩
  case round =>
    clear HST
    obtain ⟨k, bi, rfl, rfl, hinv⟩ := hrel
    have HI := Lib.hid hinv
    obtain ⟨hb, hc0, hc1, hf1, hbi, hno⟩ := hinv
    have hlt0 := block_lt_of_cell hc0
    have hlt1 := block_lt_of_cell hc1
    simp only at hlt0 hlt1
    have HN := Lib.hid hno
    clear hno
    by_cases hlt : k + 1 < n
    · obtain ⟨b, off, o, rfl, hbl, ho, c0, _, _⟩ := (HX.out.below hb (Nat.le_refl _)).at_ hlt
      obtain ⟨b', off', q, hA, _, hq, d0, _, _⟩ := (HX.out.below hb (Nat.le_refl _)).at_ (k := k) (by omega)
      injection hA with hA
      injection hA with e1 e2
      subst e1; subst e2
      have hsb : serBad s (k + 1) = ((o.tx != q.tx) && hasTx (s.take (k + 1)) o.tx) := by
        unfold serBad
        rw [ho, show k + 1 - 1 = k from rfl, hq]
      have HSB := Lib.hid hsb
      have hcl : ∀ u : Later wr, ROps u.1 (some ⟨b, off, none⟩) (k + 1) (s.take (k + 1)) ∧ ClosOp u.1 43 #[.pointer (some ⟨w.heap.size, 0, none⟩), .pointer (some ⟨bi, 0, none⟩)] (s.take (k + 1)) (fun x => x.tx == o.tx) := by
        intro u
        refine ⟨((HX.out.below hb (Nat.le_refl _)).take (by omega)).later u, runs_IsSerial1, fun W' x hb' hx' => ?_⟩
        have hbW : Below wr.heap.size wr W' := u.2.trans (hb'.mono u.2.size)
        have e1 : ((k : Int) + 1) = ((k + 1 : Nat) : Int) := by omega
        refine IsSerial1_any x o (some ⟨b, off, none⟩) n c _ _ (k + 1) s W' (Later.cell hc0 ⟨W', hbW⟩) ?_ ((HX.out.below hb (Nat.le_refl _)).later ⟨W', hbW⟩) hlt ho
        rw [← e1]
        exact Later.cell hc1 ⟨W', hbW⟩
      have HCL := Lib.hid hcl
      have L0 := Later.cell hc0
      have L1 := Later.cell hc1
      have L2 := Later.cell c0
      have L3 := Later.cell d0
      have M0 := Lib.hid hc0
      have M1 := Lib.hid hc1
      clear hsb hcl ho hq c0 d0
      obtain ⟨tx, kd, it⟩ := o
      obtain ⟨qx, qk, qi⟩ := q
      simp only at L2 L3
      have hkc : k + 1 ≤ c := by omega
      have hkc' : (k : Int) + 1 ≤ (c : Int) := by omega
      cases hq : hasTx (s.take (k + 1)) tx
      all_goals
        have hcf : ∀ u : Later wr, Calls Try.prog 42 #[.slice (some ⟨b, off, none⟩) (k + 1) c, .func (.func 43) #[] #[.pointer (some ⟨w.heap.size, 0, none⟩), .pointer (some ⟨bi, 0, none⟩)]] u.1
            fun e w' => e = .returned (.bool (hasTx (s.take (k + 1)) tx)) ∧ Below u.1.heap.size u.1 w' := fun u =>
          ContainsFuncOp_any _ (k + 1) c _ _ _ _ u.1 (HCL.out u).1 (HCL.out u).2
        rw [hq] at hcf
        have HCF := Lib.hid hcf
        have HQ := Lib.hid hq
        clear hcf hq
        by_cases htx : tx = qx
        · subst htx
          go_wp2_with fail
          refine region_later (by kernel_rfl) (by kernel_rfl) ?_
          repeat (go_big_quiet_step (fail))
          refine wpQuiet_nil ?_
          rintro _ ⟨u, rfl⟩
          have hgood := HI.out.next u.2 (by rw [HSB.out]; simp)
          have hu := Later.cell M1.out u
          have hfu : u.1.frozen? ⟨bi, 0, none⟩ = false := (u.2.frozen (p := ⟨bi, 0, none⟩) (by simpa using hlt1)).trans hf1
          go_wp2_with fail
          go_roundg (n - (k + 1))
          case measure => omega
          case rel => first | exact ⟨k + 1, _, rfl, rfl, hgood.1⟩ | exact ⟨k + 1, _, rfl, rfl, hgood.2⟩
        · have ht1 : (tx != qx) = true := by simpa using htx
          have ht2 : (tx == qx) = false := by simpa using htx
          go_wp2_with fail
          refine region_later (by kernel_rfl) (by kernel_rfl) ?_
          repeat (go_big_quiet_step ((go_at_call 42; exact later_call _ (HCF.out _))))
          refine wpQuiet_nil ?_
          rintro _ ⟨u, rfl⟩
          first
            | (have hgood := HI.out.next u.2 (by rw [HSB.out, HQ.out]; simp)
               go_wp2_with fail
               go_roundg (n - (k + 1))
               case measure => omega
               case rel => first | exact ⟨k + 1, _, rfl, rfl, hgood.1⟩ | exact ⟨k + 1, _, rfl, rfl, hgood.2⟩)
            | (have hbad := Lib.hid (isSer_bad (by omega : k + 1 < s.length) (by rw [HSB.out, HQ.out]; simp [ht1]))
               go_wp2_with fail
               go_ret
               exact ⟨ret_bool (by unfold isSerV; rw [hbad.out]; rfl), hb.trans (u.2.mono hb.size)⟩)
    · have hs := Lib.hid (isSer_end (s := s) (k := k) (by omega) HN.out)
      go_wp2_with fail
      refine (ValidSchedule_any A n c s wr (HX.out.below hb (Nat.le_refl _)) hnc).mono ?_
      rintro e w2 ⟨rfl, hb2⟩
      go_wp2_with fail
      go_ret
      exact ⟨ret_bool (by unfold isSerV; rw [hs.out]; simp), hb.trans (hb2.mono hb.size)⟩
end Go.Proofs.Ytmookobaljcpbaa
