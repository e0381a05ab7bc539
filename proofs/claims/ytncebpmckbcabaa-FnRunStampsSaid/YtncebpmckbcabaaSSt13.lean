/-
  Texts that the proof rests on, joined: part 13.
-/
import Derived.Laws.EntriesVeiled
import Derived.Deep.RegionLaw
import Derived.Test.YtncebpmckbcabaaSSt12
namespace Go.Proofs.Ytncebpmckbcabaa
open Go.RowKit Go.BigFrame Go.Shelf
set_option linter.unusedVariables false

/-- A loop of the recursion: what lies and what has come. -/
structure FromInv (a bx l n c : Nat) (A : Option Addr) (list pre : List Int) (J : List (List Int) → World → Prop) (acc : List (List Int)) (V : World) : Prop where
  it : Iter a bx l n c A list pre V
  j : J acc V

theorem cell_grown {V W : World} {row : Option Nat} (hg : V.grownBy W row) {p : Addr} (hp : p.block < V.heap.size) (hne : some p.block ≠ row) : W.cell? p = V.cell? p := World.cell?_of_block (w := V) (hg.block _ hp hne)
theorem frozen_grown {V W : World} {row : Option Nat} (hg : V.grownBy W row) {p : Addr} (hp : p.block < V.heap.size) (hne : some p.block ≠ row) : W.frozen? p = V.frozen? p := by
  unfold World.frozen?
  rw [hg.block _ hp hne]
/-- One order more: what lies then. -/
theorem put_len {a bx l n c d : Nat} {A : Option Addr} {list pre : List Int} {t : Int} {V W : World} (hd : pre.length = d) (h : Iter a bx l n c A list pre V) (hg : V.grownBy W (some (a + 1))) (hbx : bx < a) (hA : ∀ ad, A = some ad → ad.block < a)
    (hrow : W.ownsRow a 3 1 (.slice (some ⟨a + 1, 0, none⟩) (d + 1) n) (d + 1) (intCells pre ++ [.int .i64 t])) :
    W.cell? ⟨a + 2, 0, none⟩ = some (.slice (some ⟨a + 1, 0, none⟩) d n) ∧ W.frozen? ⟨a + 2, 0, none⟩ = false ∧ Iter a bx l n c A list (pre ++ [t]) (W.setCell ⟨a + 2, 0, none⟩ (.slice (some ⟨a + 1, 0, none⟩) (d + 1) n)) ∧
      (W.setCell ⟨a + 2, 0, none⟩ (.slice (some ⟨a + 1, 0, none⟩) (d + 1) n)).cell? ⟨a + 3, 0, none⟩ = some (.func (.func 175) #[] #[.pointer (some ⟨a + 2, 0, none⟩), .pointer (some ⟨bx, 0, none⟩), .pointer (some ⟨a, 0, none⟩), .pointer (some ⟨a + 3, 0, none⟩)]) := by
  subst hd
  obtain ⟨c0, c2, f2, c3⟩ := h.cells
  have hs := h.sz
  have hl : (pre ++ [t]).length = pre.length + 1 := by simp
  have hI : Iter a bx l n c A list (pre ++ [t]) (W.setCell ⟨a + 2, 0, none⟩ (.slice (some ⟨a + 1, 0, none⟩) (pre ++ [t]).length n)) := h.put hg hbx hA (by rw [hl]; simpa [intCells] using hrow)
  rw [hl] at hI
  exact ⟨(cell_grown hg (p := ⟨a + 2, 0, none⟩) (by simp; omega) (by simp)).trans c2, (frozen_grown hg (p := ⟨a + 2, 0, none⟩) (by simp; omega) (by simp)).trans f2, hI, hI.cells.2.2.2⟩
theorem put_step {a : Nat} {V W : World} {u : Value} (hg : V.grownBy W (some (a + 1))) : ItStep a V (W.setCell ⟨a + 2, 0, none⟩ u) :=
  (ItStep.of_grown hg (fun g e => by injection e with e; omega)).trans (ItStep.set W u (p := ⟨a + 2, 0, none⟩) (by simp))

set_option maxRecDepth 100000 in
set_option maxHeartbeats 2000000 in
theorem from_any (a bx n0 l n c : Nat) (A : Option Addr) (list : List Int) (J : List (List Int) → World → Prop) (hP : PermCtx a bx n0 l n list J) (hbx : bx < a) (hA : ∀ ad, A = some ad → ad.block < n0) (hn0 : n0 ≤ a) (m : Nat) :
    ∀ (pre : List Int) (acc : List (List Int)) (V : World), Iter a bx l n c A list pre V → J acc V → pre.length + m = n → (acc ++ permF list m pre) <+: permF list n [] →
      Calls Try.prog 175 #[.pointer (some ⟨a + 2, 0, none⟩), .pointer (some ⟨bx, 0, none⟩), .pointer (some ⟨a, 0, none⟩), .pointer (some ⟨a + 3, 0, none⟩)] V fun e V' =>
        e = .returned (.bool true) ∧ Iter a bx l n c A list pre V' ∧ J (acc ++ permF list m pre) V' := by
  induction m with
  | zero =>
    intro pre acc V hI hJ hlen hpre
    exact from_zero a bx n0 l n c A list J hP hA pre acc V hI hJ (by omega) hpre
  | succ m ih =>
    intro pre acc V hI hJ hlen hpre
    obtain ⟨d, hh⟩ : ∃ d, pre.length = d := ⟨_, rfl⟩
    have HLEN := Lib.hid hh
    have hhn : d < n := by omega
    have hdm : d + m + 1 = n := by omega
    have hdn : ((d : Int) == (n : Int)) = false := by simp; omega
    obtain ⟨c0, c2, f2, c3⟩ := hI.cells
    rw [hh] at c2
    have clb := hI.lb
    have hln := hI.list.2.1
    have hlist := hI.list.1
    have HP := Lib.hid hP
    have HIH := Lib.hid ih
    have HPRE := Lib.hid hpre
    have HFI : Hid (FromInv a bx l n c A list pre J acc V) := ⟨hI, hJ⟩
    have HA := Lib.hid hA
    have HL := Lib.hid hlist
    clear hI hJ hP ih hpre hA hlist hlen hh
    go_enter Try.func175, Try.ntmps175
    go_wp2_with fail
    go_loopw [18] (fun i wr => ∃ k : Nat, k ≤ n ∧ i = .int .i64 k ∧ FromInv a bx l n c A list pre J (acc ++ (list.take k).flatMap (permN list m pre)) wr) (fun i _ => n - (intOf i).toNat)
    case atStart => exact ⟨0, Nat.zero_le _, rfl, by simpa using HFI.out⟩
    case round =>
      clear HFI c0 c2 f2 c3 clb
      obtain ⟨k, hk, rfl, hinv⟩ := hrel
      have HINV := Lib.hid hinv
      clear hinv
      by_cases hlt : k < n
      · obtain ⟨c0, c2, f2, c3⟩ := HINV.out.it.cells
        rw [HLEN.out] at c2
        obtain ⟨b, off, t, hAe, hbl, ho, ct⟩ := HINV.out.it.list.at_ hlt
        have hbA : b < a := by have := HA.out _ hAe; simp only at this; omega
        subst hAe
        have hst : (list.take (k + 1)).flatMap (permN list m pre) = (list.take k).flatMap (permN list m pre) ++ permN list m pre t := by
          rw [take_snoc ho, List.flatMap_append]; simp
        have hpx : permF list (m + 1) pre = ((list.take k).flatMap (permN list m pre) ++ permN list m pre t) ++ (list.drop (k + 1)).flatMap (permN list m pre) := by
          rw [permF_succ, ← hst, ← List.flatMap_append, List.take_append_drop]
        have HPX : Hid ((acc ++ (list.take k).flatMap (permN list m pre) ++ permN list m pre t) <+: permF list n []) := by
          have := HPRE.out
          rw [hpx] at this
          refine List.IsPrefix.trans ⟨(list.drop (k + 1)).flatMap (permN list m pre), ?_⟩ this
          simp [List.append_assoc]
        have HST : Hid (acc ++ (list.take (k + 1)).flatMap (permN list m pre) = acc ++ (list.take k).flatMap (permN list m pre) ++ permN list m pre t) := by show _ = _; rw [hst, List.append_assoc]
        have HN : Hid (permN list m pre t = if pre.any (fun y => y == t) then [] else permF list m (pre ++ [t])) := rfl
        clear hst hpx ho
        generalize acc ++ (list.take k).flatMap (permN list m pre) = acc1 at *
        generalize permN list m pre t = nx at *
        have hrow := HINV.out.it.row
        rw [HLEN.out] at hrow
        have hcI : Calls Try.prog 81 #[.slice (some ⟨a + 1, 0, none⟩) d n, .int .i64 t] wr fun e w' => e = .returned (.bool (pre.any fun y => y == t)) ∧ Below wr.heap.size wr w' := ContainsS_any (some ⟨a + 1, 0, none⟩) d n pre t wr (RInts.of_own hrow (by omega))
        obtain ⟨bc, hbc⟩ : ∃ bc, (pre.any fun y => y == t) = bc := ⟨_, rfl⟩
        have HBC := Lib.hid hbc
        rw [hbc] at hcI
        have HC := Lib.hid hcI
        have HROW := Lib.hid hrow
        have clb := HINV.out.it.lb
        have hsz := HINV.out.it.sz
        clear hcI hbc hrow
        cases bc
        · go_wp2_with fail
          refine (HC.out).mono ?_
          rintro e w1 ⟨rfl, hb1⟩
          have c2' := (hb1.cell (p := ⟨a + 2, 0, none⟩) (by simp; omega)).trans c2
          have f2' := (hb1.frozen (p := ⟨a + 2, 0, none⟩) (by simp; omega)).trans f2
          have hrow1 := (own_below HROW.out hb1).alloc (.cells #[.int .i64 t] 3)
          have hbw1 := hb1.size
          have HI1 : Hid (Iter a bx l n c (some ⟨b, off, none⟩) list pre (w1.alloc (.cells #[.int .i64 t] 3))) := HINV.out.it.below ((hb1.trans ((Below.refl wr.heap.size w1).alloc hbw1 _)))
          have HJ1 : Hid (∀ W, ItStep a (w1.alloc (.cells #[.int .i64 t] 3)) W → J acc1 W) := fun W hW => HP.out.abide _ _ _ HINV.out.j ((ItStep.of_below (hb1.trans ((Below.refl wr.heap.size w1).alloc hbw1 _))).trans hW)
          have HAB : Hid (∀ ad, some (⟨b, off, none⟩ : Addr) = some ad → ad.block < a) := fun ad h => by injection h with h; subst h; exact hbA
          go_wp2_with (at_builtin; refine wpList_append_fits _ rfl (.tmp 25) (.tmp 27) 26 rfl a 3 (info_parts intInfo).choose 1 Try.underlying26 (info_parts intInfo).choose_spec.1 (info_parts intInfo).choose_spec.2.2.1 (a + 1) d n (intCells pre) rfl hrow1 ⟨w1.heap.size, 0, none⟩ 1 1 [.int .i64 t] rfl rfl (cell_one_new _ _ _) (by simp [Value.oneCell']) (by omega) ?_; intro w3 hown3 hg3; have hpl := put_len HLEN.out HI1.out hg3 hbx HAB.out hown3; have c2w := hpl.1; have f2w := hpl.2.1; have c3w := hpl.2.2.2; have HI4 := Lib.hid hpl.2.2.1; have HJ4 := Lib.hid (HJ1.out _ (put_step (u := .slice (some ⟨a + 1, 0, none⟩) (d + 1) n) hg3)); clear hpl hown3 hg3)
          have hlen4 : (pre ++ [t]).length + m = n := by simp [HLEN.out]; omega
          refine (HIH.out (pre ++ [t]) acc1 _ HI4.out HJ4.out hlen4 (by have := HPX.out; rw [HN.out, HBC.out] at this; simpa using this)).mono ?_
          rintro e w5 ⟨rfl, hI5, hJ5⟩
          obtain ⟨_, c25, f25, _⟩ := hI5.cells
          have hl5 : (pre ++ [t]).length = d + 1 := by simp [HLEN.out]
          rw [hl5] at c25
          have s1 : IntKind.i64.wrap (((d + 1 : Nat) : Int) - 1) = (d : Int) := by rw [IntWalk.i64_in _ (by omega)]; omega
          have HI5 := Lib.hid hI5
          have HJ5 := Lib.hid hJ5
          clear hI5 hJ5 c2w f2w c3w
          go_wp2_with fail
          go_roundw
          case rel => exact ⟨k + 1, by omega, by go_num, by
            rw [HST.out, HN.out, HBC.out, if_neg (by simp)]
            refine ⟨?_, HP.out.abide _ _ _ HJ5.out (ItStep.set _ _ (by simp))⟩
            have hr := HI5.out.row
            rw [hl5] at hr
            have h6 := HI5.out.put (pre' := pre) (World.grownBy.refl _ _) hbx HAB.out (by rw [HLEN.out]; exact own_less (xs := pre) hr HLEN.out)
            rw [HLEN.out] at h6
            exact h6⟩
          case measure => simp [intOf]; omega
        · go_wp2_with fail
          refine (HC.out).mono ?_
          rintro e w1 ⟨rfl, hb1⟩
          go_wp2_with fail
          go_roundw
          case rel => exact ⟨k + 1, by omega, by go_num, by
            rw [HST.out, HN.out, HBC.out, if_pos rfl, List.append_nil]
            exact ⟨HINV.out.it.below hb1, HP.out.abide _ _ _ HINV.out.j (ItStep.of_below hb1)⟩⟩
          case measure => simp [intOf]; omega
      · obtain rfl : k = n := by omega
        go_wp2_with fail
        go_ret
        have e : list.take k = list := List.take_of_length_le (by have := HL.out; omega)
        have hi := HINV.out
        rw [e] at hi
        exact ⟨rfl, hi.it, hi.j⟩
end Go.Proofs.Ytncebpmckbcabaa
namespace Go.Proofs.Ytncebpmckbcabaa
open Go.RowKit Go.BigFrame Go.Shelf
set_option linter.unusedVariables false

attribute [local go_sem] Oper.semAt_some

theorem run_mkInts (n : Nat) (hn : n ≤ 1000000) (w : World) : ∃ cs : Array Value, cs.size = n ∧
    (Instr.makeSlice 26 (.int .i64 0) (.int .i64 (n : Int))).run Try.prog w = .ok (.slice (some ⟨w.heap.size, 0, none⟩) 0 n) (w.alloc (.cells cs 3)) := by
  obtain ⟨i0, hi, hz0, hz1, hz2⟩ := info_parts intInfo
  have := run_makeSlice (P := Try.prog) (w := w) 26 3 i0 _ Try.underlying26 hi hz0 .i64 .i64 0 (n : Int) (Int.le_refl _) (by omega) (by rw [hz1]; omega) (by rw [hz2]; omega) (by omega)
  simp only [Int.toNat_zero, Int.toNat_natCast, hz1] at this
  exact ⟨_, by rw [size_madeCells]; omega, this⟩

set_option maxHeartbeats 1000000 in
/-- 'permutations(list)': a closure over the list's box. -/
theorem permutations_any (A : Option Addr) (n c : Nat) (w : World) :
    Calls Try.prog 153 #[.slice A n c] w fun e w' => e = .returned (.func (.func 174) #[] #[.pointer (some ⟨w.heap.size, 0, none⟩)]) ∧ w' = w.alloc (.cells #[.slice A n c] 26) := by
  go_enter Try.func153, Try.ntmps153
  go_wp2_with fail
  go_ret
  exact ⟨rfl, rfl⟩

/-- What lies where the recursion begins. -/
theorem iter_start {bx l n c : Nat} {A : Option Addr} {list : List Int} {W : World} {cs : Array Value} (hcs : cs.size = n) (hb : W.cell? ⟨bx, 0, none⟩ = some (.slice A n c)) (hl : RInts W A n list) (hn : n ≤ 4) :
    Iter W.heap.size bx l n c A list [] ((((W.alloc (.cells #[.func (.yield l) #[] #[]] 43)).alloc (.cells cs 3)).alloc (.cells #[.slice (some ⟨W.heap.size + 1, 0, none⟩) 0 n] 26)).alloc (.cells #[.func (.func 175) #[] #[.pointer (some ⟨W.heap.size + 2, 0, none⟩), .pointer (some ⟨bx, 0, none⟩), .pointer (some ⟨W.heap.size, 0, none⟩), .pointer (some ⟨W.heap.size + 3, 0, none⟩)]] 91)) := by
  obtain ⟨W1, h1⟩ : ∃ W1, W.alloc (.cells #[.func (.yield l) #[] #[]] 43) = W1 := ⟨_, rfl⟩
  obtain ⟨W2, h2⟩ : ∃ W2, W1.alloc (.cells cs 3) = W2 := ⟨_, rfl⟩
  obtain ⟨W3, h3⟩ : ∃ W3, W2.alloc (.cells #[.slice (some ⟨W.heap.size + 1, 0, none⟩) 0 n] 26) = W3 := ⟨_, rfl⟩
  obtain ⟨W4, h4⟩ : ∃ W4, W3.alloc (.cells #[.func (.func 175) #[] #[.pointer (some ⟨W.heap.size + 2, 0, none⟩), .pointer (some ⟨bx, 0, none⟩), .pointer (some ⟨W.heap.size, 0, none⟩), .pointer (some ⟨W.heap.size + 3, 0, none⟩)]] 91) = W4 := ⟨_, rfl⟩
  rw [h1, h2, h3, h4]
  have s1 : W1.heap.size = W.heap.size + 1 := by rw [← h1]; simp
  have s2 : W2.heap.size = W.heap.size + 2 := by rw [← h2]; simp; omega
  have s3 : W3.heap.size = W.heap.size + 3 := by rw [← h3]; simp; omega
  have b4 : Below W3.heap.size W3 W4 := by rw [← h4]; exact (Below.refl _ _).alloc (Nat.le_refl _) _
  have b3 : Below W2.heap.size W2 W4 := by
    refine Below.trans ?_ (b4.mono (by omega))
    rw [← h3]; exact (Below.refl _ _).alloc (Nat.le_refl _) _
  have b2 : Below W1.heap.size W1 W4 := by
    refine Below.trans ?_ (b3.mono (by omega))
    rw [← h2]; exact (Below.refl _ _).alloc (Nat.le_refl _) _
  have b1 : Below W.heap.size W W4 := by
    refine Below.trans ?_ (b2.mono (by omega))
    rw [← h1]; exact (Below.refl _ _).alloc (Nat.le_refl _) _
  have k1 : W1.heap[W.heap.size]? = some (.cells #[.func (.yield l) #[] #[]] 43 (0, 0)) := by rw [← h1]; exact heap_alloc_new W _
  have k2 : W2.ownsRow W.heap.size 3 1 (.slice (some ⟨W.heap.size + 1, 0, none⟩) 0 n) 0 (intCells []) := by
    have := World.ownsRow_made (base := W.heap.size) (e := 3) (size := 1) W1 cs n (by omega) (by unfold maxLen; omega) (by omega)
    rw [s1, h2] at this
    exact this
  have k3 : W3.heap[W.heap.size + 2]? = some (.cells #[.slice (some ⟨W.heap.size + 1, 0, none⟩) 0 n] 26 (0, 0)) := by
    have := heap_alloc_new W2 (.cells #[.slice (some ⟨W.heap.size + 1, 0, none⟩) 0 n] 26)
    rw [h3, s2] at this; exact this
  have k4 := heap_alloc_new W3 (.cells #[.func (.func 175) #[] #[.pointer (some ⟨W.heap.size + 2, 0, none⟩), .pointer (some ⟨bx, 0, none⟩), .pointer (some ⟨W.heap.size, 0, none⟩), .pointer (some ⟨W.heap.size + 3, 0, none⟩)]] 91)
  rw [h4, s3] at k4
  exact ⟨(b2.block _ (by omega)).trans k1, own_below k2 b3, (b4.block _ (by omega)).trans k3, k4, (b1.cell (p := ⟨bx, 0, none⟩) (block_lt_of_cell hb)).trans hb, hl.below b1 (Nat.le_refl _)⟩

set_option maxRecDepth 100000 in
set_option maxHeartbeats 2000000 in
/-- The closure, called with what takes the orders: all of them come, in order. -/
theorem perms_any (bx n0 l n c : Nat) (A : Option Addr) (list : List Int) (J : List (List Int) → World → Prop) (W : World) (hP : PermCtx W.heap.size bx n0 l n list J)
    (hb : W.cell? ⟨bx, 0, none⟩ = some (.slice A n c)) (hl : RInts W A n list) (hA : ∀ ad, A = some ad → ad.block < n0) (hn0 : n0 ≤ W.heap.size) (hn4 : n ≤ 4) (h0 : J [] W) :
    Calls Try.prog 174 #[.func (.yield l) #[] #[], .pointer (some ⟨bx, 0, none⟩)] W fun e W' => (∃ v, e = .returned v) ∧ J (permF list n []) W' := by
  obtain ⟨cs, hcs, hmk⟩ := run_mkInts n (by omega) (W.alloc (.cells #[.func (.yield l) #[] #[]] 43))
  have hbx : bx < W.heap.size := by have := block_lt_of_cell hb; simpa using this
  have HX := Lib.hid (And.intro hl (And.intro h0 hP))
  have HA := Lib.hid hA
  have HCS := Lib.hid hcs
  clear hl h0 hP hA hcs
  go_enter Try.func174, Try.ntmps174
  go_wp2_with fail
  refine (from_any W.heap.size bx n0 l n c A list J HX.out.2.2 hbx HA.out hn0 n [] [] _ (iter_start HCS.out hb HX.out.1 hn4) (HX.out.2.2.abide _ _ _ HX.out.2.1 ?hst) (by simp) (by simp)).mono ?_
  case hst => exact ItStep.of_below ((((Below.refl _ W).alloc (Nat.le_refl _) _).alloc (by simp) _).alloc (by simp; omega) _ |>.alloc (by simp; omega) _)
  rintro e w5 ⟨rfl, _, hJ5⟩
  have HJ5 := Lib.hid hJ5
  clear hJ5
  go_wp2_with fail
  go_end0
  exact ⟨⟨_, rfl⟩, by have := HJ5.out; simpa using this⟩
end Go.Proofs.Ytncebpmckbcabaa
namespace Go.Proofs.Ytncebpmckbcabaa
open Go.RowKit Go.BigFrame Go.Shelf
set_option linter.unusedVariables false

/-- Six blocks more: what is made behind them is made since. -/
def six (w : World) : World := (((((w.alloc (.cells #[] 3)).alloc (.cells #[] 3)).alloc (.cells #[] 3)).alloc (.cells #[] 3)).alloc (.cells #[] 3)).alloc (.cells #[] 3)
theorem six_size (w : World) : (six w).heap.size = w.heap.size + 6 := by simp [six]

/-- A step of the loop's statement and of the iterator, as the body's own things see it. -/
structure LpStep (b : Nat) (V W : World) : Prop where
  os : W.os = V.os
  tape : W.tape = V.tape
  output : W.output = V.output
  size : V.heap.size ≤ W.heap.size
  block : ∀ k, k < V.heap.size → ¬ (b ≤ k ∧ k < b + 6) → W.heap[k]? = V.heap[k]?
theorem LpStep.refl (b : Nat) (V : World) : LpStep b V V := ⟨rfl, rfl, rfl, Nat.le_refl _, fun _ _ _ => rfl⟩
theorem LpStep.trans {b : Nat} {U V W : World} (h : LpStep b U V) (k : LpStep b V W) : LpStep b U W :=
  ⟨k.os.trans h.os, k.tape.trans h.tape, k.output.trans h.output, Nat.le_trans h.size k.size, fun i hi hn => (k.block i (Nat.lt_of_lt_of_le hi h.size) hn).trans (h.block i hi hn)⟩
theorem LpStep.of_below {b : Nat} {V W : World} (h : Below V.heap.size V W) : LpStep b V W := ⟨h.os, h.tape, h.output, h.size, fun k hk _ => h.block k hk⟩
theorem LpStep.of_it {b : Nat} {V W : World} (h : ItStep (b + 2) V W) : LpStep b V W := ⟨h.os, h.tape, h.output, h.size, fun k hk hn => h.block k hk (fun e => hn (by omega))⟩
theorem LpStep.put {b : Nat} (V : World) {l : Nat} (o : Obj) (hl : b ≤ l ∧ l < b + 6) : LpStep b V (V.putObj l o) :=
  ⟨rfl, rfl, rfl, by simp, fun k hk hn => World.putObj_heap_other (by rintro rfl; exact hn hl)⟩
/-- What a round's body keeps. -/
structure BdKeep (b bx n0 : Nat) (V W : World) : Prop where
  size : V.heap.size ≤ W.heap.size
  block : ∀ k, k < V.heap.size → (k < n0 ∨ k = bx ∨ (b ≤ k ∧ k < b + 6)) → W.heap[k]? = V.heap[k]?
theorem BdKeep.trans {b bx n0 : Nat} {U V W : World} (h : BdKeep b bx n0 U V) (k : BdKeep b bx n0 V W) : BdKeep b bx n0 U W :=
  ⟨Nat.le_trans h.size k.size, fun i hi hn => (k.block i (Nat.lt_of_lt_of_le hi h.size) hn).trans (h.block i hi hn)⟩
theorem BdKeep.of_below {b bx n0 : Nat} {V W : World} (h : Below V.heap.size V W) : BdKeep b bx n0 V W := ⟨h.size, fun k hk _ => h.block k hk⟩

def permPost (b bx n0 : Nat) (I : List (List Int) → World → Prop) (xs : List (List Int)) (W : World) : Exit → Act → World → Prop
  | .normal, _, W' => BdKeep b bx n0 W W' ∧ I xs W'
  | _, _, _ => False

theorem wpIn_rangePerm {g : Operand} {ps : Array Tmp} {assign body : Code} {Q : Exit → Act → World → Prop} {a : Act} {w : World} {N : Nat} (bx n0 n c : Nat) (A : Option Addr) (list : List Int)
    (hg : a.eval g = .func (.func 174) #[] #[.pointer (some ⟨bx, 0, none⟩)]) (hps : ps.size = 1)
    (hb : w.cell? ⟨bx, 0, none⟩ = some (.slice A n c)) (hl : RInts w A n list) (hA : ∀ ad, A = some ad → ad.block < n0) (hn0 : n0 ≤ w.heap.size) (hn4 : n ≤ 4)
    (I : List (List Int) → World → Prop) (hI : ∀ s V W, I s V → LpStep w.heap.size V W → I s W) (h0 : I [] w) (a₁ : Value → Act)
    (hassign : ∀ (l m : Nat) (v : Value) (W : World) (K : Act → World → Prop), K (a₁ v) W →
      assign.wpIn (Fence.wide.inRound l) m Try.prog (Exit.then K (fun _ _ _ => False)) { tmps := (ps.zip #[v]).foldl (fun t (p, v) => t.setIfInBounds p v) a.tmps, defers := [] } W)
    (hbody : ∀ (l m : Nat) (pre : List (List Int)) (x : List Int) (V W : World) (A' : Option Addr) (c' : Nat), I pre V → LpStep w.heap.size V W → w.heap.size + 6 ≤ V.heap.size → FreshInts V W A' n x → n ≤ c' → (pre ++ [x]) <+: permF list n [] →
      body.wpIn (Fence.wide.inRound l) m Try.prog (permPost w.heap.size bx n0 I (pre ++ [x]) W) (a₁ (.slice A' n c')) W)
    (hdone : ∀ W : World, I (permF list n []) W → w.heap.size < W.heap.size → W.heap[w.heap.size]? = some (.deferred (some [])) → Q .normal { a with defers := { target := .collected w.heap.size, args := #[] } :: a.defers } W) :
    (Code.rangeFunc g ps assign body).wpIn Fence.wide N Try.prog Q a w := by
  refine wpIn_rangeFunc ?_
  intro fn hfn
  rw [Fence.wide_round]
  obtain ⟨rec, hrec⟩ : ∃ rec : LoopState → Loop, rec = fun st => { state := st, pending := none, fn, tmps := a.tmps, params := ps, assign, body, defers := w.heap.size } := ⟨_, rfl⟩
  obtain ⟨W1, hW1⟩ : ∃ W1, (w.alloc (.deferred (some []))).alloc (.loop (rec .ready)) = W1 := ⟨_, rfl⟩
  have hL1 : W1.heap[w.heap.size + 1]? = some (.loop (rec .ready)) := by
    rw [← hW1]; have := World.alloc_heap_new (w.alloc (.deferred (some []))) (.loop (rec .ready)); rwa [World.size_alloc] at this
  have hK1 : W1.heap[w.heap.size]? = some (.deferred (some [])) := by
    rw [← hW1]; exact (Below.heap_alloc _ _ _ (by simp)).trans (World.alloc_heap_new w _)
  have hb1 : Below w.heap.size w W1 := by
    rw [← hW1]; exact (((Below.refl _ w).alloc (Nat.le_refl _) _).alloc (by simp) _)
  have hs1 : W1.heap.size = w.heap.size + 2 := by rw [← hW1]; simp
  have hI1 : I [] W1 := hI _ _ _ h0 (LpStep.of_below hb1)
  have hbx : bx < w.heap.size := block_lt_of_cell hb
  refine ⟨w.heap.size + 1, [{ target := .collected w.heap.size, args := #[] }], W1, { target := .fn (.func 174) #[.pointer (some ⟨bx, 0, none⟩)], args := #[.func (.yield (w.heap.size + 1)) #[] #[]] }, W1, 174,
    #[.func (.yield (w.heap.size + 1)) #[] #[], .pointer (some ⟨bx, 0, none⟩)], W1, ?_, ?_, fun f' hf' => trivial, ?_, fun h => by simp [Fence.wide] at h, ?_⟩
  · rw [← hW1, hrec]; exact run_enterLoop_outer _ _ _ _ _
  · simp only [resolve, hg]
    simp [go_sem]
  · have eg : ∀ args w, (callFunc 174 args).run Try.prog w = .ok (.enter 174 args) w := enters_of Try.func174 (by kernel_rfl) rfl
    simp [invoke, go_sem, eg]
  · refine callsIn_wide.2 ((perms_any bx n0 (w.heap.size + 1) n c A list
      (fun pre V => I pre V ∧ V.heap[w.heap.size + 1]? = some (.loop (rec .ready)) ∧ V.heap[w.heap.size]? = some (.deferred (some []))) W1 ?_
      ((hb1.cell (p := ⟨bx, 0, none⟩) hbx).trans hb) (hl.below hb1 (Nat.le_refl _)) hA (by omega) hn4 ⟨hI1, hL1, hK1⟩).mono ?_)
    · rw [hs1]
      refine ⟨fun s V W hs hst => ?_, fun acc x V W A' c' m hj hst hsz hf hc' hpre => ?_⟩
      · obtain ⟨hi, hlp, hdf⟩ := hs
        exact ⟨hI _ _ _ hi (LpStep.of_it hst), (hst.block _ (Array.getElem?_eq_some_iff.1 hlp).1 (by omega)).trans hlp, (hst.block _ (Array.getElem?_eq_some_iff.1 hdf).1 (by omega)).trans hdf⟩
      · obtain ⟨hi0, hl0, hk0⟩ := hj
        have hi : I acc W := hI _ _ _ hi0 (LpStep.of_it hst)
        have hlp : W.heap[w.heap.size + 1]? = some (.loop (rec .ready)) := (hst.block _ (Array.getElem?_eq_some_iff.1 hl0).1 (by omega)).trans hl0
        have hk : W.heap[w.heap.size]? = some (.deferred (some [])) := (hst.block _ (Array.getElem?_eq_some_iff.1 hk0).1 (by omega)).trans hk0
        have hlt : w.heap.size + 1 < W.heap.size := (Array.getElem?_eq_some_iff.1 hlp).1
        have hy := run_yield (P := Try.prog) (args := #[.slice A' n c']) hlp (by rw [hrec]; simp [hps])
        rw [hrec] at hy
        refine ⟨fn, _, assign, body, hy, roundIn_of_wpIn hfn (hassign _ m (.slice A' n c') W _ ⟨_, run_beginRound hlp (by rw [hrec]), ?_⟩)⟩
        have hl2 : (W.putObj (w.heap.size + 1) (.loop { rec .ready with state := .busy })).heap[w.heap.size + 1]? = some (.loop { rec .ready with state := .busy }) := World.putObj_heap_same hlt
        have hk2 : (W.putObj (w.heap.size + 1) (.loop { rec .ready with state := .busy })).heap[w.heap.size]? = some (.deferred (some [])) := (World.putObj_heap_other (by omega)).trans hk
        have hf2 : FreshInts V (W.putObj (w.heap.size + 1) (.loop { rec .ready with state := .busy })) A' n x := by
          refine (hf.grownT (grownBy_putObj' W (w.heap.size + 1) _) ?_)
          intro g hg' cur hcur
          injection hg' with hg'
          subst hg'
          rw [hlp] at hcur
          cases hcur
        refine wpIn_mono (hbody _ m acc x V _ A' c' hi0 ((LpStep.of_it hst).trans (LpStep.put _ _ (by omega))) (by omega) hf2 hc' hpre) ?_
        rintro e a3 W3 hp
        cases e with
        | normal =>
          obtain ⟨hk3, hi3⟩ := hp
          have hl3 : W3.heap[w.heap.size + 1]? = some (.loop { rec .ready with state := .busy }) := (hk3.block _ (by simp; omega) (.inr (.inr (by omega)))).trans hl2
          have hd3 : W3.heap[w.heap.size]? = some (.deferred (some [])) := (hk3.block _ (by simp; omega) (.inr (.inr (by omega)))).trans hk2
          have hr := run_endRound (P := Try.prog) none hl3
          rw [hrec] at hr
          refine ⟨_, _, hr, rfl, ⟨hI _ _ _ hi3 (LpStep.put _ _ (by omega)), ?_, (World.putObj_heap_other (by omega)).trans hd3⟩, ?_, ?_⟩
          · rw [hrec]; exact World.putObj_heap_same (Array.getElem?_eq_some_iff.1 hl3).1
          · have := hk3.size; simp at this ⊢; exact this
          · intro k hkk hc
            have hne : k ≠ w.heap.size + 1 := by omega
            refine (World.putObj_heap_other hne).trans ((hk3.block k (by simpa using hkk) ?_).trans (World.putObj_heap_other hne))
            rcases hc with h | h | h
            · exact .inl h
            · exact .inr (.inl h)
            · exact .inr (.inr (by omega))
        | ret => exact hp.elim
        | exit id => exact hp.elim
        | goto t => exact hp.elim
        | panic ch => exact hp.elim
        | outgrown => exact hp.elim
    · rintro e W2 ⟨⟨v, rfl⟩, hi, hlp, hdf⟩
      have := run_endLoop (P := Try.prog) hlp (by rw [hrec]; simp)
      rw [hrec] at this
      exact ⟨none, _, this, hdone _ (hI _ _ _ hi (LpStep.put _ _ (by omega))) (by simpa using (Array.getElem?_eq_some_iff.1 hdf).1) ((World.putObj_heap_other (by omega)).trans hdf)⟩
#print axioms wpIn_rangePerm
end Go.Proofs.Ytncebpmckbcabaa
namespace Go.Proofs.Ytncebpmckbcabaa
open Go.RowKit Go.BigFrame
set_option linter.unusedVariables false

theorem flat_len {f : Int → List (List Int)} {M : Nat} (hf : ∀ t, (f t).length ≤ M) (l : List Int) : (l.flatMap f).length ≤ l.length * M := by
  induction l with
  | nil => simp
  | cons x r ihl =>
    rw [List.flatMap_cons, List.length_append, List.length_cons, Nat.add_mul, Nat.one_mul]
    have := hf x
    omega
end Go.Proofs.Ytncebpmckbcabaa
