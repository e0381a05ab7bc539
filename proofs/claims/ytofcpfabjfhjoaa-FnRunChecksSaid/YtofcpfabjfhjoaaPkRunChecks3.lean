/-
  The texts that the proof rests on, joined: part 3.
-/
import Derived.Laws.CopyOwn
import Derived.Deep.RegionLaw
import Derived.StillTailTactics
import Derived.Test.YtofcpfabjfhjoaaPkRunChecks2
namespace Go.Proofs.Ytofcpfabjfhjoaa
open Go.RowKit Go.BigFrame
set_option linter.unusedVariables false

theorem endOf_ge {s : List OpV} {r : OpV} (h : r ∈ s) (he : isEnd r = true) : ¬ endOf s r.tx < 0 := by
  unfold endOf
  cases e : s.find? (fun x => x.tx == r.tx && isEnd x) with
  | none =>
    have := List.find?_eq_none.1 e r h
    simp [he] at this
  | some q =>
    have hq := List.find?_some e
    simp only [Bool.and_eq_true] at hq
    have := hq.2
    unfold isEnd at this
    simp only [Bool.or_eq_true, beq_iff_eq] at this
    simp only [Option.map_some, Option.getD_some]
    omega
theorem strict_none {D : List OpV} (h : StrictL D) : faultZ (openB isWr D) D.length = -1 := by
  refine faultZ_none fun j hj => ?_
  unfold openB
  rw [List.getElem?_eq_getElem hj]
  simp only
  rw [List.any_eq_false]
  intro o ho hb
  simp only [Bool.and_eq_true, decide_eq_true_eq] at hb
  have hk : o.kind = 1 := by have := hb.1.1; unfold isWr at this; simpa using this
  obtain ⟨r, hr, he, ht⟩ := h j _ (List.getElem?_eq_getElem hj) o ho hk hb.1.2
  have := endOf_ge hr he
  rw [ht] at this
  exact this hb.2
theorem metTo_true {s : List OpV} {k j : Nat} {q o : OpV} {m : Nat} (h : metTo s k q o j m = true) : ∃ d p, d < m ∧ s[j + 1 + d]? = some p ∧ metIn s k q o p = true := by
  induction m with
  | zero => cases h
  | succ m ih =>
    simp only [metTo, Bool.or_eq_true] at h
    rcases h with h | h
    · obtain ⟨d, p, hd, r⟩ := ih h
      exact ⟨d, p, by omega, r⟩
    · cases e : s[j + 1 + m]? with
      | none => rw [e] at h; cases h
      | some p => rw [e] at h; exact ⟨m, p, by omega, e, h⟩
theorem metUp_true {s : List OpV} {k : Nat} {q : OpV} {j : Nat} (h : metUp s k q j = true) : ∃ i o, i < j ∧ s[i]? = some o ∧ metTo s k q o i (k - (i + 1)) = true := by
  induction j with
  | zero => cases h
  | succ j ih =>
    simp only [metUp, Bool.or_eq_true] at h
    rcases h with h | h
    · obtain ⟨i, o, hi, r⟩ := ih h
      exact ⟨i, o, by omega, r⟩
    · cases e : s[j]? with
      | none => rw [e] at h; cases h
      | some o => rw [e] at h; exact ⟨j, o, by omega, e, h⟩
theorem commits_none {D : List OpV} (h : CommL D) : faultZ (commB D) D.length = -1 := by
  refine faultZ_none fun j hj => ?_
  cases hb : commB D j
  · rfl
  · exfalso
    unfold commB at hb
    rw [List.getElem?_eq_getElem hj] at hb
    simp only [Bool.and_eq_true, beq_iff_eq] at hb
    obtain ⟨i, o, hi, ho, hm⟩ := metUp_true hb.2
    obtain ⟨d, p, hd, hp, hin⟩ := metTo_true hm
    unfold metIn at hin
    simp only [Bool.and_eq_true, beq_iff_eq] at hin
    have := h j _ (List.getElem?_eq_getElem hj) hb.1 i (i + 1 + d) o p (by omega) (by omega) ho hp hin.1.1
    rw [this] at hin
    cases hin.1.2


set_option maxHeartbeats 400000 in
theorem keepsStrict_any (A : Option Addr) (n c : Nat) (s : List OpV) (w : World) (hx : ROps w A n s) (hnc : n ≤ c) :
    Calls Try.prog 62 #[.string { data := #[115, 116, 114, 105, 99, 116] }, .slice A n c] w fun e w' => e = .returned (.bool (validS s && faultZ (openB isWr s) s.length == -1)) ∧ Below w.heap.size w w' := by
  have HX := Lib.hid hx
  clear hx
  obtain ⟨Z, hZ⟩ : ∃ z, faultZ (openB isWr s) s.length = z := ⟨_, rfl⟩
  obtain ⟨V, hV⟩ : ∃ z, validS s = z := ⟨_, rfl⟩
  have hF : Calls Try.prog 108 #[.string { data := #[115, 116, 114, 105, 99, 116] }, .slice A n c] w fun e w' => e = .returned (.tuple #[.int .i64 (if V then Z else -1), .bool V]) ∧ Below w.heap.size w w' := by
    have := faultStrict_any A n c s w HX.out hnc
    unfold FaultP at this
    rw [hZ, hV] at this
    exact this
  rw [hZ, hV]
  have HF := Lib.hid hF
  clear hF hZ hV
  go_enter Try.func62, Try.ntmps62
  go_wp2_with fail
  refine HF.out.mono ?_
  cases V
  · rintro e w1 ⟨rfl, hb1⟩
    go_wp2_with fail
    go_ret
    exact ⟨ret_bool (by first | rfl | simp), hb1⟩
  · rintro e w1 ⟨rfl, hb1⟩
    go_wp2_with fail
    go_ret
    exact ⟨ret_bool (by first | rfl | simp), hb1⟩


set_option maxHeartbeats 400000 in
theorem keepsCommits_any (A : Option Addr) (n c : Nat) (s : List OpV) (w : World) (hx : ROps w A n s) (hnc : n ≤ c) :
    Calls Try.prog 62 #[.string { data := #[99, 111, 109, 109, 105, 116, 115] }, .slice A n c] w fun e w' => e = .returned (.bool (validS s && faultZ (commB s) s.length == -1)) ∧ Below w.heap.size w w' := by
  have HX := Lib.hid hx
  clear hx
  obtain ⟨Z, hZ⟩ : ∃ z, faultZ (commB s) s.length = z := ⟨_, rfl⟩
  obtain ⟨V, hV⟩ : ∃ z, validS s = z := ⟨_, rfl⟩
  have hF : Calls Try.prog 108 #[.string { data := #[99, 111, 109, 109, 105, 116, 115] }, .slice A n c] w fun e w' => e = .returned (.tuple #[.int .i64 (if V then Z else -1), .bool V]) ∧ Below w.heap.size w w' := by
    have := faultCommits_any A n c s w HX.out hnc
    unfold FaultP at this
    rw [hZ, hV] at this
    exact this
  rw [hZ, hV]
  have HF := Lib.hid hF
  clear hF hZ hV
  go_enter Try.func62, Try.ntmps62
  go_wp2_with fail
  refine HF.out.mono ?_
  cases V
  · rintro e w1 ⟨rfl, hb1⟩
    go_wp2_with fail
    go_ret
    exact ⟨ret_bool (by first | rfl | simp), hb1⟩
  · rintro e w1 ⟨rfl, hb1⟩
    go_wp2_with fail
    go_ret
    exact ⟨ret_bool (by first | rfl | simp), hb1⟩


set_option maxHeartbeats 400000 in
theorem runSchedule_any (rb p : Nat) (w : World) (h : Rd w rb p) (hp : p ≤ 40000) :
    Calls Try.prog 107 #[.pointer (some ⟨rb, 0, none⟩)] w (SomeSched w rb) := by
  have hlt := h.lt
  go_enter Try.func107, Try.ntmps107
  go_wp2_with fail
  refine (pick_any rb p 24 w h (by omega) (by omega)).mono ?_
  rintro e w1 ⟨k, rfl, hr1, _, _, ho1⟩
  by_cases h0 : k = 0
  · subst h0
    go_wp2_with fail
    refine (someSchedule_any rb (p + 1) w1 hr1 (by omega)).mono ?_
    rintro e w2 ⟨A, n, c, q, xs, rfl, hown, hn, hr, hq, hO⟩
    go_wp2_with fail
    go_ret
    exact ⟨A, n, c, q, xs, rfl, own_base hown ho1.size, hn, hr, hq, ho1.trans hO⟩
  · go_wp2_with fail
    refine (goodSchedule_any rb (p + 1) 12 w1 hr1 (by omega) (by omega)).mono ?_
    rintro e w2 ⟨v, n, xs, q, rfl, hown, hn, hr, hq, hO⟩
    obtain ⟨A, c, rfl⟩ := own_form hown
    go_wp2_with fail
    refine (bent_any rb q w1.heap.size n c A xs w1 w2 hr (by omega) hown hn hO (Nat.le_refl _) (Nat.lt_of_lt_of_le hlt ho1.size)).mono ?_
    rintro e w3 ⟨xs', q', rfl, hown', hr', hq', hO'⟩
    go_wp2_with fail
    go_ret
    exact ⟨A, n, c, q', xs', rfl, own_base hown' ho1.size, hn, hr', hq', ho1.trans hO'⟩
set_option maxHeartbeats 400000 in
theorem DrawRunChecks_any (A : Option Addr) (n c : Nat) (w : World) (hx : RBytes w A n) (hc : n ≤ c) :
    Calls Try.prog 61 #[.slice A n c] w (Drawn w) := by
  go_enter Try.func61, Try.ntmps61
  go_wp2_with fail
  refine (newReader_any A n c w hx hc).mono ?_
  rintro e w1 ⟨rb, rfl, hrb, hr, hb⟩
  go_wp2_with fail
  refine (runSchedule_any rb 0 w1 hr (by omega)).mono ?_
  rintro e w2 ⟨A', n', c', p', xs, rfl, hown, hn', _, _, hO⟩
  go_wp2_with fail
  go_ret
  have hs := hb.size
  exact ⟨A', n', c', xs, rfl, own_base hown hs, hn', hb.trans ⟨hO.os, hO.tape, hO.output, hO.size, fun k hk => hO.heap (by omega) (by omega)⟩⟩
end Go.Proofs.Ytofcpfabjfhjoaa
namespace Go.Proofs.Ytofcpfabjfhjoaa
open Go.RowKit Go.BigFrame
set_option linter.unusedVariables false

set_option maxHeartbeats 400000 in
theorem ClipOps_any (A : Option Addr) (n c : Nat) (w : World) (hn : n ≤ 1099511627776) (hnc : n ≤ c) :
    Calls Try.prog 105 #[.slice A n c] w fun e w' => e = .returned (.slice A n n) ∧ w = w' := by
  go_enter Try.func105, Try.ntmps105
  go_wp2_with fail
  go_ret
  exact ⟨rfl, rfl⟩
set_option maxHeartbeats 400000 in
theorem ClipInts_any (A : Option Addr) (n c : Nat) (w : World) (hn : n ≤ 1099511627776) (hnc : n ≤ c) :
    Calls Try.prog 106 #[.slice A n c] w fun e w' => e = .returned (.slice A n n) ∧ w = w' := by
  go_enter Try.func106, Try.ntmps106
  go_wp2_with fail
  go_ret
  exact ⟨rfl, rfl⟩
set_option maxHeartbeats 400000 in
theorem runnable_any (A : Option Addr) (n c : Nat) (s : List OpV) (w : World) (hx : ROps w A n s) (hnc : n ≤ c) :
    Calls Try.prog 100 #[.slice A n c] w fun e w' => e = .returned (.bool (runB s)) ∧ Below w.heap.size w w' := by
  have hl := hx.1
  have HX := Lib.hid hx
  have hr : Hid (runB s = (validS s && decide (s.length ≤ 12))) := rfl
  clear hx
  go_enter Try.func100, Try.ntmps100
  go_wp2_with fail
  refine (ValidSchedule_any A n c s w HX.out hnc).mono ?_
  rintro e w1 ⟨rfl, hb1⟩
  obtain ⟨bv, hv⟩ : ∃ b, validS s = b := ⟨_, rfl⟩
  rw [hv] at hr ⊢
  clear hv
  cases bv
  · go_wp2_with fail
    go_ret
    exact ⟨ret_bool (by rw [hr.out]; rfl), hb1⟩
  · go_wp2_with fail
    go_ret
    exact ⟨ret_bool (by rw [hr.out, hl, Bool.true_and]; exact decide_eq_decide.2 (by omega)), hb1⟩

set_option maxHeartbeats 1000000 in
theorem mul64_any (w : World) : Calls Try.prog 162 #[.int .u64 1, .int .u64 3] w fun e w' => e = .returned (.tuple #[.int .u64 0, .int .u64 3]) ∧ w = w' := by
  go_enter Try.func162, Try.ntmps162
  go_wp2_with fail
  go_ret2
  exact ⟨rfl, rfl⟩
set_option maxHeartbeats 1000000 in
theorem mul_any (w : World) : Calls Try.prog 144 #[.int .u64 1, .int .u64 3] w fun e w' => e = .returned (.tuple #[.int .u64 0, .int .u64 3]) ∧ w = w' := by
  go_enter Try.func144, Try.ntmps144
  go_wp2_with fail
  refine (mul64_any w).mono ?_
  rintro e w' ⟨rfl, rfl⟩
  go_wp2_with fail
  go_ret2
  exact ⟨rfl, rfl⟩

end Go.Proofs.Ytofcpfabjfhjoaa
namespace Go.Proofs.Ytofcpfabjfhjoaa
open Go.RowKit Go.BigFrame
set_option linter.unusedVariables false

theorem row_of_full {w : World} {base g k : Nat} {T : TypeId} {vs : List Value} (h : w.ownsRow base T 1 (.slice (some ⟨g, 0, none⟩) k k) k vs) : RowIs w g T vs := by
  rcases h.2 with ⟨h1, _⟩ | ⟨g', cap, cur, h1, h2, h3, h4, h5, h6, h7⟩
  · cases h1
  · injection h1 with ha hb hc
    injection ha with ha
    injection ha with ha
    subst ha; subst hc
    unfold RowIs
    rw [h3]
    congr 2
    apply Array.ext'
    rw [List.take_of_length_le (by simpa using Nat.le_of_eq h6)] at h7
    rw [h7]

theorem src_one {w : World} {b off : Nat} {v : Value} (h : w.cell? ⟨b, off, none⟩ = some v) : ∀ (j : Nat) (u : Value), [v][j]? = some u → w.cell? ((⟨b, off, none⟩ : Addr).add j) = some u := by
  intro j u hj
  match j, hj with
  | 0, hj =>
    simp only [List.getElem?_cons_zero, Option.some.injEq] at hj
    subst hj
    rw [addr_add]; exact h
  | j + 1, hj => simp at hj

set_option maxRecDepth 100000 in
set_option maxHeartbeats 1000000 in
theorem Repeat3_any (A : Option Addr) (c : Nat) (z : Int) (w : World) (hx : RInts w A 1 [z]) :
    Calls Try.prog 101 #[.slice A 1 c, .int .i64 3] w (RetInts w [z, z, z]) := by
  obtain ⟨b, off, x, rfl, hbl, hox, c0⟩ := hx.at_ (k := 0) (by omega)
  simp only [List.getElem?_cons_zero, Option.some.injEq] at hox
  subst hox
  simp only [Nat.add_zero] at c0
  clear hx
  obtain ⟨i0, hi, hz0, hz1, hz2⟩ := info_parts intInfo
  have hsz : (Try.prog.info? 3).map (·.size) = some 1 := by kernel_rfl
  have hone : ∀ v ∈ [Value.int .i64 z], v.oneCell' = true := by simp [Value.oneCell']
  have hfit : 0 + [Value.int .i64 z].length ≤ (intCells [0, 0, 0]).length := by simp [intCells]
  have hblt : (⟨b, off, none⟩ : Addr).block < w.heap.size := hbl
  go_enter Try.func101, Try.ntmps101
  go_wp2_with fail
  refine (mul_any w).mono ?_
  rintro e w' ⟨rfl, rfl⟩
  go_wp2_with (first
    | (at_make; refine wpList_make_full _ rfl _ _ 25 rfl w.heap.size 3 i0 _ 1 Try.underlying25 hi hz0 hz1 .i64 .i64 _ _ 3 rfl rfl rfl rfl (by rw [hz2]; omega) (by unfold maxLen; omega) (Nat.le_refl _) ?_; intro w1 hown1 hg1; have hrow := row_of_full hown1; have hb1 : Below w.heap.size w w1 := ⟨hg1.os, hg1.tape, hg1.output, hg1.size, fun k hk => hg1.block k hk (by simp)⟩; have hsrc := src_one ((hb1.cell (p := ⟨b, off, none⟩) hblt).trans c0); rw [made_ints] at hrow; have hpos : 0 < [Value.int .i64 z].length → some (⟨w.heap.size, 0, none⟩ : Addr) = some ⟨w.heap.size, 0, none⟩ ∧ ∃ ad, some (⟨b, off, none⟩ : Addr) = some ad ∧ ∀ (j : Nat) (v : Value), [Value.int .i64 z][j]? = some v → w1.cell? (ad.add j) = some v := fun _ => ⟨rfl, _, rfl, hsrc⟩)
    | (refine wpList_copy_splice rfl (.tmp 31) (.tmp 32) 25 25 rfl 3 Try.underlying25 hsz (some ⟨w.heap.size, 0, none⟩) (some ⟨b, off, none⟩) 3 3 1 c rfl rfl w.heap.size 0 (intCells [0, 0, 0]) 3 hrow [.int .i64 z] rfl hpos hfit hone w.heap.size w hb1 (Nat.le_refl _) ?_; intro w2 hg2 hb2))
  have HG0 : Hid (RowIs w2 w.heap.size 3 (intCells (List.replicate 1 z ++ List.replicate 2 0))) := hg2.out
  clear hg2 hpos hfit hsrc hrow hown1 hg1 hb1
  go_loopw [8] (fun i wr => ∃ q : Nat, 1 ≤ q ∧ q ≤ 3 ∧ i = .int .i64 q ∧ Below w.heap.size w wr ∧ RowIs wr w.heap.size 3 (intCells (List.replicate q z ++ List.replicate (3 - q) 0))) (fun i _ => 3 - (intOf i).toNat)
  case atStart => exact ⟨1, by omega, by omega, rfl, hb2, HG0.out⟩
  case round =>
    clear HG0 hb2
    obtain ⟨q, h1, h3, rfl, hb, hr⟩ := hrel
    rcases (by omega : q = 1 ∨ q = 2 ∨ q = 3) with rfl | rfl | rfl
    · have hcz : wr.drew.cell? ⟨w.heap.size, 0, none⟩ = some (.int .i64 z) := hr.cell (i := 0) (by simp [intCells])
      have hrD : Hid (wr.drew.heap[w.heap.size]? = some (.cells (intCells [z, 0, 0]).toArray 3 (0, 0))) := hr
      have hbD : Below w.heap.size w wr.drew := hb.drew
      have hsrc := src_one hcz
      have hfit : 1 + [Value.int .i64 z].length ≤ (intCells [z, 0, 0]).length := by simp [intCells]
      have hpos : Hid (0 < [Value.int .i64 z].length → some (⟨w.heap.size, 1, none⟩ : Addr) = some ⟨w.heap.size, 1, none⟩ ∧ ∃ ad, some (⟨w.heap.size, 0, none⟩ : Addr) = some ad ∧ ∀ (j : Nat) (v : Value), [Value.int .i64 z][j]? = some v → wr.drew.cell? (ad.add j) = some v) := fun _ => ⟨rfl, _, rfl, hsrc⟩
      go_wp2_with fail
      go_region_law (refine step_copy_splice rfl (.tmp 41) (.tmp 44) 25 25 rfl 3 Try.underlying25 hsz (some ⟨w.heap.size, 1, none⟩) (some ⟨w.heap.size, 0, none⟩) 2 2 1 3 (by simp [Act.eval, Act.put]) (by simp [Act.eval, Act.put]) w.heap.size 1 (intCells [z, 0, 0]) 3 hrD.out [.int .i64 z] rfl (fun _ => ⟨rfl, _, rfl, hsrc⟩) hfit hone w.heap.size w hbD (Nat.le_refl _) ?_; intro w4 hg4 hb4)
      all_goals
        (try go_simp)
        go_wp2_with fail
        go_roundw
        case rel => exact ⟨2, by omega, by omega, by go_num, hb4, hg4.out⟩
        case measure => simp [intOf] <;> decide
    · have hcz : wr.drew.cell? ⟨w.heap.size, 0, none⟩ = some (.int .i64 z) := hr.cell (i := 0) (by simp [intCells])
      have hrD : Hid (wr.drew.heap[w.heap.size]? = some (.cells (intCells [z, z, 0]).toArray 3 (0, 0))) := hr
      have hbD : Below w.heap.size w wr.drew := hb.drew
      have hsrc := src_one hcz
      have hfit : 2 + [Value.int .i64 z].length ≤ (intCells [z, z, 0]).length := by simp [intCells]
      have hpos : Hid (0 < [Value.int .i64 z].length → some (⟨w.heap.size, 2, none⟩ : Addr) = some ⟨w.heap.size, 2, none⟩ ∧ ∃ ad, some (⟨w.heap.size, 0, none⟩ : Addr) = some ad ∧ ∀ (j : Nat) (v : Value), [Value.int .i64 z][j]? = some v → wr.drew.cell? (ad.add j) = some v) := fun _ => ⟨rfl, _, rfl, hsrc⟩
      go_wp2_with fail
      go_region_law (refine step_copy_splice rfl (.tmp 41) (.tmp 44) 25 25 rfl 3 Try.underlying25 hsz (some ⟨w.heap.size, 2, none⟩) (some ⟨w.heap.size, 0, none⟩) 1 1 2 3 (by simp [Act.eval, Act.put]) (by simp [Act.eval, Act.put]) w.heap.size 2 (intCells [z, z, 0]) 3 hrD.out [.int .i64 z] rfl (fun _ => ⟨rfl, _, rfl, hsrc⟩) hfit hone w.heap.size w hbD (Nat.le_refl _) ?_; intro w4 hg4 hb4)
      all_goals
        (try go_simp)
        go_wp2_with fail
        go_roundw
        case rel => exact ⟨3, by omega, by omega, by go_num, hb4, hg4.out⟩
        case measure => simp [intOf] <;> decide
    · have HO : Hid (RetInts w [z, z, z] (.returned (.slice (some ⟨w.heap.size, 0, none⟩) 3 3)) wr) := by
        refine RetInts.mk rfl (Nat.le_refl _) ⟨RowIs.ints (rest := []) (by simpa using hr) rfl (by omega), fun ad had => ?_⟩ hb
        injection had with had
        subst had
        exact ⟨_, _, rfl, Nat.le_refl _, hr, by simp [intCells]⟩
      clear hr
      go_wp2_with fail
      go_ret
      exact HO.out
end Go.Proofs.Ytofcpfabjfhjoaa
namespace Go.Proofs.Ytofcpfabjfhjoaa
open Go.RowKit Go.BigFrame
set_option linter.unusedVariables false

theorem RowIs.grown {w w' : World} {g : Nat} {T : TypeId} {vs : List Value} {row : Option Nat} (h : RowIs w g T vs) (hg : w.grownBy w' row) (hne : row ≠ some g) : RowIs w' g T vs :=
  (hg.block g h.lt hne.symm).trans h
theorem own_ne {w : World} {base : Nat} {e : TypeId} {size n : Nat} {v : Value} {xs : List Value} (h : w.ownsRow base e size v n xs) {g : Nat} {T : TypeId} {vs : List Value} (hr : RowIs w g T vs) (hT : T ≠ e) : v.ownBlock ≠ some g := by
  rcases h.2 with ⟨rfl, _⟩ | ⟨g', cap, cur, rfl, _, hh, _⟩
  · simp [Value.ownBlock]
  · intro e'
    simp [Value.ownBlock] at e'
    subst e'
    unfold RowIs at hr
    rw [hr] at hh
    injection hh with hh
    injection hh with _ hh _
    exact hT hh
theorem nb_app {v v' : Value} {b K : Nat} (h : v.ownBlock ≠ some b) (hat : v'.ownBlock = v.ownBlock ∨ v'.ownBlock = some K) (hb : b < K) : v'.ownBlock ≠ some b := by
  rcases hat with e | e
  · rw [e]; exact h
  · rw [e]; intro e'; injection e' with e'; omega
theorem own_lt {w : World} {base : Nat} {e : TypeId} {size n : Nat} {v : Value} {xs : List Value} (h : w.ownsRow base e size v n xs) {b : Nat} (hb : w.heap.size ≤ b) : v.ownBlock ≠ some b := by
  intro e'
  have := (World.ownsRow.lt h b e').2
  omega
theorem own_grown {w w' : World} {base : Nat} {e : TypeId} {size n : Nat} {v : Value} {xs : List Value} (h : w.ownsRow base e size v n xs) {row : Option Nat} (hg : w.grownBy w' row) (hne : ∀ b, row = some b → v.ownBlock ≠ some b) : w'.ownsRow base e size v n xs := by
  refine World.ownsRow.kept h hg ?_
  cases hv : v.ownBlock with
  | none => exact .inl rfl
  | some b =>
    refine .inr (fun e => ?_)
    exact hne b e.symm hv
theorem op_ne_int : (46 : TypeId) ≠ 3 := by decide
theorem ints_ne_op : (25 : TypeId) ≠ 46 := by decide
theorem ints_ne_int : (25 : TypeId) ≠ 3 := by decide

theorem ROps.litH {w : World} {H : Nat} (hH : w.heap.size = H) (o : OpV) (t : TypeId) : ROps (w.alloc (.cells #[.int .i64 o.tx, .int .i64 o.kind, .int .i64 o.item] t)) (some ⟨H, 0, none⟩) 1 [o] := by subst hH; exact ROps.lit1 w o t

/-- A call hands back operations and integers, in new memory. -/
def RetOI (w0 : World) (xs : List OpV) (ys : List Int) (e : Ending) (w : World) : Prop :=
  ∃ A c B d, e = .returned (.tuple #[.slice A xs.length c, .slice B ys.length d]) ∧ xs.length ≤ c ∧ ys.length ≤ d ∧ FreshOps w0 w A xs.length xs ∧ FreshInts w0 w B ys.length ys ∧ Below w0.heap.size w0 w
theorem RetOI.nil {w0 w : World} (h : Below w0.heap.size w0 w) : RetOI w0 [] [] (.returned (.tuple #[.slice none 0 0, .slice none 0 0])) w :=
  ⟨none, 0, none, 0, rfl, Nat.le_refl _, Nat.le_refl _, FreshOps.none_, FreshInts.none_, h⟩
theorem RetOI.mk {w0 w : World} {xs : List OpV} {ys : List Int} {A B : Option Addr} {n m c d : Nat} (hn : xs.length = n) (hm : ys.length = m) (hc : n ≤ c) (hd : m ≤ d) (h1 : FreshOps w0 w A n xs) (h2 : FreshInts w0 w B m ys) (hb : Below w0.heap.size w0 w) :
    RetOI w0 xs ys (.returned (.tuple #[.slice A n c, .slice B m d])) w := by
  subst hn; subst hm
  exact ⟨A, c, B, d, rfl, hc, hd, h1, h2, hb⟩
theorem RetOI.later {w0 w1 : World} {xs : List OpV} {ys : List Int} {e : Ending} {w : World} (hb : Below w0.heap.size w0 w1) (h : RetOI w1 xs ys e w) : RetOI w0 xs ys e w := by
  obtain ⟨A, c, B, d, rfl, hc, hd, ⟨a1, a2⟩, ⟨b1, b2⟩, hb'⟩ := h
  have hs := hb.size
  exact ⟨A, c, B, d, rfl, hc, hd, ⟨a1, fun ad had => by obtain ⟨b, cur, h3, h4, h5⟩ := a2 ad had; exact ⟨b, cur, h3, by omega, h5⟩⟩,
    ⟨b1, fun ad had => by obtain ⟨b, cur, h3, h4, h5⟩ := b2 ad had; exact ⟨b, cur, h3, by omega, h5⟩⟩, hb.trans (hb'.mono hs)⟩
end Go.Proofs.Ytofcpfabjfhjoaa
namespace Go.Proofs.Ytofcpfabjfhjoaa
open Go.RowKit Go.BigFrame
set_option linter.unusedVariables false

/-- What the walk keeps. -/
structure RcI (w : World) (g b6 gc : Nat) (rest : List Value) (D : List OpV) (K V : List Int) (dv kv : Value) (nd nk : Nat) (wr : World) : Prop where
  below : Below w.heap.size w wr
  done : wr.ownsRow w.heap.size 46 3 dv nd (opCells D)
  dead : wr.ownsRow w.heap.size 3 1 kv nk (intCells K)
  row : RowIs wr g 3 (intCells V ++ rest)
  box : RowIs wr b6 25 [.slice (some ⟨g, 0, none⟩) 3 gc]
  sep : kv.ownBlock ≠ some g
section
variable {w wr w' : World} {g b6 gc nd nk : Nat} {rest : List Value} {D : List OpV} {K V : List Int} {dv kv : Value}
theorem RcI.later (h : RcI w g b6 gc rest D K V dv kv nd nk wr) (hb : Below wr.heap.size wr w') : RcI w g b6 gc rest D K V dv kv nd nk w' :=
  ⟨h.below.trans (hb.mono h.below.size), own_below h.done hb, own_below h.dead hb, h.row.below hb (Nat.le_refl _), h.box.below hb (Nat.le_refl _), h.sep⟩
theorem RcI.grownDone (h : RcI w g b6 gc rest D K V dv kv nd nk wr) {D' : List OpV} {dv' : Value} {nd' : Nat} (hg : wr.grownBy w' dv.ownBlock) (ho : w'.ownsRow w.heap.size 46 3 dv' nd' (opCells D')) : RcI w g b6 gc rest D' K V dv' kv nd' nk w' :=
  ⟨Below.own h.below h.done (Nat.le_refl _) hg, ho, own_apart h.dead h.done (fun e => op_ne_int e.symm) hg, h.row.grown hg (own_ne h.done h.row (fun e => op_ne_int e.symm)), h.box.grown hg (own_ne h.done h.box ints_ne_op), h.sep⟩
theorem RcI.grownDead (h : RcI w g b6 gc rest D K V dv kv nd nk wr) {K' : List Int} {kv' : Value} {nk' : Nat} (hg : wr.grownBy w' kv.ownBlock) (ho : w'.ownsRow w.heap.size 3 1 kv' nk' (intCells K')) (hs : kv'.ownBlock ≠ some g) : RcI w g b6 gc rest D K' V dv kv' nd nk' w' :=
  ⟨Below.own h.below h.dead (Nat.le_refl _) hg, own_apart h.done h.dead op_ne_int hg, ho, h.row.grown hg h.sep, h.box.grown hg (own_ne h.dead h.box ints_ne_int), hs⟩
theorem RcI.setV (h : RcI w g b6 gc rest D K V dv kv nd nk wr) (hge : w.heap.size ≤ g) {x : Nat} (hx : x < V.length) (z : Int) : RcI w g b6 gc rest D K (V.set x z) dv kv nd nk (wr.setCell ⟨g, x, none⟩ (.int .i64 z)) := by
  have hgr : wr.grownBy (wr.setCell ⟨g, x, none⟩ (.int .i64 z)) (some g) := grown_set
  refine ⟨h.below.setCell (by simpa using hge) _, ?_, ?_, row_setInt h.row hx, h.box.grown hgr ?_, h.sep⟩
  · exact own_grown h.done hgr (fun b e => by injection e with e; subst e; exact own_ne h.done h.row (fun e => op_ne_int e.symm))
  · exact own_grown h.dead hgr (fun b e => by injection e with e; subst e; exact h.sep)
  · intro e
    injection e with e
    subst e
    have h1 := h.row
    have h2 := h.box
    unfold RowIs at h1 h2
    rw [h1] at h2
    injection h2 with h2
    injection h2 with _ h2 _
    exact ints_ne_int h2.symm
theorem RcI.drew (h : RcI w g b6 gc rest D K V dv kv nd nk wr) : RcI w g b6 gc rest D K V dv kv nd nk wr.drew := ⟨h.below.drew, h.done, h.dead, h.row, h.box, h.sep⟩
end

theorem rc_cell {w : World} {g : Nat} {V : List Int} {rest : List Value} (h : RowIs w g 3 (intCells V ++ rest)) (hV : V.length = 3) {X : Nat} (hX : X < 3) : w.cell? ⟨g, X, none⟩ = some (.int .i64 (V.getD X 0)) ∧ w.frozen? ⟨g, X, none⟩ = false := by
  refine ⟨h.cell ?_, h.frozen X⟩
  rw [List.getElem?_append_left (by simp [intCells]; omega)]
  simp [intCells, List.getD_eq_getElem?_getD, List.getElem?_eq_getElem (show X < V.length by omega)]
set_option maxHeartbeats 1000000 in
theorem RunChecks1_any (o : OpV) (b6 b9 g gc : Nat) (V : List Int) (rest : List Value) (f : Int) (w : World) (hbx : w.cell? ⟨b6, 0, none⟩ = some (.slice (some ⟨g, 0, none⟩) 3 gc)) (hf : w.cell? ⟨b9, 0, none⟩ = some (.int .i64 f))
    (hr : RowIs w g 3 (intCells V ++ rest)) (hV : V.length = 3) (hi : 0 ≤ o.item ∧ o.item ≤ 2) :
    Calls Try.prog 104 #[o.val, .pointer (some ⟨b6, 0, none⟩), .pointer (some ⟨b9, 0, none⟩)] w fun e w' => e = .returned (.bool (o.kind == 0 && decide (f < V.getD o.item.toNat 0))) ∧ Below w.heap.size w w' := by
  obtain ⟨tx, kd, it⟩ := o
  simp only at hi ⊢
  obtain ⟨X, rfl⟩ := Int.eq_ofNat_of_zero_le hi.1
  have hX : X < 3 := by omega
  have hc : w.cell? ⟨g, X, none⟩ = some (.int .i64 (V.getD X 0)) := by
    refine hr.cell ?_
    rw [List.getElem?_append_left (by simp [intCells]; omega)]
    simp [intCells, List.getD_eq_getElem?_getD, List.getElem?_eq_getElem (show X < V.length by omega)]
  rw [Int.toNat_natCast]
  generalize V.getD X 0 = z at *
  unfold OpV.val
  have hX3 : (X : Int) < 3 := by omega
  have hX0 : (0 : Int) ≤ (X : Int) := by omega
  obtain ⟨W, hW⟩ : ∃ W : World, W = w.alloc (.cells #[.int .i64 tx, .int .i64 kd, .int .i64 (X : Int)] 46) := ⟨_, rfl⟩
  obtain ⟨L0, L1, L2, hbW, hWs⟩ := op_box hW
  have hbl6 := block_lt_of_cell hbx
  have hbl9 := block_lt_of_cell hf
  have hblg := hr.lt
  have M6 : ∀ u : Later W, u.1.cell? ⟨b6, 0, none⟩ = some (.slice (some ⟨g, 0, none⟩) 3 gc) := fun u => Later.cell hbx ⟨u.1, hbW.trans (u.2.mono hbW.size)⟩
  have M9 : ∀ u : Later W, u.1.cell? ⟨b9, 0, none⟩ = some (.int .i64 f) := fun u => Later.cell hf ⟨u.1, hbW.trans (u.2.mono hbW.size)⟩
  have MG : ∀ u : Later W, u.1.cell? ⟨g, X, none⟩ = some (.int .i64 z) := fun u => Later.cell hc ⟨u.1, hbW.trans (u.2.mono hbW.size)⟩
  have HW := Lib.hid hW
  obtain ⟨b1, hb1⟩ : ∃ b, (kd == 0) = b := ⟨_, rfl⟩
  have HB1 := Lib.hid hb1
  rw [hb1]
  clear hbx hf hr hc hW hi hV
  go_enter Try.func104, Try.ntmps104
  go_wp2_with fail
  rw [← HW.out]
  cases b1
  · refine region_later (by kernel_rfl) (by kernel_rfl) ?_
    repeat (go_big_quiet_step (fail))
    refine wpQuiet_nil ?_
    rintro _ ⟨u, rfl⟩
    go_wp2_with fail
    go_ret
    exact ⟨rfl, hbW.trans (u.2.mono hbW.size)⟩
  · refine region_later (by kernel_rfl) (by kernel_rfl) ?_
    repeat (go_big_quiet_step (fail))
    refine wpQuiet_nil ?_
    rintro _ ⟨u, rfl⟩
    go_wp2_with fail
    go_ret
    exact ⟨ret_bool (by simp), hbW.trans (u.2.mono hbW.size)⟩
theorem runs_RunChecks1 : Runs 104 := runs_of Try.func104 (by kernel_rfl) rfl
end Go.Proofs.Ytofcpfabjfhjoaa
namespace Go.Proofs.Ytofcpfabjfhjoaa
open Go.RowKit Go.BigFrame
set_option linter.unusedVariables false

set_option maxRecDepth 100000 in
set_option maxHeartbeats 8000000 in
theorem RunChecks_any (A : Option Addr) (n c : Nat) (s : List OpV) (w : World) (hx : ROps w A n s) (hnc : n ≤ c) :
    Calls Try.prog 59 #[.slice A n c] w (RetOI w (orNil (runB s) (riTo s s.length).1) (orNil (runB s) (riTo s s.length).2.1)) := by
  have hn := hx.2.1
  have hl := hx.1
  have HX := Lib.hid hx
  clear hx
  go_enter Try.func59, Try.ntmps59
  go_wp2_with fail
  refine (runnable_any A n c s w HX.out hnc).mono ?_
  rintro e w1 ⟨rfl, hb1⟩
  obtain ⟨br, hbr⟩ : ∃ b, runB s = b := ⟨_, rfl⟩
  have HBR := Lib.hid hbr
  rw [hbr]
  cases br
  · clear hbr
    go_wp2_with fail
    go_ret2
    rw [HBR.out]
    exact RetOI.nil hb1
  · have hrun := hbr
    unfold runB at hrun
    simp only [Bool.and_eq_true, decide_eq_true_eq] at hrun
    have HV : Hid (validS s = true) := hrun.1
    have hn12 : n ≤ 12 := by have := hrun.2; omega
    clear hrun hbr
    obtain ⟨Wa, hWa⟩ : ∃ Wa : World, Wa = ((w1.alloc (.cells #[] 46)).alloc (.cells #[] 3)).alloc (.cells #[.int .i64 (-1)] 3) := ⟨_, rfl⟩
    have hown1 : Wa.ownsRow w.heap.size 46 3 (.slice (some ⟨w1.heap.size, 0, none⟩) 0 0) 0 (opCells []) := by
      rw [hWa]; exact ((World.ownsRow_made w1 #[] 0 hb1.size (by decide) rfl).alloc _).alloc _
    have hown2 : Wa.ownsRow w.heap.size 3 1 (.slice (some ⟨w1.heap.size + 1, 0, none⟩) 0 0) 0 (intCells []) := by
      have := (World.ownsRow_made (base := w.heap.size) (e := 3) (size := 1) (w1.alloc (.cells #[] 46)) #[] 0 (by have := hb1.size; simp; omega) (by decide) rfl).alloc (.cells #[.int .i64 (-1)] 3)
      rw [hWa]
      show World.ownsRow _ _ _ _ _ _ []
      simpa using this
    have hlit : RInts Wa (some ⟨w1.heap.size + 2, 0, none⟩) 1 [-1] := by rw [hWa]; exact lit1 (by simp) _
    have hba : Below w.heap.size w Wa := by
      rw [hWa]
      exact ((hb1.alloc hb1.size _).alloc (Nat.le_trans hb1.size (by simp)) _).alloc (Nat.le_trans hb1.size (by simp <;> omega)) _
    have hlt1 : w1.heap.size + 1 < Wa.heap.size := by rw [hWa]; simp <;> omega
    have HWa := Lib.hid hWa
    have HR3 := Lib.hid (Repeat3_any (some ⟨w1.heap.size + 2, 0, none⟩) 1 (-1) Wa hlit)
    clear hWa hlit
    go_wp2_with fail
    rw [← HWa.out]
    refine HR3.out.mono ?_
    rintro e w2 ⟨GA, gc, rfl, hgc, hfG, hb2⟩
    obtain ⟨g, rest, hGA, hge, hrow⟩ := hfG.row (by decide)
    subst hGA
    have hown1' := own_below hown1 hb2
    have hown2' := own_below hown2 hb2
    have hbw2 := hba.trans (hb2.mono hba.size)
    have hgl := hrow.lt
    have hwg : w.heap.size ≤ g := Nat.le_trans hba.size hge
    have hsep : (Value.slice (some ⟨w1.heap.size + 1, 0, none⟩) 0 0).ownBlock ≠ some g := by
      simp [Value.ownBlock]; omega
    have HI0 : Hid (∀ W : World, W = w2.alloc (.cells #[.slice (some ⟨g, 0, none⟩) 3 gc] 25) → RcI w g w2.heap.size gc rest (riTo s 0).1 (riTo s 0).2.1 (riTo s 0).2.2 (.slice (some ⟨w1.heap.size, 0, none⟩) 0 0) (.slice (some ⟨w1.heap.size + 1, 0, none⟩) 0 0) 0 0 W) := by
      rintro W rfl
      refine ⟨hbw2.alloc hbw2.size _, hown1'.alloc _, hown2'.alloc _, hrow.alloc _, ?_, hsep⟩
      exact heap_alloc_new w2 _
    have hb6 : w.heap.size ≤ w2.heap.size := hbw2.size
    obtain ⟨b6, hb6e⟩ : ∃ b6, w2.heap.size = b6 := ⟨_, rfl⟩
    clear hown1 hown2 hown1' hown2' hb2 hbw2 hfG hrow hsep HR3 hba HWa hlt1
    go_wp2_with fail
    rw [hb6e] at HI0 hb6
    try rw [hb6e]
    obtain ⟨Wb, hWb⟩ : ∃ W : World, W = w2.alloc (.cells #[.slice (some ⟨g, 0, none⟩) 3 gc] 25) := ⟨_, rfl⟩
    have HI1 := Lib.hid (HI0.out Wb hWb)
    rw [← hWb]
    clear hWb HI0
    go_loopw [4, 5, 23] (fun dv kv i wr => ∃ (k nd nk : Nat), k ≤ n ∧ nd ≤ 14 * k ∧ nk ≤ k ∧ i = .int .i64 k ∧ RcI w g b6 gc rest (riTo s k).1 (riTo s k).2.1 (riTo s k).2.2 dv kv nd nk wr) (fun _ _ i _ => n - (intOf i).toNat)
    case atStart => exact ⟨0, 0, 0, Nat.zero_le _, by omega, by omega, rfl, HI1.out⟩
    case round =>
      clear HI1
      obtain ⟨wo, rfl⟩ : ∃ wo : World, wo = wr := ⟨_, rfl⟩
      obtain ⟨dv, rfl⟩ : ∃ z : Value, z = u4 := ⟨_, rfl⟩
      obtain ⟨kv, rfl⟩ : ∃ z : Value, z = u5 := ⟨_, rfl⟩
      obtain ⟨k, nd, nk, hk, hnd, hnk, rfl, hI⟩ := hrel
      by_cases hlt : k < n
      · have hxr := HX.out.below hI.below (Nat.le_refl _)
        obtain ⟨b, off, o, hA, hbl, ho, c0, c1, c2⟩ := hxr.at_ hlt
        subst hA
        have hom := List.mem_of_getElem? ho
        have hit := validS_item HV.out hom
        have hkd := ((validS_iff s).1 HV.out).2.1 o hom
        have hstep := riTo_succ ho
        have hV3 := riTo_len s k
        generalize hst : riTo s k = st at *
        obtain ⟨D, K, V⟩ := st
        simp only at hI hV3
        have hse := hI.below.size
        have HI := Lib.hid hI
        have hO1 := Lib.hid (fun (W : World) (hW : Below wo.heap.size wo W) => span_any (some ⟨b, off, none⟩) n c s o.tx W (hxr.below hW (Nat.le_refl _)))
        have hO2 := Lib.hid (fun (W : World) (hW : Below wo.heap.size wo W) => opsOf_any (some ⟨b, off, none⟩) k c (s.take k) o.tx W ((hxr.below hW (Nat.le_refl _)).take (by omega)))
        have hown : Hid (opsOf (s.take k) o.tx = rcOwn s k o.tx) := rfl
        have howni := Lib.hid (rcOwn_item HV.out k o.tx)
        have hownl : (rcOwn s k o.tx).length ≤ k := by
          refine Nat.le_trans (List.length_filter_le _ _) ?_
          rw [List.length_take]; omega
        clear hxr ho hom hI
        obtain ⟨tx, kd, it⟩ := o
        simp only at c0 c1 c2 hit hkd hO1 hO2 hown howni hownl
        have hki : (k : Int) < (n : Int) := by omega
        have hk0 : (0 : Int) ≤ (k : Int) := by omega
        have hkc : (k : Int) ≤ (c : Int) := by omega
        obtain ⟨W, hW⟩ : ∃ W : World, W = wo.alloc (.cells #[.int .i64 tx, .int .i64 kd, .int .i64 it] 46) := ⟨_, rfl⟩
        obtain ⟨L0, L1, L2, hbW, hWs⟩ := op_box hW
        have x0 := L0 ⟨W, Below.refl _ _⟩
        have x1 := L1 ⟨W, Below.refl _ _⟩
        have x2 := L2 ⟨W, Below.refl _ _⟩
        simp only at x0 x1 x2
        have hIW := HI.out.later hbW
        have HIW := Lib.hid hIW
        have hWsz := hIW.below.size
        have hdW := hIW.done
        have HW := Lib.hid hW
        have hdb8 : dv.ownBlock ≠ some wo.heap.size := own_lt HI.out.done (Nat.le_refl _)
        clear hW
        have hkk : kd = 0 ∨ kd = 1 ∨ kd = 2 ∨ kd = 3 := by
          unfold validOp isAcc isEnd at hkd
          simp only [Bool.and_eq_true, Bool.or_eq_true, beq_iff_eq] at hkd
          rcases hkd.2 with ⟨h | h, _⟩ | ⟨h | h, _⟩ <;> omega
        clear hkd
        rcases hkk with rfl | rfl | rfl | rfl
        · have hst1 : riTo s (k + 1) = (D ++ [⟨tx, 0, it⟩], K, V) := by rw [hstep]; unfold riStep; simp
          have HS := Lib.hid hst1
          clear hst1 hstep
          obtain rfl := HW.out
          go_wp2_with (at_builtin; refine app_ops (.tmp 33) (.tmp 35) (hdW.alloc _) (by simp; omega) (ROps.litH (by simp) ⟨_, _, _⟩ _) (by omega) rfl rfl rfl rfl ?_; intro v5 w5 hown5 hg5 hat5)
          have hg5' := World.grownBy.trans (World.grownBy_alloc _ _ _) hg5
          have hI5 := HIW.out.grownDone hg5' hown5
          go_roundw
          case rel => exact ⟨k + 1, nd + 1, nk, by omega, by omega, by omega, by go_num, by rw [HS.out]; exact hI5⟩
          case measure => simp [intOf]; omega
        · have hst1 : riTo s (k + 1) = (D, K, V) := by rw [hstep]; unfold riStep; simp
          have HS := Lib.hid hst1
          clear hst1 hstep
          go_wp2_with fail
          rw [← HW.out]
          go_wp2_with fail
          go_roundw
          case rel => exact ⟨k + 1, nd, nk, by omega, by omega, by omega, by go_num, by rw [HS.out]; exact HIW.out⟩
          case measure => simp [intOf]; omega
        · obtain ⟨bb, hbb⟩ : ∃ z, riBad s V k ⟨tx, 2, it⟩ = z := ⟨_, rfl⟩
          have hbb2 := hbb
          unfold riBad at hbb2
          simp only at hbb2
          have hst1 : riTo s (k + 1) = if bb then (D ++ [⟨tx, 3, 0⟩], K ++ [tx], V) else (D ++ (rcOwn s k tx).filter (fun p => p.kind == 1) ++ [⟨tx, 2, it⟩], K, rcWr V k (rcOwn s k tx)) := by
            rw [hstep]; unfold riStep; simp [hbb]
          have HS := Lib.hid hst1
          clear hst1 hstep hbb
          obtain ⟨F, hF⟩ : ∃ F, firstI s tx = F := ⟨_, rfl⟩
          rw [hF] at hbb2
          go_wp2_with fail
          rw [← HW.out]
          go_wp2_with fail
          refine (hO1.out W hbW).mono ?_
          rw [hF]
          rintro e w3 ⟨rfl, hb3⟩
          have hI3 := HIW.out.later hb3
          have y0 := L0 ⟨w3, hb3⟩
          have y1 := L1 ⟨w3, hb3⟩
          have y2 := L2 ⟨w3, hb3⟩
          simp only at y0 y1 y2
          clear hF
          -- the box of the first place
          obtain ⟨Wc, hWc⟩ : ∃ Wc : World, Wc = w3.alloc (.cells #[.int .i64 F] 3) := ⟨_, rfl⟩
          have hbc : Below w3.heap.size w3 Wc := by rw [hWc]; exact (Below.refl _ _).alloc (Nat.le_refl _) _
          have hcf : Wc.cell? ⟨w3.heap.size, 0, none⟩ = some (.int .i64 F) := by rw [hWc]; exact box_at _ _ _ _ _ rfl
          have hIc := hI3.later hbc
          have hbWc : Below W.heap.size W Wc := hb3.trans (hbc.mono hb3.size)
          have hboc : Below wo.heap.size wo Wc := hbW.trans (hbWc.mono hbW.size)
          have z0 := L0 ⟨Wc, hbWc⟩
          have z1 := L1 ⟨Wc, hbWc⟩
          have z2 := L2 ⟨Wc, hbWc⟩
          simp only at z0 z1 z2
          have hbcd : Below Wc.heap.size Wc Wc.drew := (Below.refl _ _).drew
          have hO2d := hO2.out Wc.drew (hboc.trans (hbcd.mono hboc.size))
          have HO2 := Lib.hid hO2d
          have HIc := Lib.hid hIc
          have HWc := Lib.hid hWc
          clear hO2d hIc hI3 y0 y1 y2 hWc
          go_wp2_with fail
          rw [← HWc.out]
          refine wp_region_still_tail 5 (by kernel_rfl) (by kernel_rfl) ?_
          simp only [List.take_succ_cons, List.take_zero, List.drop_succ_cons, List.drop_zero]
          repeat (first | still_step | fail)
          refine wpStill_nil ?_
          change wpList _ _ _ _ _ Wc.drew
          go_wp2_with fail
          refine HO2.out.mono ?_
          rw [hown.out]
          rintro e w4 ⟨OA, oc, rfl, hoc, ⟨hro, hrof⟩, hb4⟩
          have hOdv : ∀ ad, OA = some ad → dv.ownBlock ≠ some ad.block := fun ad had => by
            obtain ⟨b', cur, rfl, hge', _⟩ := hrof ad had
            exact own_lt HIc.out.done (Nat.le_trans hbcd.size hge')
          have hOg : ∀ ad, OA = some ad → g ≠ ad.block := fun ad had => by
            obtain ⟨b', cur, rfl, hge', _⟩ := hrof ad had
            have := HIc.out.row.lt
            have := hbcd.size
            simp only; omega
          clear hrof
          have hbc4 := hbcd.trans (hb4.mono hbcd.size)
          have hI4 := HIc.out.later hbc4
          have hcf4 := (hbc4.cell (p := ⟨w3.heap.size, 0, none⟩) (block_lt_of_cell hcf)).trans hcf
          have hbW4 := hbWc.trans (hbc4.mono hbWc.size)
          have q0 := L0 ⟨w4, hbW4⟩
          have q1 := L1 ⟨w4, hbW4⟩
          have q2 := L2 ⟨w4, hbW4⟩
          simp only at q0 q1 q2
          have hclo : ClosOp w4 104 #[.pointer (some ⟨b6, 0, none⟩), .pointer (some ⟨w3.heap.size, 0, none⟩)] (rcOwn s k tx) (fun p => p.kind == 0 && decide (F < V.getD p.item.toNat 0)) := by
            refine ⟨runs_RunChecks1, fun W' p hb' hp => ?_⟩
            have hI' := hI4.later hb'
            exact RunChecks1_any p b6 w3.heap.size g gc V rest F W' (hI'.box.cell (i := 0) rfl) ((hb'.cell (p := ⟨w3.heap.size, 0, none⟩) (block_lt_of_cell hcf4)).trans hcf4) hI'.row hV3 (howni.out p hp)
          have hCF := ContainsFuncOp_any OA _ oc (rcOwn s k tx) _ _ _ w4 hro hclo
          rw [hbb2] at hCF
          have HCF := Lib.hid hCF
          have HRO := Lib.hid hro
          have HI4 := Lib.hid hI4
          have hrc1 := runs_RunChecks1
          unfold Runs at hrc1
          generalize hown0 : rcOwn s k tx = own at *
          clear hclo hCF hro hbb2 hown0 HO2 HIc hO1 hO2 hown
          go_wp2_with fail
          refine HCF.out.mono ?_
          rintro e w5 ⟨rfl, hb5⟩
          have hI5 := HI4.out.later hb5
          have hbW5 := hbW4.trans (hb5.mono hbW4.size)
          have r0 := L0 ⟨w5, hbW5⟩
          have r1 := L1 ⟨w5, hbW5⟩
          have r2 := L2 ⟨w5, hbW5⟩
          simp only at r0 r1 r2
          have hdo5 := hI5.done
          have HI5 := Lib.hid hI5
          have hsz5 := hI5.below.size
          have hRO5 := Lib.hid (HRO.out.below hb5 (Nat.le_refl _))
          clear q0 q1 q2 HCF hcf4 hcf hI5
          cases bb
          · have HS1 := HS.out
            rw [if_neg (by simp)] at HS1
            have HS2 := Lib.hid HS1
            clear HS1 HS
            have hIq : RcI w g b6 gc rest (D ++ (own.take 0).filter (fun p => p.kind == 1)) K (rcWr V k (own.take 0)) dv kv nd nk w5 := by
              have := HI5.out
              simpa [rcWr] using this
            have HQ0 := Lib.hid hIq
            clear hIq
            have hb8g : wo.heap.size ≠ g := by have := HI.out.row.lt; omega
            have hb8l : wo.heap.size < w5.heap.size := block_lt_of_cell r0
            go_wp2_with fail
            go_loopw [4, 68] (fun dv' i wr => ∃ (q nd' : Nat), q ≤ own.length ∧ nd' ≤ nd + q ∧ i = .int .i64 q ∧ RcI w g b6 gc rest (D ++ (own.take q).filter (fun p => p.kind == 1)) K (rcWr V k (own.take q)) dv' kv nd' nk wr ∧ dv'.ownBlock ≠ some wo.heap.size ∧ (∀ ad, OA = some ad → dv'.ownBlock ≠ some ad.block) ∧ ROps wr OA own.length own ∧ w5.heap.size ≤ wr.heap.size ∧ wr.cell? ⟨wo.heap.size, 0, none⟩ = some (.int .i64 tx) ∧ wr.cell? ⟨wo.heap.size, 1, none⟩ = some (.int .i64 2) ∧ wr.cell? ⟨wo.heap.size, 2, none⟩ = some (.int .i64 it)) (fun _ i _ => own.length - (intOf i).toNat)
            case atStart => exact ⟨0, nd, Nat.zero_le _, by omega, rfl, HQ0.out, hdb8, hOdv, hRO5.out, Nat.le_refl _, r0, r1, r2⟩
            case round =>
              clear HQ0 r0 r1 r2 hdo5 hdb8 hOdv
              obtain ⟨wq, rfl⟩ : ∃ wq : World, wq = wr := ⟨_, rfl⟩
              obtain ⟨dv', rfl⟩ : ∃ z : Value, z = u4 := ⟨_, rfl⟩
              obtain ⟨q, nd', hq, hnd', rfl, hIq, hdb8, hOdv, hROq, hszq, r0, r1, r2⟩ := hrel
              have hdoq := hIq.done
              have hszw := hIq.below.size
              by_cases hltq : q < own.length
              · obtain ⟨bo, offo, p, hAo, hblo, hpo, e0, e1, e2⟩ := hROq.at_ hltq
                subst hAo
                have hpi := howni.out p (List.mem_of_getElem? hpo)
                have hfs := take_snoc hpo
                have hws := rcWr_snoc (W := V) (i := k) hpo
                have hVl : (rcWr V k (own.take q)).length = 3 := by rw [rcWr_len]; exact hV3
                have hfs2 : (own.take (q + 1)).filter (fun p => p.kind == 1) = (own.take q).filter (fun p => p.kind == 1) ++ if p.kind == 1 then [p] else [] := by
                  rw [hfs, List.filter_append, List.filter_cons, List.filter_nil]
                obtain ⟨ptx, pk, pit⟩ := p
                simp only at e0 e1 e2 hpi hfs2 hws
                obtain ⟨X, rfl⟩ := Int.eq_ofNat_of_zero_le hpi.1
                have hX3 : X < 3 := by omega
                rw [Int.toNat_natCast] at hws
                obtain ⟨W2, hW2⟩ : ∃ W : World, W = wq.alloc (.cells #[.int .i64 ptx, .int .i64 pk, .int .i64 (X : Int)] 46) := ⟨_, rfl⟩
                obtain ⟨M0, M1, M2, hbW2, hWs2⟩ := op_box hW2
                have m0 := M0 ⟨W2, Below.refl _ _⟩
                have m1 := M1 ⟨W2, Below.refl _ _⟩
                have m2 := M2 ⟨W2, Below.refl _ _⟩
                simp only at m0 m1 m2
                have HIq := Lib.hid hIq
                have HW2 := Lib.hid hW2
                have HROq := Lib.hid hROq
                obtain ⟨b1, hb1⟩ : ∃ z, (pk == 1) = z := ⟨_, rfl⟩
                rw [hb1] at hfs2 hws
                have HF2 := Lib.hid hfs2
                have HWS := Lib.hid hws
                have hIW2 := hIq.later hbW2
                have hdoW := hIW2.done
                have HIW2 := Lib.hid hIW2
                have hszW2 := hIW2.below.size
                have hdq2 : dv'.ownBlock ≠ some wq.heap.size := own_lt hdoq (Nat.le_refl _)
                have hgq := hIq.row.lt
                have hgW : wq.heap.size ≠ g := by omega
                clear hW2 hfs hfs2 hws hIq hpo hROq
                cases b1
                · have hpk : ¬ pk = 1 := by simpa using hb1
                  go_wp2_with fail
                  rw [← HW2.out]
                  go_wp2_with fail
                  go_roundw
                  case rel => exact ⟨q + 1, nd', by omega, by omega, by go_num, by rw [HF2.out, HWS.out]; simpa using HIW2.out, hdb8, hOdv, HROq.out.below hbW2 (Nat.le_refl _), by omega, (hbW2.cell (p := ⟨wo.heap.size, 0, none⟩) (block_lt_of_cell r0)).trans r0, (hbW2.cell (p := ⟨wo.heap.size, 1, none⟩) (block_lt_of_cell r1)).trans r1, (hbW2.cell (p := ⟨wo.heap.size, 2, none⟩) (block_lt_of_cell r2)).trans r2⟩
                  case measure => simp [intOf]; omega
                · have hpk : pk = 1 := by simpa using hb1
                  subst hpk
                  have HF3 := HF2.out
                  rw [if_pos (by first | rfl | trivial)] at HF3
                  have HWS3 := HWS.out
                  rw [if_pos (by first | rfl | trivial)] at HWS3
                  have HF := Lib.hid HF3
                  have HWSS := Lib.hid HWS3
                  have hX30 : (0 : Int) ≤ (X : Int) := by omega
                  have hX33 : (X : Int) < 3 := by omega
                  clear HF3 HWS3 HF2 HWS
                  obtain rfl := HW2.out
                  go_wp2_with (at_builtin; refine app_ops (.tmp 75) (.tmp 77) (hdoW.alloc _) (by simp; omega) (ROps.litH (by simp) ⟨_, _, _⟩ _) (by omega) rfl rfl rfl rfl ?_; intro v6 w6 hown6 hg6 hat6; have hg6' := World.grownBy.trans (World.grownBy_alloc _ _ _) hg6; have hI6 := HIW2.out.grownDone hg6' hown6; have hbx6 := hI6.box.cell (i := 0) (v := .slice (some ⟨g, 0, none⟩) 3 gc) rfl; have n2 := (hg6'.cell (a := ⟨wq.heap.size, 2, none⟩) m2 (fun e => hdq2 e.symm)); obtain ⟨hcr, hfz⟩ := rc_cell hI6.row hVl hX3; have hnw6 := World.new_ne w6 _ hcr; have HI6 := Lib.hid hI6; clear hI6)
                  have hI7 := HI6.out.setV hwg (x := X) (by rw [hVl]; exact hX3) (k : Int)
                  have hgt : wq.grownBy w6 dv'.ownBlock := World.grownBy.trans (grown_below hbW2) hg6'
                  have hgs : w6.grownBy (w6.setCell ⟨g, X, none⟩ (.int .i64 (k : Int))) (some g) := grown_set
                  have hsz6 : wq.heap.size ≤ w6.heap.size := hgt.size
                  go_roundw
                  case rel => exact ⟨q + 1, nd' + 1, by omega, by omega, by go_num, by rw [HF.out, HWSS.out, ← List.append_assoc]; exact hI7, nb_app hdb8 hat6 (by simp; omega), fun ad had => nb_app (hOdv ad had) hat6 (by injection had with had; subst had; simp; omega), ((HROq.out.grown hgt (fun b hb => hOdv b hb)).grown hgs (fun b hb e => by injection e with e; injection hb with hb; subst hb; exact (hOg _ rfl) e)), by simp; omega, (hgs.cell (a := ⟨wo.heap.size, 0, none⟩) (hgt.cell (a := ⟨wo.heap.size, 0, none⟩) r0 (fun e => hdb8 e.symm)) (fun e => hb8g (by injection e))), (hgs.cell (a := ⟨wo.heap.size, 1, none⟩) (hgt.cell (a := ⟨wo.heap.size, 1, none⟩) r1 (fun e => hdb8 e.symm)) (fun e => hb8g (by injection e))), (hgs.cell (a := ⟨wo.heap.size, 2, none⟩) (hgt.cell (a := ⟨wo.heap.size, 2, none⟩) r2 (fun e => hdb8 e.symm)) (fun e => hb8g (by injection e)))⟩
                  case measure => simp [intOf]; omega
              · rw [List.take_of_length_le (by omega)] at hIq
                have HIq := Lib.hid hIq
                clear hIq hROq
                go_wp2_with (at_builtin; refine app_ops (.tmp 85) (.tmp 87) (hdoq.alloc _) (by simp; omega) (ROps.lit1 _ ⟨_, _, _⟩ _) (by omega) rfl rfl rfl rfl ?_; intro v6 w6 hown6 hg6 hat6)
                have hg6' := World.grownBy.trans (World.grownBy_alloc wq _ _) hg6
                rw [List.take_of_length_le (by omega)] at hown6
                have hI6 := HIq.out.grownDone hg6' hown6
                go_roundw
                case rel => exact ⟨k + 1, nd' + 1, nk, by omega, by omega, by omega, by go_num, by rw [HS2.out]; exact hI6⟩
                case measure => simp [intOf]; omega
          · have HS1 := HS.out
            rw [if_pos (by first | rfl | trivial)] at HS1
            have HS2 := Lib.hid HS1
            clear HS1 HS
            go_wp2_with (first
              | (at_builtin; refine app_ops (.tmp 55) (.tmp 59) (hdo5.alloc _) (by simp; omega) (ROps.lit1 _ ⟨_, _, _⟩ _) (by omega) rfl rfl rfl rfl ?_; intro v6 w6 hown6 hg6 hat6; have hg6' := World.grownBy.trans (World.grownBy_alloc w5 _ _) hg6; have hI6 := HI5.out.grownDone hg6' hown6; have hka6 := hI6.dead; have s0 := (hg6'.cell (a := ⟨wo.heap.size, 0, none⟩) r0 (fun e => hdb8 e.symm)); have hsz6 := hI6.below.size; have HI6 := Lib.hid hI6; clear hI6)
              | (at_builtin; refine app_ints (.tmp 61) (.tmp 64) (hka6.alloc _) (by simp; omega) (lit1 rfl _) (by omega) rfl rfl rfl rfl ?_; intro v7 w7 hown7 hg7 hat7))
            have hg7' := World.grownBy.trans (World.grownBy_alloc w6 _ _) hg7
            have hI7 := HI6.out.grownDead hg7' hown7 (nb_app HI6.out.sep hat7 (by have := HI6.out.row.lt; simp; omega))
            go_roundw
            case rel => exact ⟨k + 1, nd + 1, nk + 1, by omega, by omega, by omega, by go_num, by rw [HS2.out]; exact hI7⟩
            case measure => simp [intOf]; omega
        · have hst1 : riTo s (k + 1) = (D ++ [⟨tx, 3, it⟩], K, V) := by rw [hstep]; unfold riStep; simp
          have HS := Lib.hid hst1
          clear hst1 hstep
          obtain rfl := HW.out
          go_wp2_with (at_builtin; refine app_ops (.tmp 33) (.tmp 35) (hdW.alloc _) (by simp; omega) (ROps.litH (by simp) ⟨_, _, _⟩ _) (by omega) rfl rfl rfl rfl ?_; intro v5 w5 hown5 hg5 hat5)
          have hg5' := World.grownBy.trans (World.grownBy_alloc _ _ _) hg5
          have hI5 := HIW.out.grownDone hg5' hown5
          go_roundw
          case rel => exact ⟨k + 1, nd + 1, nk, by omega, by omega, by omega, by go_num, by rw [HS.out]; exact hI5⟩
          case measure => simp [intOf]; omega
      · have e : k = s.length := by omega
        obtain ⟨DA, dc, rfl, hdc⟩ := own_form2 hI.done
        obtain ⟨KA, kc, rfl, hkc⟩ := own_form2 hI.dead
        rw [e] at hI
        have HO := Lib.hid (RetOI.mk (own_lenOps hI.done) (own_lenInts hI.dead) (Nat.le_refl _) (Nat.le_refl _) (FreshOps.of_own hI.done (Nat.le_refl _) (by omega)) (FreshInts.of_own hI.dead (Nat.le_refl _) (by omega)) hI.below)
        have hnd2 : nd ≤ 1099511627776 := by omega
        have hnk2 : nk ≤ 1099511627776 := by omega
        clear hI e
        go_wp2_with fail
        refine (ClipOps_any DA nd dc wo hnd2 hdc).mono ?_
        rintro e w9 ⟨rfl, rfl⟩
        go_wp2_with fail
        refine (ClipInts_any KA nk kc wo hnk2 hkc).mono ?_
        rintro e w9 ⟨rfl, rfl⟩
        go_wp2_with fail
        go_ret2
        rw [HBR.out]
        exact HO.out
end Go.Proofs.Ytofcpfabjfhjoaa
namespace Go.Proofs.Ytofcpfabjfhjoaa
open Go.RowKit Go.BigFrame
set_option linter.unusedVariables false

theorem rcTo_items (s : List OpV) (k : Nat) : ∀ c ∈ (rcTo s k).2.2, ∃ j : Nat, j < k ∧ c.item = (j : Int) := by
  induction k with
  | zero => intro c hc; cases hc
  | succ k ih =>
    have hold : ∀ c ∈ (rcTo s k).2.2, ∃ j : Nat, j < k + 1 ∧ c.item = (j : Int) := fun c hc => by
      obtain ⟨j, hj, e⟩ := ih c hc; exact ⟨j, by omega, e⟩
    simp only [rcTo]
    cases s[k]? with
    | none => exact hold
    | some o =>
      simp only [rcStep]
      split
      · exact hold
      · split
        · split
          · exact hold
          · intro c hc
            simp only [List.mem_append, List.mem_singleton] at hc
            rcases hc with hc | rfl
            · exact hold c hc
            · exact ⟨k, by omega, rfl⟩
        · exact hold
def rcHit (s : List OpV) (i : Nat) (o c : OpV) (x : Int) : Bool := decide ((stampN s o.tx : Int) < c.item) && touchB s i o.tx 0 x && touchB s c.item.toNat c.tx 1 x
def rcOne (s : List OpV) (i : Nat) (o c : OpV) : Bool := [(0 : Int), 1, 2].any (rcHit s i o c)
def rcUp (s : List OpV) (i : Nat) (o c : OpV) : Nat → Bool
  | 0 => false
  | x + 1 => rcUp s i o c x || rcHit s i o c (x : Int)
theorem rcUp_three (s : List OpV) (i : Nat) (o c : OpV) : rcUp s i o c 3 = rcOne s i o c := by
  unfold rcOne
  simp [rcUp, Bool.or_assoc]
theorem rcBad_snoc {s C : List OpV} {i : Nat} {o c : OpV} {q : Nat} (h : C[q]? = some c) : rcBad s (C.take (q + 1)) i o = (rcBad s (C.take q) i o || rcOne s i o c) := by
  unfold rcBad
  rw [take_snoc h, List.any_append]
  congr 1
  simp [rcOne, rcHit]

/-- What the walk keeps. -/
structure RcS (w : World) (D : List OpV) (K : List Int) (C : List OpV) (dv kv cv : Value) (nd nk nc : Nat) (wr : World) : Prop where
  below : Below w.heap.size w wr
  done : wr.ownsRow w.heap.size 46 3 dv nd (opCells D)
  dead : wr.ownsRow w.heap.size 3 1 kv nk (intCells K)
  comm : wr.ownsRow w.heap.size 46 3 cv nc (opCells C)
  sep : ∀ b, dv.ownBlock = some b → cv.ownBlock ≠ some b
section
variable {w wr w' : World} {nd nk nc : Nat} {D C : List OpV} {K : List Int} {dv kv cv : Value}
theorem RcS.later (h : RcS w D K C dv kv cv nd nk nc wr) (hb : Below wr.heap.size wr w') : RcS w D K C dv kv cv nd nk nc w' :=
  ⟨h.below.trans (hb.mono h.below.size), own_below h.done hb, own_below h.dead hb, own_below h.comm hb, h.sep⟩
theorem RcS.grownDone (h : RcS w D K C dv kv cv nd nk nc wr) {D' : List OpV} {dv' : Value} {nd' M : Nat} (hg : wr.grownBy w' dv.ownBlock) (ho : w'.ownsRow w.heap.size 46 3 dv' nd' (opCells D')) (hat : dv'.ownBlock = dv.ownBlock ∨ dv'.ownBlock = some M) (hM : wr.heap.size ≤ M) : RcS w D' K C dv' kv cv nd' nk nc w' :=
  ⟨Below.own h.below h.done (Nat.le_refl _) hg, ho, own_apart h.dead h.done (fun e => op_ne_int e.symm) hg, own_grown h.comm hg (fun b e => h.sep b e), by
    intro b hb
    rcases hat with e | e
    · rw [e] at hb; exact h.sep b hb
    · rw [e] at hb; injection hb with hb; subst hb; exact own_lt h.comm hM⟩
theorem RcS.grownDead (h : RcS w D K C dv kv cv nd nk nc wr) {K' : List Int} {kv' : Value} {nk' : Nat} (hg : wr.grownBy w' kv.ownBlock) (ho : w'.ownsRow w.heap.size 3 1 kv' nk' (intCells K')) : RcS w D K' C dv kv' cv nd nk' nc w' :=
  ⟨Below.own h.below h.dead (Nat.le_refl _) hg, own_apart h.done h.dead op_ne_int hg, ho, own_apart h.comm h.dead op_ne_int hg, h.sep⟩
theorem RcS.grownComm (h : RcS w D K C dv kv cv nd nk nc wr) {C' : List OpV} {cv' : Value} {nc' M : Nat} (hg : wr.grownBy w' cv.ownBlock) (ho : w'.ownsRow w.heap.size 46 3 cv' nc' (opCells C')) (hat : cv'.ownBlock = cv.ownBlock ∨ cv'.ownBlock = some M) (hM : wr.heap.size ≤ M) : RcS w D K C' dv kv cv' nd nk nc' w' :=
  ⟨Below.own h.below h.comm (Nat.le_refl _) hg, own_grown h.done hg (fun b e e2 => h.sep b e2 e), own_apart h.dead h.comm (fun e => op_ne_int e.symm) hg, ho, by
    intro b hb
    rcases hat with e | e
    · rw [e]; exact h.sep b hb
    · rw [e]; intro e2; injection e2 with e2; subst e2; exact own_lt h.done hM hb⟩
end
end Go.Proofs.Ytofcpfabjfhjoaa
namespace Go.Proofs.Ytofcpfabjfhjoaa
open Go.RowKit Go.BigFrame
set_option linter.unusedVariables false

set_option maxRecDepth 100000 in
set_option maxHeartbeats 8000000 in
theorem runChecks_any (A : Option Addr) (n c : Nat) (s : List OpV) (w : World) (hx : ROps w A n s) (hn12 : n ≤ 12) (hv : validS s = true) :
    Calls Try.prog 99 #[.slice A n c] w (RetOI w (rcTo s s.length).1 (rcTo s s.length).2.1) := by
  have hn := hx.2.1
  have hl := hx.1
  have HX := Lib.hid hx
  have HV := Lib.hid hv
  clear hx hv
  obtain ⟨Wa, hWa⟩ : ∃ Wa : World, Wa = ((w.alloc (.cells #[] 46)).alloc (.cells #[] 3)).alloc (.cells #[] 46) := ⟨_, rfl⟩
  have hown1 : Wa.ownsRow w.heap.size 46 3 (.slice (some ⟨w.heap.size, 0, none⟩) 0 0) 0 (opCells []) := by
    rw [hWa]; exact ((World.ownsRow_made w #[] 0 (Nat.le_refl _) (by decide) rfl).alloc _).alloc _
  have hown2 : Wa.ownsRow w.heap.size 3 1 (.slice (some ⟨w.heap.size + 1, 0, none⟩) 0 0) 0 (intCells []) := by
    have := (World.ownsRow_made (base := w.heap.size) (e := 3) (size := 1) (w.alloc (.cells #[] 46)) #[] 0 (by simp) (by decide) rfl).alloc (.cells #[] 46)
    rw [hWa]
    show World.ownsRow _ _ _ _ _ _ []
    simpa using this
  have hown3 : Wa.ownsRow w.heap.size 46 3 (.slice (some ⟨w.heap.size + 2, 0, none⟩) 0 0) 0 (opCells []) := by
    have := (World.ownsRow_made (base := w.heap.size) (e := 46) (size := 3) ((w.alloc (.cells #[] 46)).alloc (.cells #[] 3)) #[] 0 (by simp <;> omega) (by decide) rfl)
    rw [hWa]
    show World.ownsRow _ _ _ _ _ _ []
    simpa using this
  have hba : Below w.heap.size w Wa := by
    rw [hWa]
    exact (((Below.refl _ w).alloc (Nat.le_refl _) _).alloc (by simp) _).alloc (by simp <;> omega) _
  have HI0 : Hid (RcS w (rcTo s 0).1 (rcTo s 0).2.1 (rcTo s 0).2.2 (.slice (some ⟨w.heap.size, 0, none⟩) 0 0) (.slice (some ⟨w.heap.size + 1, 0, none⟩) 0 0) (.slice (some ⟨w.heap.size + 2, 0, none⟩) 0 0) 0 0 0 Wa) :=
    ⟨hba, hown1, hown2, hown3, fun b hb e => by simp [Value.ownBlock] at hb e; omega⟩
  have HWa := Lib.hid hWa
  clear hown1 hown2 hown3 hba hWa
  go_enter Try.func99, Try.ntmps99
  go_wp2_with fail
  rw [← HWa.out]
  go_loopw [4, 5, 6, 7] (fun dv kv cv i wr => ∃ (k nd nk nc : Nat), k ≤ n ∧ nd ≤ 14 * k ∧ nk ≤ k ∧ nc ≤ k ∧ i = .int .i64 k ∧ RcS w (rcTo s k).1 (rcTo s k).2.1 (rcTo s k).2.2 dv kv cv nd nk nc wr) (fun _ _ _ i _ => n - (intOf i).toNat)
  case atStart => exact ⟨0, 0, 0, 0, Nat.zero_le _, by omega, by omega, by omega, rfl, HI0.out⟩
  case round =>
    clear HI0 HWa
    obtain ⟨wo, rfl⟩ : ∃ wo : World, wo = wr := ⟨_, rfl⟩
    obtain ⟨dv, rfl⟩ : ∃ z : Value, z = u4 := ⟨_, rfl⟩
    obtain ⟨kv, rfl⟩ : ∃ z : Value, z = u5 := ⟨_, rfl⟩
    obtain ⟨cv, rfl⟩ : ∃ z : Value, z = u6 := ⟨_, rfl⟩
    obtain ⟨k, nd, nk, nc, hk, hnd, hnk, hnc, rfl, hI⟩ := hrel
    by_cases hlt : k < n
    · have hxr := HX.out.below hI.below (Nat.le_refl _)
      obtain ⟨b, off, o, hA, hbl, ho, c0, c1, c2⟩ := hxr.at_ hlt
      subst hA
      have hom := List.mem_of_getElem? ho
      have hkd := ((validS_iff s).1 HV.out).2.1 o hom
      have hstep := rcTo_succ ho
      have hCit := rcTo_items s k
      generalize hst : rcTo s k = st at *
      obtain ⟨D, K, C⟩ := st
      simp only at hI hCit
      have hse := hI.below.size
      have HI := Lib.hid hI
      have HXR := Lib.hid hxr
      have HO := Lib.hid ho
      clear hxr ho hom hI
      obtain ⟨tx, kd, it⟩ := o
      simp only at c0 c1 c2 hkd
      have hki : (k : Int) < (n : Int) := by omega
      have hk0 : (0 : Int) ≤ (k : Int) := by omega
      obtain ⟨W, hW⟩ : ∃ W : World, W = wo.alloc (.cells #[.int .i64 tx, .int .i64 kd, .int .i64 it] 46) := ⟨_, rfl⟩
      obtain ⟨L0, L1, L2, hbW, hWs⟩ := op_box hW
      have x0 := L0 ⟨W, Below.refl _ _⟩
      have x1 := L1 ⟨W, Below.refl _ _⟩
      have x2 := L2 ⟨W, Below.refl _ _⟩
      simp only at x0 x1 x2
      have hIW := HI.out.later hbW
      have HIW := Lib.hid hIW
      have hWsz := hIW.below.size
      have hdW := hIW.done
      have HW := Lib.hid hW
      have hdb8 : dv.ownBlock ≠ some wo.heap.size := own_lt HI.out.done (Nat.le_refl _)
      have hcb8 : cv.ownBlock ≠ some wo.heap.size := own_lt HI.out.comm (Nat.le_refl _)
      clear hW hIW
      have hkk : kd = 0 ∨ kd = 1 ∨ kd = 2 ∨ kd = 3 := by
        unfold validOp isAcc isEnd at hkd
        simp only [Bool.and_eq_true, Bool.or_eq_true, beq_iff_eq] at hkd
        rcases hkd.2 with ⟨h | h, _⟩ | ⟨h | h, _⟩ <;> omega
      clear hkd
      rcases hkk with rfl | rfl | rfl | rfl
      · have hst1 : rcTo s (k + 1) = (D ++ [⟨tx, 0, it⟩], K, C) := by rw [hstep]; unfold rcStep; simp
        have HS := Lib.hid hst1
        clear hst1 hstep
        obtain rfl := HW.out
        go_wp2_with (at_builtin; refine app_ops (.tmp 30) (.tmp 32) (hdW.alloc _) (by simp; omega) (ROps.litH (by simp) ⟨_, _, _⟩ _) (by omega) rfl rfl rfl rfl ?_; intro v5 w5 hown5 hg5 hat5; have hg5' := World.grownBy.trans (World.grownBy_alloc _ _ _) hg5; have hI5 := HIW.out.grownDone hg5' hown5 hat5 (by simp); have y1 := (hg5'.cell (a := ⟨wo.heap.size, 1, none⟩) x1 (fun e => hdb8 e.symm)); have HI5 := Lib.hid hI5; clear hI5)
        go_roundw
        case rel => exact ⟨k + 1, nd + 1, nk, nc, by omega, by omega, by omega, by omega, by go_num, by rw [HS.out]; exact HI5.out⟩
        case measure => simp [intOf]; omega
      · have hst1 : rcTo s (k + 1) = (D, K, C) := by rw [hstep]; unfold rcStep; simp
        have HS := Lib.hid hst1
        clear hst1 hstep
        go_wp2_with fail
        rw [← HW.out]
        go_wp2_with fail
        go_roundw
        case rel => exact ⟨k + 1, nd, nk, nc, by omega, by omega, by omega, by omega, by go_num, by rw [HS.out]; exact HIW.out⟩
        case measure => simp [intOf]; omega
      · obtain ⟨bb, hbb⟩ : ∃ z, rcBad s C k ⟨tx, 2, it⟩ = z := ⟨_, rfl⟩
        have hst1 : rcTo s (k + 1) = if bb then (D ++ [⟨tx, 3, 0⟩], K ++ [tx], C) else (D ++ rcWrites s k tx ++ [⟨tx, 2, it⟩], K, C ++ [⟨tx, 0, (k : Int)⟩]) := by
          rw [hstep]; unfold rcStep; simp [hbb]
        have HS := Lib.hid hst1
        have HBB := Lib.hid hbb
        clear hst1 hstep hbb
        obtain ⟨CA, cc, rfl, hcc⟩ := own_form2 HI.out.comm
        have hrC := ROps.of_own HIW.out.comm (by omega)
        have hlC : C.length = nc := hrC.1
        have HRC := Lib.hid hrC
        clear hrC
        go_wp2_with fail
        rw [← HW.out]
        go_wp2_with fail
        go_loopw [9, 10] (fun bv i wr => ∃ q : Nat, q ≤ nc ∧ i = .int .i64 q ∧ bv = .bool (rcBad s (C.take q) k ⟨tx, 2, it⟩) ∧ Below W.heap.size W wr) (fun _ i _ => nc - (intOf i).toNat)
        case atStart => exact ⟨0, Nat.zero_le _, rfl, rfl, Below.refl _ _⟩
        case round =>
          obtain ⟨wq, rfl⟩ : ∃ wq : World, wq = wr := ⟨_, rfl⟩
          obtain ⟨q, hq, rfl, rfl, hbq⟩ := hrel
          by_cases hltq : q < nc
          · obtain ⟨bc, offc, cm, hAc, hblc, hcm, e0, e1, e2⟩ := (HRC.out.below hbq (Nat.le_refl _)).at_ hltq
            subst hAc
            obtain ⟨J, hJk, hJe⟩ := hCit cm (List.mem_of_getElem? hcm)
            have hsn := rcBad_snoc (s := s) (i := k) (o := ⟨tx, 2, it⟩) hcm
            obtain ⟨ct, ck, ci⟩ := cm
            simp only at hJe e0 e1 e2
            subst hJe
            obtain ⟨B0, hB0⟩ : ∃ z, rcBad s (C.take q) k ⟨tx, 2, it⟩ = z := ⟨_, rfl⟩
            rw [hB0] at hsn ⊢
            have HSN := Lib.hid hsn
            obtain ⟨W2, hW2⟩ : ∃ W : World, W = wq.alloc (.cells #[.int .i64 ct, .int .i64 ck, .int .i64 (J : Int)] 46) := ⟨_, rfl⟩
            obtain ⟨M0, M1, M2, hbW2, hWs2⟩ := op_box hW2
            have HW2 := Lib.hid hW2
            have HXW := Lib.hid (HXR.out.below (hbW.trans (hbq.mono hbW.size)) (Nat.le_refl _))
            have hbqW := hbq.trans (hbW2.mono hbq.size)
            clear hW2 hsn hcm hB0
            go_wp2_with fail
            rw [← HW2.out]
            clear e0 e1 e2
            try go_wp2_with fail
            go_loopw [9, 12] (fun bv i wr => ∃ x : Nat, x ≤ 3 ∧ i = .int .i64 x ∧ Below W2.heap.size W2 wr ∧ bv = .bool (B0 || rcUp s k ⟨tx, 2, it⟩ ⟨ct, ck, (J : Int)⟩ x)) (fun _ i _ => 3 - (intOf i).toNat)
            case atStart => exact ⟨0, Nat.zero_le _, rfl, Below.refl _ _, by simp [rcUp]⟩
            case round =>
              obtain ⟨wx, rfl⟩ : ∃ wx : World, wx = wr := ⟨_, rfl⟩
              obtain ⟨x, hx3, rfl, hbx, rfl⟩ := hrel
              by_cases hltx : x < 3
              · have hdx : decide ((x : Int) < 3) = true := by simp; omega
                have hup : (B0 || rcUp s k ⟨tx, 2, it⟩ ⟨ct, ck, (J : Int)⟩ (x + 1)) = ((B0 || rcUp s k ⟨tx, 2, it⟩ ⟨ct, ck, (J : Int)⟩ x) || rcHit s k ⟨tx, 2, it⟩ ⟨ct, ck, (J : Int)⟩ (x : Int)) := by
                  simp only [rcUp]; rw [Bool.or_assoc]
                obtain ⟨bp, hbp⟩ : ∃ z, (B0 || rcUp s k ⟨tx, 2, it⟩ ⟨ct, ck, (J : Int)⟩ x) = z := ⟨_, rfl⟩
                rw [hbp] at hup ⊢
                obtain ⟨St, hSt⟩ : ∃ z, stampN s tx = z := ⟨_, rfl⟩
                obtain ⟨b1, hb1⟩ : ∃ z, decide (St < J) = z := ⟨_, rfl⟩
                obtain ⟨b2, hb2⟩ : ∃ z, touchB s k tx 0 (x : Int) = z := ⟨_, rfl⟩
                obtain ⟨b3, hb3⟩ : ∃ z, touchB s J ct 1 (x : Int) = z := ⟨_, rfl⟩
                have hb1' : decide ((St : Int) < (J : Int)) = b1 := by rw [← hb1]; exact decide_eq_decide.2 (by omega)
                have hhit : rcHit s k ⟨tx, 2, it⟩ ⟨ct, ck, (J : Int)⟩ (x : Int) = (b1 && b2 && b3) := by
                  unfold rcHit
                  simp only [Int.toNat_natCast]
                  rw [hSt, hb1', hb2, hb3]
                rw [hhit] at hup
                have HU := Lib.hid hup
                have hXx := HXW.out.below (hbW2.trans (hbx.mono hbW2.size)) (Nat.le_refl _)
                have hT0 : ∀ u : Later wx, Calls Try.prog 123 #[.slice (some ⟨b, off, none⟩) n c, .int .i64 tx] u.1 fun e w' => e = .returned (.int .i64 (St : Nat)) ∧ Below u.1.heap.size u.1 w' := fun u => by
                  have := stampOf_any (some ⟨b, off, none⟩) n c s tx u.1 (hXx.later u); rw [hSt] at this; exact this
                have hT1 : ∀ (u : Later wx) (j : Nat) (t kd : Int), j ≤ n → Calls Try.prog 132 #[.slice (some ⟨b, off, none⟩) n c, .int .i64 (j : Int), .int .i64 t, .int .i64 kd, .int .i64 (x : Int)] u.1 fun e w' => e = .returned (.bool (touchB s j t kd (x : Int))) ∧ Below u.1.heap.size u.1 w' := fun u j t kd hj =>
                  touches_any (some ⟨b, off, none⟩) n c j s t kd (x : Int) u.1 (hXx.later u) hj
                have hJn : J ≤ n := by omega
                have HSt := Lib.hid hT0
                have HT1 := Lib.hid hT1
                have hbWx := hbqW.trans (hbx.mono hbqW.size)
                have P0 : ∀ u : Later wx, u.1.cell? ⟨wo.heap.size, 0, none⟩ = some (.int .i64 tx) := fun u => L0 ⟨u.1, hbWx.trans (u.2.mono hbWx.size)⟩
                have Q0 : ∀ u : Later wx, u.1.cell? ⟨wq.heap.size, 0, none⟩ = some (.int .i64 ct) := fun u => M0 ⟨u.1, hbx.trans (u.2.mono hbx.size)⟩
                have Q2 : ∀ u : Later wx, u.1.cell? ⟨wq.heap.size, 2, none⟩ = some (.int .i64 (J : Int)) := fun u => M2 ⟨u.1, hbx.trans (u.2.mono hbx.size)⟩
                clear hup hbp hSt hhit hXx hT0 hT1
                clear HI HIW HW HS HBB HRC HXR hWsz hse HSN HXW L0 L1 L2 M0 M1 M2 hbWx x0 x1 x2 hdb8 hcb8 hdW hCit
                cases bp
                · cases b1
                  · go_wp2_with fail
                    refine region_later (by kernel_rfl) (by kernel_rfl) ?_
                    repeat (go_big_quiet_step ((first | (go_at_call 123; exact later_call _ (HSt.out _)) | (go_at_call 132; refine later_call _ (HT1.out _ _ _ _ ?_); first | exact hk | exact hJn))))
                    refine wpQuiet_nil ?_
                    rintro _ ⟨u, rfl⟩
                    have hbu := hbx.trans (u.2.mono hbx.size)
                    go_wp2_with fail
                    go_roundw
                    case rel => exact ⟨x + 1, by omega, by go_num, hbu, by rw [HU.out]; first | rfl | simp⟩
                    case measure => simp [intOf]; omega
                  · cases b2
                    · go_wp2_with fail
                      refine region_later (by kernel_rfl) (by kernel_rfl) ?_
                      repeat (go_big_quiet_step ((first | (go_at_call 123; exact later_call _ (HSt.out _)) | (go_at_call 132; refine later_call _ (HT1.out _ _ _ _ ?_); first | exact hk | exact hJn))))
                      refine wpQuiet_nil ?_
                      rintro _ ⟨u, rfl⟩
                      have hbu := hbx.trans (u.2.mono hbx.size)
                      go_wp2_with fail
                      go_roundw
                      case rel => exact ⟨x + 1, by omega, by go_num, hbu, by rw [HU.out]; first | rfl | simp⟩
                      case measure => simp [intOf]; omega
                    · cases b3
                      · go_wp2_with fail
                        refine region_later (by kernel_rfl) (by kernel_rfl) ?_
                        repeat (go_big_quiet_step ((first | (go_at_call 123; exact later_call _ (HSt.out _)) | (go_at_call 132; refine later_call _ (HT1.out _ _ _ _ ?_); first | exact hk | exact hJn))))
                        refine wpQuiet_nil ?_
                        rintro _ ⟨u, rfl⟩
                        have hbu := hbx.trans (u.2.mono hbx.size)
                        go_wp2_with fail
                        go_roundw
                        case rel => exact ⟨x + 1, by omega, by go_num, hbu, by rw [HU.out]; first | rfl | simp⟩
                        case measure => simp [intOf]; omega
                      · go_wp2_with fail
                        refine region_later (by kernel_rfl) (by kernel_rfl) ?_
                        repeat (go_big_quiet_step ((first | (go_at_call 123; exact later_call _ (HSt.out _)) | (go_at_call 132; refine later_call _ (HT1.out _ _ _ _ ?_); first | exact hk | exact hJn))))
                        refine wpQuiet_nil ?_
                        rintro _ ⟨u, rfl⟩
                        have hbu := hbx.trans (u.2.mono hbx.size)
                        go_wp2_with fail
                        go_roundw
                        case rel => exact ⟨x + 1, by omega, by go_num, hbu, by rw [HU.out]; first | rfl | simp⟩
                        case measure => simp [intOf]; omega
                · go_wp2_with fail
                  refine region_later (by kernel_rfl) (by kernel_rfl) ?_
                  repeat (go_big_quiet_step ((first | (go_at_call 123; exact later_call _ (HSt.out _)) | (go_at_call 132; refine later_call _ (HT1.out _ _ _ _ ?_); first | exact hk | exact hJn))))
                  refine wpQuiet_nil ?_
                  rintro _ ⟨u, rfl⟩
                  have hbu := hbx.trans (u.2.mono hbx.size)
                  go_wp2_with fail
                  go_roundw
                  case rel => exact ⟨x + 1, by omega, by go_num, hbu, by rw [HU.out]; first | rfl | simp⟩
                  case measure => simp [intOf]; omega
              · have hfin : Hid ((B0 || rcUp s k ⟨tx, 2, it⟩ ⟨ct, ck, (J : Int)⟩ x) = rcBad s (C.take (q + 1)) k ⟨tx, 2, it⟩) := by
                  show _ = _
                  have : x = 3 := by omega
                  rw [this, rcUp_three, HSN.out]
                obtain ⟨bp, hbp⟩ : ∃ z, (B0 || rcUp s k ⟨tx, 2, it⟩ ⟨ct, ck, (J : Int)⟩ x) = z := ⟨_, rfl⟩
                rw [hbp] at hfin ⊢
                have hdx : decide ((x : Int) < 3) = false := by simp; omega
                clear hbp
                go_wp2_with fail
                go_roundw
                case rel => exact ⟨q + 1, by omega, by go_num, by rw [hfin.out], hbqW.trans (hbx.mono hbqW.size)⟩
                case measure => simp [intOf]; omega
          · have hfin : rcBad s (C.take q) k ⟨tx, 2, it⟩ = bb := by
              rw [List.take_of_length_le (by omega)]; exact HBB.out
            rw [hfin]
            clear hfin
            have hIq := HIW.out.later hbq
            have r0 := L0 ⟨wq, hbq⟩
            have r1 := L1 ⟨wq, hbq⟩
            have r2 := L2 ⟨wq, hbq⟩
            simp only at r0 r1 r2
            have hszq := hIq.below.size
            have hdoq := hIq.done
            have HIq := Lib.hid hIq
            have hb8l := block_lt_of_cell r0
            clear hIq
            cases bb
            · have HS1 := HS.out
              rw [if_neg (by simp)] at HS1
              have HS2 := Lib.hid HS1
              clear HS1 HS
              have hlc2 : nc ≤ k := hnc
              have hIq0 : RcS w (D ++ ((s.take 0).filter fun p => p.tx == tx && p.kind == 1)) K C dv kv (.slice CA nc cc) nd nk nc wq := by simpa using HIq.out
              have HQ0 := Lib.hid hIq0
              clear hIq0
              go_wp2_with fail
              go_loopw [4, 13] (fun dv' i wr => ∃ (p nd' : Nat), p ≤ k ∧ nd' ≤ nd + p ∧ i = .int .i64 p ∧ RcS w (D ++ ((s.take p).filter fun p => p.tx == tx && p.kind == 1)) K C dv' kv (.slice CA nc cc) nd' nk nc wr ∧ dv'.ownBlock ≠ some wo.heap.size ∧ wq.heap.size ≤ wr.heap.size ∧ wr.cell? ⟨wo.heap.size, 0, none⟩ = some (.int .i64 tx) ∧ wr.cell? ⟨wo.heap.size, 1, none⟩ = some (.int .i64 2) ∧ wr.cell? ⟨wo.heap.size, 2, none⟩ = some (.int .i64 it)) (fun _ i _ => k - (intOf i).toNat)
              case atStart => exact ⟨0, nd, Nat.zero_le _, by omega, rfl, HQ0.out, hdb8, Nat.le_refl _, r0, r1, r2⟩
              case round =>
                clear HQ0 r0 r1 r2 hdoq hdb8
                obtain ⟨wp, rfl⟩ : ∃ wp : World, wp = wr := ⟨_, rfl⟩
                obtain ⟨dv', rfl⟩ : ∃ z : Value, z = u4 := ⟨_, rfl⟩
                obtain ⟨p, nd', hp, hnd', rfl, hIp, hdb8, hszp, r0, r1, r2⟩ := hrel
                have hszw := hIp.below.size
                by_cases hltp : p < k
                · obtain ⟨b', off', e, hA', _, he, e0, e1, e2⟩ := (HX.out.below hIp.below (Nat.le_refl _)).at_ (k := p) (by omega)
                  injection hA' with hA'; injection hA' with q1 q2 _; subst q1; subst q2
                  have hfs : (s.take (p + 1)).filter (fun p => p.tx == tx && p.kind == 1) = (s.take p).filter (fun p => p.tx == tx && p.kind == 1) ++ if (e.tx == tx && e.kind == 1) then [e] else [] := by
                    rw [take_snoc he, List.filter_append, List.filter_cons, List.filter_nil]
                  obtain ⟨et, ek, ei⟩ := e
                  simp only at e0 e1 e2 hfs
                  obtain ⟨b1, hb1⟩ : ∃ z, (et == tx) = z := ⟨_, rfl⟩
                  obtain ⟨b2, hb2⟩ : ∃ z, (ek == 1) = z := ⟨_, rfl⟩
                  rw [hb1, hb2] at hfs
                  have HF := Lib.hid hfs
                  have HIp := Lib.hid hIp
                  have E0 := Later.cell e0
                  have E1 := Later.cell e1
                  have E2 := Later.cell e2
                  have R0 := Later.cell r0
                  have R1 := Later.cell r1
                  have R2 := Later.cell r2
                  have hpn : (p : Int) < (n : Int) := by omega
                  have hp0 : (0 : Int) ≤ (p : Int) := by omega
                  have hpk : decide (p < k) = true := by simp; omega
                  clear hfs he hIp e0 e1 e2 r0 r1 r2
                  cases b1
                  · go_wp2_with fail
                    refine region_later (by kernel_rfl) (by kernel_rfl) ?_
                    repeat (go_big_quiet_step (fail))
                    refine wpQuiet_nil ?_
                    rintro _ ⟨u, rfl⟩
                    have hus := u.2.size
                    go_wp2_with fail
                    go_roundw
                    case rel => exact ⟨p + 1, nd', by omega, by omega, by go_num, by rw [HF.out]; simpa using HIp.out.later u.2, hdb8, by omega, R0 u, R1 u, R2 u⟩
                    case measure => simp [intOf]; omega
                  · cases b2
                    · go_wp2_with fail
                      refine region_later (by kernel_rfl) (by kernel_rfl) ?_
                      repeat (go_big_quiet_step (fail))
                      refine wpQuiet_nil ?_
                      rintro _ ⟨u, rfl⟩
                      have hus := u.2.size
                      go_wp2_with fail
                      go_roundw
                      case rel => exact ⟨p + 1, nd', by omega, by omega, by go_num, by rw [HF.out]; simpa using HIp.out.later u.2, hdb8, by omega, R0 u, R1 u, R2 u⟩
                      case measure => simp [intOf]; omega
                    · go_wp2_with fail
                      refine region_later (by kernel_rfl) (by kernel_rfl) ?_
                      repeat (go_big_quiet_step (fail))
                      refine wpQuiet_nil ?_
                      rintro _ ⟨u, rfl⟩
                      have hIu := HIp.out.later u.2
                      have hdou := hIu.done
                      have HIu := Lib.hid hIu
                      have f0 := E0 u
                      have f1 := E1 u
                      have f2 := E2 u
                      have g0 := R0 u
                      have g1 := R1 u
                      have g2 := R2 u
                      obtain ⟨ui, hui⟩ : ∃ ui : World, u.1 = ui := ⟨_, rfl⟩
                      have hus := u.2.size
                      rw [hui] at hdou HIu f0 f1 f2 g0 g1 g2 hus
                      rw [hui]
                      have hszu := HIu.out.below.size
                      clear hui E0 E1 E2 R0 R1 R2 hIu
                      go_wp2_with (at_builtin; refine app_ops (.tmp 118) (.tmp 123) (hdou.alloc _) (by simp; omega) (ROps.lit1 _ ⟨_, _, _⟩ _) (by omega) rfl rfl rfl rfl ?_; intro v6 w6 hown6 hg6 hat6)
                      have hg6' := World.grownBy.trans (World.grownBy_alloc ui _ _) hg6
                      have hI6 := HIu.out.grownDone hg6' hown6 hat6 (by simp)
                      have hs6 := hg6'.size
                      go_roundw
                      case rel => exact ⟨p + 1, nd' + 1, by omega, by omega, by go_num, by rw [HF.out, if_pos (by first | rfl | trivial), ← List.append_assoc]; exact hI6, nb_app hdb8 hat6 (by have := block_lt_of_cell g0; simp; omega), by omega, hg6'.cell (a := ⟨wo.heap.size, 0, none⟩) g0 (fun e => hdb8 e.symm), hg6'.cell (a := ⟨wo.heap.size, 1, none⟩) g1 (fun e => hdb8 e.symm), hg6'.cell (a := ⟨wo.heap.size, 2, none⟩) g2 (fun e => hdb8 e.symm)⟩
                      case measure => simp [intOf]; omega
                · have hdoq := hIp.done
                  have HIp := Lib.hid hIp
                  have ep : p = k := by omega
                  have hpk : decide (p < k) = false := by simp; omega
                  clear hIp
                  go_wp2_with (first
                    | (at_builtin; refine app_ops (.tmp 125) (.tmp 127) (hdoq.alloc _) (by simp; omega) (ROps.lit1 _ ⟨_, _, _⟩ _) (by omega) rfl rfl rfl rfl ?_; intro v6 w6 hown6 hg6 hat6; have hg6' := World.grownBy.trans (World.grownBy_alloc wp _ _) hg6; have hI6 := HIp.out.grownDone hg6' hown6 hat6 (by simp); have hcm6 := hI6.comm; have s0 := (hg6'.cell (a := ⟨wo.heap.size, 0, none⟩) r0 (fun e => hdb8 e.symm)); have hsz6 := hI6.below.size; have HI6 := Lib.hid hI6; clear hI6)
                    | (at_builtin; refine app_ops (.tmp 129) (.tmp 134) (hcm6.alloc _) (by simp; omega) (ROps.lit1 _ ⟨_, _, _⟩ _) (by omega) rfl rfl rfl rfl ?_; intro v7 w7 hown7 hg7 hat7))
                  have hg7' := World.grownBy.trans (World.grownBy_alloc w6 _ _) hg7
                  have hI7 := HI6.out.grownComm hg7' hown7 hat7 (by simp)
                  rw [ep] at hI7
                  go_roundw
                  case rel => exact ⟨k + 1, nd' + 1, nk, nc + 1, by omega, by omega, by omega, by omega, by go_num, by rw [HS2.out]; exact hI7⟩
                  case measure => simp [intOf]; omega
            · have HS1 := HS.out
              rw [if_pos (by first | rfl | trivial)] at HS1
              have HS2 := Lib.hid HS1
              clear HS1 HS
              go_wp2_with (first
                | (at_builtin; refine app_ops (.tmp 86) (.tmp 90) (hdoq.alloc _) (by simp; omega) (ROps.lit1 _ ⟨_, _, _⟩ _) (by omega) rfl rfl rfl rfl ?_; intro v6 w6 hown6 hg6 hat6; have hg6' := World.grownBy.trans (World.grownBy_alloc wq _ _) hg6; have hI6 := HIq.out.grownDone hg6' hown6 hat6 (by simp); have hka6 := hI6.dead; have s0 := (hg6'.cell (a := ⟨wo.heap.size, 0, none⟩) r0 (fun e => hdb8 e.symm)); have hsz6 := hI6.below.size; have HI6 := Lib.hid hI6; clear hI6)
                | (at_builtin; refine app_ints (.tmp 92) (.tmp 95) (hka6.alloc _) (by simp; omega) (lit1 rfl _) (by omega) rfl rfl rfl rfl ?_; intro v7 w7 hown7 hg7 hat7))
              have hg7' := World.grownBy.trans (World.grownBy_alloc w6 _ _) hg7
              have hI7 := HI6.out.grownDead hg7' hown7
              go_roundw
              case rel => exact ⟨k + 1, nd + 1, nk + 1, nc, by omega, by omega, by omega, by omega, by go_num, by rw [HS2.out]; exact hI7⟩
              case measure => simp [intOf]; omega
      · have hst1 : rcTo s (k + 1) = (D ++ [⟨tx, 3, it⟩], K, C) := by rw [hstep]; unfold rcStep; simp
        have HS := Lib.hid hst1
        clear hst1 hstep
        obtain rfl := HW.out
        go_wp2_with (at_builtin; refine app_ops (.tmp 37) (.tmp 39) (hdW.alloc _) (by simp; omega) (ROps.litH (by simp) ⟨_, _, _⟩ _) (by omega) rfl rfl rfl rfl ?_; intro v5 w5 hown5 hg5 hat5; have hg5' := World.grownBy.trans (World.grownBy_alloc _ _ _) hg5; have hI5 := HIW.out.grownDone hg5' hown5 hat5 (by simp); have y1 := (hg5'.cell (a := ⟨wo.heap.size, 1, none⟩) x1 (fun e => hdb8 e.symm)); have HI5 := Lib.hid hI5; clear hI5)
        go_roundw
        case rel => exact ⟨k + 1, nd + 1, nk, nc, by omega, by omega, by omega, by omega, by go_num, by rw [HS.out]; exact HI5.out⟩
        case measure => simp [intOf]; omega
    · have e : k = s.length := by omega
      obtain ⟨DA, dc, rfl, hdc⟩ := own_form2 hI.done
      obtain ⟨KA, kc, rfl, hkc⟩ := own_form2 hI.dead
      rw [e] at hI
      have HO := Lib.hid (RetOI.mk (own_lenOps hI.done) (own_lenInts hI.dead) hdc hkc (FreshOps.of_own hI.done (Nat.le_refl _) (by omega)) (FreshInts.of_own hI.dead (Nat.le_refl _) (by omega)) hI.below)
      clear hI e
      go_wp2_with fail
      go_ret2
      exact HO.out
end Go.Proofs.Ytofcpfabjfhjoaa
namespace Go.Proofs.Ytofcpfabjfhjoaa
open Go.RowKit Go.BigFrame
set_option linter.unusedVariables false

set_option maxHeartbeats 400000 in
theorem szOpS_any (A : Option Addr) (n c : Nat) (left : Int) (w : World) (h0 : 0 ≤ left) (h1 : left ≤ 1048576) (hn : n ≤ 9223372036854775807) :
    Calls Try.prog 25 #[.slice A n c, .int .i64 left] w fun e w' => e = .returned (.int .i64 (if left < n then -1 else left - n)) ∧ w = w' := by
  by_cases hl : left < n
  · rw [if_pos hl]
    go_enter Try.func25, Try.ntmps25
    go_wp2_with fail
    go_ret
    exact ⟨rfl, rfl⟩
  · rw [if_neg hl]
    go_enter Try.func25, Try.ntmps25
    go_wp2_with fail
    go_ret
    exact ⟨rfl, rfl⟩

set_option maxHeartbeats 400000 in
theorem toOp_any (o : OpV) (w : World) :
    Calls Try.prog 81 #[o.val] w fun e w' => e = .returned o.val ∧ Below w.heap.size w w' := by
  obtain ⟨t, k, x⟩ := o
  unfold OpV.val
  go_enter Try.func81, Try.ntmps81
  go_wp2_with fail
  (try simp only [Exit.inBlock, Exit.then])
  refine bodyPost_ret (v := .agg #[.int .i64 t, .int .i64 k, .int .i64 x]) (by simp [results, Try.results81, go_sem]) rfl ?_
  exact ⟨rfl, by (repeat (first | exact Below.refl _ _ | assumption | refine B_alloc ?_ (Nat.le_refl _) _ | refine Below.drew ?_ | refine B_drewN ?_ _ | refine B_after (by assumption) ?_ | (refine B_set ?_ ?_; rotate_left; (first | exact Nat.le_refl _ | (simp; done) | (simp at *; omega)))))⟩

set_option maxHeartbeats 400000 in
theorem eqOp_any (o p : OpV) (w : World) :
    Calls Try.prog 86 #[o.val, p.val] w fun e w' => e = .returned (.bool (o == p)) ∧ Below w.heap.size w w' := by
  obtain ⟨t, k, x⟩ := o
  obtain ⟨t', k', x'⟩ := p
  unfold OpV.val
  have hq : Hid (((⟨t, k, x⟩ : OpV) == ⟨t', k', x'⟩) = (t == t' && k == k' && x == x')) := by
    show _ = _
    rw [Bool.eq_iff_iff]; simp [and_assoc]
  by_cases h1 : t = t' <;> by_cases h2 : k = k' <;> by_cases h3 : x = x'
  all_goals
    go_enter Try.func86, Try.ntmps86
    go_wp2_with fail
    go_ret
    exact ⟨ret_bool (by rw [hq.out]; simp [h1, h2, h3]), by (repeat (first | exact Below.refl _ _ | assumption | refine B_alloc ?_ (Nat.le_refl _) _ | refine Below.drew ?_ | refine B_drewN ?_ _ | refine B_after (by assumption) ?_ | (refine B_set ?_ ?_; rotate_left; (first | exact Nat.le_refl _ | (simp; done) | (simp at *; omega)))))⟩

set_option maxRecDepth 100000 in
set_option maxHeartbeats 1000000 in
theorem toOpS_any (A : Option Addr) (n c : Nat) (s : List OpV) (w : World) (hx : ROps w A n s) (hm : n ≤ 1048576) :
    Calls Try.prog 27 #[.slice A n c] w (RetOps w s) := by
  have hl := hx.1
  have HX := Lib.hid hx
  clear hx
  obtain ⟨i0, hi, hz0, hz1, hz2⟩ := info_parts opInfo
  go_enter Try.func27, Try.ntmps27
  go_wp2_with (at_make; refine wpList_make_full _ rfl _ _ 23 rfl w.heap.size 46 i0 _ 3 Try.underlying23 hi hz0 hz1 .i64 .i64 _ _ n rfl rfl rfl rfl (by rw [hz2]; omega) (by unfold maxLen; omega) (Nat.le_refl _) ?_; intro w1 hown1 hg1)
  have hb1 : Below w.heap.size w w1 := ⟨hg1.os, hg1.tape, hg1.output, hg1.size, fun k hk => hg1.block k hk (by simp)⟩
  have hrow : ∃ cur : Array Value, w1.heap[w.heap.size]? = some (.cells cur 46 (0, 0)) ∧ cur.toList = opCells (List.replicate n OpV.zero) := by
    rcases hown1.2 with ⟨h1, _⟩ | ⟨g, cap, cur, h1, h2, h3, h4, h5, h6, h7⟩
    · cases h1
    · injection h1 with ha hb hc
      injection ha with ha
      injection ha with ha
      subst ha; subst hc
      refine ⟨cur, h3, ?_⟩
      rw [opCells_zero]
      have : cur.toList = cur.toList.take (n * 3) := by rw [List.take_of_length_le (by simpa using Nat.le_of_eq h6)]
      rw [this, h7]
      apply List.ext_getElem?
      intro j
      rw [List.getElem?_replicate]
      split
      · rename_i hj
        rw [List.getElem?_eq_getElem (by simpa [size_madeCells] using hj)]
        simp only [madeCells, Array.getElem_toList, Array.getElem_map, Array.getElem_range]
        congr 1
        show (#[Value.int .i64 0, .int .i64 0, .int .i64 0] : Array Value)[j % 3]! = _
        rcases (by omega : j % 3 = 0 ∨ j % 3 = 1 ∨ j % 3 = 2) with e | e | e <;> rw [e] <;> rfl
      · rename_i hj
        rw [List.getElem?_eq_none (by simpa [size_madeCells] using hj)]
  have HST : Hid (RowIs w1 w.heap.size 46 (opCells (s.take 0 ++ List.replicate n OpV.zero) ++ []) ∧ Below w.heap.size w w1) := by
    obtain ⟨cur, h1, h2⟩ := hrow
    refine ⟨?_, hb1⟩
    unfold RowIs
    rw [h1]
    simp [← h2]
  clear hown1 hb1 hg1 hrow hi hz0 hz1 hz2
  go_loopw [4] (fun i wr => ∃ k : Nat, k ≤ n ∧ i = .int .i64 k ∧ Below w.heap.size w wr ∧ RowIs wr w.heap.size 46 (opCells (s.take k ++ List.replicate (n - k) OpV.zero) ++ [])) (fun i _ => n - (intOf i).toNat)
  case atStart => exact ⟨0, Nat.zero_le _, rfl, HST.out.2, HST.out.1⟩
  case round =>
    clear HST
    obtain ⟨wo, rfl⟩ : ∃ wo : World, wo = wr := ⟨_, rfl⟩
    obtain ⟨k, hk, rfl, hb, hrow⟩ := hrel
    by_cases hlt : k < n
    · obtain ⟨b, off, o, rfl, hbl, ho, c0, c1, c2⟩ := (HX.out.below hb (Nat.le_refl _)).at_ hlt
      have hs := hb.size
      have hC : ∀ W, Calls Try.prog 81 #[.agg #[.int .i64 o.tx, .int .i64 o.kind, .int .i64 o.item]] W fun e w' => e = .returned (.agg #[.int .i64 o.tx, .int .i64 o.kind, .int .i64 o.item]) ∧ Below W.heap.size W w' := toOp_any o
      have HC := Lib.hid hC
      have hlen : k < (s.take k ++ List.replicate (n - k) OpV.zero).length := by simp; omega
      have HE : Hid ((s.take k ++ List.replicate (n - k) OpV.zero).set k o = s.take (k + 1) ++ List.replicate (n - (k + 1)) OpV.zero) := by
        show _ = _
        rw [show n - k = (n - (k + 1)) + 1 by omega, set_snoc _ _ _ _ _ ho]
      have HR := Lib.hid hrow
      clear ho hC hrow
      obtain ⟨tx, kd, it⟩ := o
      go_wp2_with fail
      refine (HC.out _).mono ?_
      rintro e w2 ⟨rfl, hb2⟩
      have hrow2 := HR.out.below hb2 (Nat.le_refl _)
      have HR2 := Lib.hid hrow2
      have hbw := hb.trans (hb2.mono hs)
      clear hrow2
      go_wp2_with (refine store_op (.tmp 21) (.tmp 20) ⟨tx, kd, it⟩ HR2.out hlen rfl rfl rfl rfl ?_; intro w3 hrow3 hg3; rw [HE.out] at hrow3)
      go_roundw
      case rel => exact ⟨k + 1, by omega, by go_num, hbw.grown hg3 hbw.size (fun q hq => by injection hq with hq; omega), hrow3⟩
      case measure => simp [intOf]; omega
    · obtain rfl : k = n := by omega
      have e : s.take k ++ List.replicate (k - k) OpV.zero = s := by rw [Nat.sub_self, List.take_of_length_le (by omega)]; simp
      rw [e] at hrow
      have hlt2 := hrow.lt
      have HO : Hid (RetOps w s (.returned (.slice (some ⟨w.heap.size, 0, none⟩) k k)) wo) := by
        refine RetOps.mk hl (Nat.le_refl _) ⟨hrow.ops hl (by omega), fun ad had => ?_⟩ hb
        injection had with had
        subst had
        exact ⟨_, _, rfl, Nat.le_refl _, hrow, by simp [length_opCells]; omega⟩
      clear hrow e
      go_wp2_with fail
      go_ret
      exact HO.out
end Go.Proofs.Ytofcpfabjfhjoaa
namespace Go.Proofs.Ytofcpfabjfhjoaa
open Go.RowKit Go.BigFrame
set_option linter.unusedVariables false

set_option maxHeartbeats 400000 in
theorem isIn_any (A : Option Addr) (n c : Nat) (xs : List Int) (x : Int) (w : World) (hx : RInts w A n xs) :
    Calls Try.prog 21 #[.slice A n c, .int .i64 x] w fun e w' => e = .returned (.bool (xs.any fun y => y == x)) ∧ Below w.heap.size w w' := by
  have hn := hx.2.1
  have hl := hx.1
  have HX := Lib.hid hx
  clear hx
  go_enter Try.func21, Try.ntmps21
  go_wp2_with fail
  go_loop [5] (fun i => ∃ k : Nat, k ≤ n ∧ i = .int .i64 k ∧ ((xs.take k).any fun y => y == x) = false) (fun i => n - (intOf i).toNat)
  case atStart => exact ⟨0, Nat.zero_le _, rfl, by simp⟩
  case round =>
    obtain ⟨k, hk, rfl, hno⟩ := hrel
    by_cases hlt : k < n
    · obtain ⟨b, off, y, rfl, hbl, ho, c0⟩ := HX.out.at_ hlt
      have hst : ((xs.take (k + 1)).any fun y => y == x) = ((xs.take k).any (fun y => y == x) || y == x) := by
        rw [List.take_add_one, ho, List.any_append]; simp
      rw [hno, Bool.false_or] at hst
      have HS := Lib.hid hst
      have HM := Lib.hid (List.mem_of_getElem? ho)
      clear hst ho hno
      by_cases h1 : y = x
      · have ht : Hid ((xs.any fun y => y == x) = true) := List.any_eq_true.2 ⟨y, HM.out, by simpa using h1⟩
        go_wp2_with fail
        go_ret
        exact ⟨ret_bool ht.out.symm, Below.refl _ _⟩
      · have h1' : (y == x) = false := by simpa using h1
        go_wp2_with fail
        go_round
        case rel => exact ⟨k + 1, by omega, by go_num, by rw [HS.out]; exact h1'⟩
        case measure => simp [intOf]; omega
    · rw [List.take_of_length_le (by omega)] at hno
      have HN := Lib.hid hno
      clear hno
      go_wp2_with fail
      go_ret
      exact ⟨ret_bool HN.out.symm, Below.refl _ _⟩

theorem eq_of_get {α : Type} {xs ys : List α} (hl : xs.length = ys.length) (h : ∀ j, j < xs.length → xs[j]? = ys[j]?) : xs = ys := by
  apply List.ext_getElem? 
  intro i
  rcases Nat.lt_or_ge i xs.length with h1 | h1
  · exact h i h1
  · rw [List.getElem?_eq_none h1, List.getElem?_eq_none (by omega)]

set_option maxHeartbeats 400000 in
theorem equalInts_any (A B : Option Addr) (n m c d : Nat) (xs ys : List Int) (w : World) (hx : RInts w A n xs) (hy : RInts w B m ys) :
    Calls Try.prog 17 #[.slice A n c, .slice B m d] w fun e w' => e = .returned (.bool (xs == ys)) ∧ Below w.heap.size w w' := by
  have hn := hx.2.1
  have hl := hx.1
  have hm := hy.2.1
  have hly := hy.1
  have HX := Lib.hid hx
  have HY := Lib.hid hy
  clear hx hy
  by_cases hnm : n = m
  · subst hnm
    go_enter Try.func17, Try.ntmps17
    go_wp2_with fail
    go_loopw [5] (fun i wr => ∃ k : Nat, k ≤ n ∧ i = .int .i64 k ∧ Below w.heap.size w wr ∧ ∀ j, j < k → xs[j]? = ys[j]?) (fun i _ => n - (intOf i).toNat)
    case atStart => exact ⟨0, Nat.zero_le _, rfl, Below.refl _ _, by omega⟩
    case round =>
      obtain ⟨k, hk, rfl, hb, hno⟩ := hrel
      by_cases hlt : k < n
      · obtain ⟨b, off, x, rfl, hbl, hox, c0⟩ := (HX.out.below hb (Nat.le_refl _)).at_ hlt
        obtain ⟨b', off', y, rfl, hbl', hoy, d0⟩ := (HY.out.below hb (Nat.le_refl _)).at_ hlt
        have HN : Hid (x = y → ∀ j, j < k + 1 → xs[j]? = ys[j]?) := fun h j hj => by
          by_cases e : j = k
          · subst e; rw [hox, hoy, h]
          · exact hno j (by omega)
        have HT : Hid (¬ x = y → (xs == ys) = false) := fun h => by
          rw [beq_eq_false_iff_ne]
          intro e
          rw [e, hoy] at hox
          injection hox with hox
          exact h hox.symm
        have L0 := Later.cell c0
        have M0 := Later.cell d0
        have hki : (k : Int) < (n : Int) := by omega
        clear hno hox hoy c0 d0
        by_cases h1 : x = y
        · have hs := Lib.hid (HN.out h1)
          subst h1
          go_wp2_with fail
          refine region_later (by kernel_rfl) (by kernel_rfl) ?_
          repeat (go_big_quiet_step (fail))
          refine wpQuiet_nil ?_
          rintro _ ⟨u, rfl⟩
          have hbu := hb.trans (u.2.mono hb.size)
          go_wp2_with fail
          go_roundw
          case rel => exact ⟨k + 1, by omega, by go_num, hbu, hs.out⟩
          case measure => simp [intOf]; omega
        · have hs := Lib.hid (HT.out h1)
          have h1' : (x != y) = true := by simpa using h1
          go_wp2_with fail
          refine region_later (by kernel_rfl) (by kernel_rfl) ?_
          repeat (go_big_quiet_step (fail))
          refine wpQuiet_nil ?_
          rintro _ ⟨u, rfl⟩
          have hbu := hb.trans (u.2.mono hb.size)
          go_wp2_with fail
          go_ret
          exact ⟨ret_bool hs.out.symm, hbu⟩
      · have hs : Hid ((xs == ys) = true) := by
          show _ = _
          rw [beq_iff_eq]
          exact eq_of_get (by omega) (fun j hj => hno j (by omega))
        clear hno
        go_wp2_with fail
        go_ret
        exact ⟨ret_bool hs.out.symm, hb⟩
  · have hs : Hid ((xs == ys) = false) := by
      show _ = _
      rw [beq_eq_false_iff_ne]
      intro e
      rw [e] at hl
      omega
    go_enter Try.func17, Try.ntmps17
    go_wp2_with fail
    go_ret
    exact ⟨ret_bool hs.out.symm, Below.refl _ _⟩

end Go.Proofs.Ytofcpfabjfhjoaa
namespace Go.Proofs.Ytofcpfabjfhjoaa
open Go.RowKit Go.BigFrame
set_option linter.unusedVariables false

set_option maxHeartbeats 400000 in
theorem eqIntS_any (A B : Option Addr) (n m c d : Nat) (xs ys : List Int) (w : World) (hx : RInts w A n xs) (hy : RInts w B m ys) :
    Calls Try.prog 29 #[.slice A n c, .slice B m d] w fun e w' => e = .returned (.bool (xs == ys)) ∧ Below w.heap.size w w' := by
  have hn := hx.2.1
  have hl := hx.1
  have hm := hy.2.1
  have hly := hy.1
  have HX := Lib.hid hx
  have HY := Lib.hid hy
  clear hx hy
  by_cases hnm : n = m
  · subst hnm
    go_enter Try.func29, Try.ntmps29
    go_wp2_with fail
    go_loopw [5] (fun i wr => ∃ k : Nat, k ≤ n ∧ i = .int .i64 k ∧ Below w.heap.size w wr ∧ ∀ j, j < k → xs[j]? = ys[j]?) (fun i _ => n - (intOf i).toNat)
    case atStart => exact ⟨0, Nat.zero_le _, rfl, Below.refl _ _, by omega⟩
    case round =>
      obtain ⟨k, hk, rfl, hb, hno⟩ := hrel
      by_cases hlt : k < n
      · obtain ⟨b, off, x, rfl, hbl, hox, c0⟩ := (HX.out.below hb (Nat.le_refl _)).at_ hlt
        obtain ⟨b', off', y, rfl, hbl', hoy, d0⟩ := (HY.out.below hb (Nat.le_refl _)).at_ hlt
        have HN : Hid (x = y → ∀ j, j < k + 1 → xs[j]? = ys[j]?) := fun h j hj => by
          by_cases e : j = k
          · subst e; rw [hox, hoy, h]
          · exact hno j (by omega)
        have HT : Hid (¬ x = y → (xs == ys) = false) := fun h => by
          rw [beq_eq_false_iff_ne]
          intro e
          rw [e, hoy] at hox
          injection hox with hox
          exact h hox.symm
        have L0 := Later.cell c0
        have M0 := Later.cell d0
        have hki : (k : Int) < (n : Int) := by omega
        clear hno hox hoy c0 d0
        by_cases h1 : x = y
        · have hs := Lib.hid (HN.out h1)
          subst h1
          go_wp2_with fail
          refine region_later (by kernel_rfl) (by kernel_rfl) ?_
          repeat (go_big_quiet_step (fail))
          refine wpQuiet_nil ?_
          rintro _ ⟨u, rfl⟩
          have hbu := hb.trans (u.2.mono hb.size)
          go_wp2_with fail
          go_roundw
          case rel => exact ⟨k + 1, by omega, by go_num, hbu, hs.out⟩
          case measure => simp [intOf]; omega
        · have hs := Lib.hid (HT.out h1)
          have h1' : (x != y) = true := by simpa using h1
          go_wp2_with fail
          refine region_later (by kernel_rfl) (by kernel_rfl) ?_
          repeat (go_big_quiet_step (fail))
          refine wpQuiet_nil ?_
          rintro _ ⟨u, rfl⟩
          have hbu := hb.trans (u.2.mono hb.size)
          go_wp2_with fail
          go_ret
          exact ⟨ret_bool hs.out.symm, hbu⟩
      · have hs : Hid ((xs == ys) = true) := by
          show _ = _
          rw [beq_iff_eq]
          exact eq_of_get (by omega) (fun j hj => hno j (by omega))
        clear hno
        go_wp2_with fail
        go_ret
        exact ⟨ret_bool hs.out.symm, hb⟩
  · have hs : Hid ((xs == ys) = false) := by
      show _ = _
      rw [beq_eq_false_iff_ne]
      intro e
      rw [e] at hl
      omega
    go_enter Try.func29, Try.ntmps29
    go_wp2_with fail
    go_ret
    exact ⟨ret_bool hs.out.symm, Below.refl _ _⟩


set_option maxHeartbeats 1000000 in
theorem eqOpS_any (A B : Option Addr) (n m c d : Nat) (xs ys : List OpV) (w : World) (hx : ROps w A n xs) (hy : ROps w B m ys) :
    Calls Try.prog 30 #[.slice A n c, .slice B m d] w fun e w' => e = .returned (.bool (xs == ys)) ∧ Below w.heap.size w w' := by
  have hn := hx.2.1
  have hl := hx.1
  have hm := hy.2.1
  have hly := hy.1
  have HX := Lib.hid hx
  have HY := Lib.hid hy
  clear hx hy
  by_cases hnm : n = m
  · subst hnm
    go_enter Try.func30, Try.ntmps30
    go_wp2_with fail
    go_loopw [5] (fun i wr => ∃ k : Nat, k ≤ n ∧ i = .int .i64 k ∧ Below w.heap.size w wr ∧ ∀ j, j < k → xs[j]? = ys[j]?) (fun i _ => n - (intOf i).toNat)
    case atStart => exact ⟨0, Nat.zero_le _, rfl, Below.refl _ _, by omega⟩
    case round =>
      obtain ⟨k, hk, rfl, hb, hno⟩ := hrel
      by_cases hlt : k < n
      · obtain ⟨b, off, x, rfl, hbl, hox, c0, c1, c2⟩ := (HX.out.below hb (Nat.le_refl _)).at_ hlt
        obtain ⟨b', off', y, rfl, hbl', hoy, d0, d1, d2⟩ := (HY.out.below hb (Nat.le_refl _)).at_ hlt
        have HN : Hid (x = y → ∀ j, j < k + 1 → xs[j]? = ys[j]?) := fun h j hj => by
          by_cases e : j = k
          · subst e; rw [hox, hoy, h]
          · exact hno j (by omega)
        have HT : Hid (¬ x = y → (xs == ys) = false) := fun h => by
          rw [beq_eq_false_iff_ne]
          intro e
          rw [e, hoy] at hox
          injection hox with hox
          exact h hox.symm
        have L0 := Later.cell c0
        have L1 := Later.cell c1
        have L2 := Later.cell c2
        have M0 := Later.cell d0
        have M1 := Later.cell d1
        have M2 := Later.cell d2
        have hki : (k : Int) < (n : Int) := by omega
        obtain ⟨bb, hbb⟩ : ∃ bb, (x == y) = bb := ⟨_, rfl⟩
        have hC : ∀ u : Later wr, Calls Try.prog 86 #[.agg #[.int .i64 x.tx, .int .i64 x.kind, .int .i64 x.item], .agg #[.int .i64 y.tx, .int .i64 y.kind, .int .i64 y.item]] u.1 fun e w' => e = .returned (.bool bb) ∧ Below u.1.heap.size u.1 w' := fun u => by
          have := eqOp_any x y u.1; rw [hbb] at this; exact this
        have HC := Lib.hid hC
        have HB := Lib.hid hbb
        clear hno hox hoy c0 c1 c2 d0 d1 d2 hC hbb
        cases bb
        · have hs := Lib.hid (HT.out (by simpa using HB.out))
          obtain ⟨x0, x1, x2⟩ := x
          obtain ⟨y0, y1, y2⟩ := y
          go_wp2_with fail
          refine region_later (by kernel_rfl) (by kernel_rfl) ?_
          repeat (go_big_quiet_step ((go_at_call 86; exact later_call _ (HC.out _))))
          refine wpQuiet_nil ?_
          rintro _ ⟨u, rfl⟩
          have hbu := hb.trans (u.2.mono hb.size)
          go_wp2_with fail
          go_ret
          exact ⟨ret_bool hs.out.symm, hbu⟩
        · have hs := Lib.hid (HN.out (by simpa using HB.out))
          obtain ⟨x0, x1, x2⟩ := x
          obtain ⟨y0, y1, y2⟩ := y
          go_wp2_with fail
          refine region_later (by kernel_rfl) (by kernel_rfl) ?_
          repeat (go_big_quiet_step ((go_at_call 86; exact later_call _ (HC.out _))))
          refine wpQuiet_nil ?_
          rintro _ ⟨u, rfl⟩
          have hbu := hb.trans (u.2.mono hb.size)
          go_wp2_with fail
          go_roundw
          case rel => exact ⟨k + 1, by omega, by go_num, hbu, hs.out⟩
          case measure => simp [intOf]; omega
      · have hs : Hid ((xs == ys) = true) := by
          show _ = _
          rw [beq_iff_eq]
          exact eq_of_get (by omega) (fun j hj => hno j (by omega))
        clear hno
        go_wp2_with fail
        go_ret
        exact ⟨ret_bool hs.out.symm, hb⟩
  · have hs : Hid ((xs == ys) = false) := by
      show _ = _
      rw [beq_eq_false_iff_ne]
      intro e
      rw [e] at hl
      omega
    go_enter Try.func30, Try.ntmps30
    go_wp2_with fail
    go_ret
    exact ⟨ret_bool hs.out.symm, Below.refl _ _⟩

/-- The marks that are laid into a list. -/
def mkOps (k : Int) : Nat → List OpV
  | 0 => []
  | n + 1 => mkOps k n ++ [⟨k + 3 * n, k + 3 * n + 1, k + 3 * n + 2⟩]
def mkInts (k : Int) : Nat → List Int
  | 0 => []
  | n + 1 => mkInts k n ++ [k + n]
theorem mkOps_len (k : Int) (n : Nat) : (mkOps k n).length = n := by induction n with
  | zero => rfl
  | succ n ih => simp [mkOps, ih]
theorem mkInts_len (k : Int) (n : Nat) : (mkInts k n).length = n := by induction n with
  | zero => rfl
  | succ n ih => simp [mkInts, ih]
theorem mkOps_at (k : Int) (n : Nat) : ∀ i, i < n → (mkOps k n)[i]? = some ⟨k + 3 * i, k + 3 * i + 1, k + 3 * i + 2⟩ := by
  induction n with
  | zero => intro i h; omega
  | succ n ih =>
    intro i h
    simp only [mkOps]
    by_cases e : i = n
    · subst e; rw [List.getElem?_append_right (by rw [mkOps_len]; omega), mkOps_len]; simp
    · rw [List.getElem?_append_left (by rw [mkOps_len]; omega)]; exact ih i (by omega)
theorem mkInts_at (k : Int) (n : Nat) : ∀ i, i < n → (mkInts k n)[i]? = some (k + i) := by
  induction n with
  | zero => intro i h; omega
  | succ n ih =>
    intro i h
    simp only [mkInts]
    by_cases e : i = n
    · subst e; rw [List.getElem?_append_right (by rw [mkInts_len]; omega), mkInts_len]; simp
    · rw [List.getElem?_append_left (by rw [mkInts_len]; omega)]; exact ih i (by omega)
theorem set_mid {α : Type} {zs xs : List α} {k : Nat} (hl : zs.length = k) (hk : k < xs.length) (v : α) : (zs ++ xs.drop k).set k v = (zs ++ [v]) ++ xs.drop (k + 1) := by
  rw [List.set_append_right _ _ (by omega), hl, Nat.sub_self, List.drop_eq_getElem_cons hk, List.set_cons_zero, List.append_assoc]; rfl

def MarkedOps (A : Option Addr) (n : Nat) (k : Int) (w : World) (e : Ending) (w' : World) : Prop :=
  e = .returned (.int .i64 (k + 3 * n)) ∧ ROps w' A n (mkOps k n) ∧ w.grownBy w' (A.map Addr.block)
def MarkedInts (A : Option Addr) (n : Nat) (k : Int) (w : World) (e : Ending) (w' : World) : Prop :=
  e = .returned (.int .i64 (k + n)) ∧ RInts w' A n (mkInts k n) ∧ w.grownBy w' (A.map Addr.block)

set_option maxRecDepth 100000 in
set_option maxHeartbeats 1000000 in
theorem markIntS_any (A : Option Addr) (n c : Nat) (xs : List Int) (k0 : Int) (w0 w : World) (hx : FreshInts w0 w A n xs) (h0 : 0 ≤ k0) (h1 : k0 ≤ 1099511627776) :
    Calls Try.prog 32 #[.slice A n c, .int .i64 k0] w (MarkedInts A n k0 w) := by
  have hn := hx.1.2.1
  have hl := hx.1.1
  rcases Nat.eq_zero_or_pos n with hz | hz
  · subst hz
    clear hx
    go_enter Try.func32, Try.ntmps32
    go_wp2_with fail
    go_loopw [1, 5] (fun kv i wr => i = .int .i64 0 ∧ kv = .int .i64 k0 ∧ wr = w) (fun _ _ _ => 0)
    case atStart => exact ⟨rfl, rfl, rfl⟩
    case round =>
      obtain ⟨rfl, rfl, rfl⟩ := hrel
      go_wp2_with fail
      go_ret
      exact ⟨ret_int (by simp), RInts.nil, World.grownBy.refl _ _⟩
  · obtain ⟨g, rest, rfl, hge, hrow⟩ := hx.row hz
    have HST : Hid (RowIs w g 3 (intCells (mkInts k0 0 ++ xs.drop 0) ++ rest)) := by (show RowIs _ _ _ _); simpa [mkInts] using hrow
    clear hx hrow
    go_enter Try.func32, Try.ntmps32
    go_wp2_with fail
    go_loopw [1, 5] (fun kv i wr => ∃ k : Nat, k ≤ n ∧ i = .int .i64 k ∧ kv = .int .i64 (k0 + k) ∧ w.grownBy wr (some g) ∧ RowIs wr g 3 (intCells (mkInts k0 k ++ xs.drop k) ++ rest)) (fun _ i _ => n - (intOf i).toNat)
    case atStart => exact ⟨0, Nat.zero_le _, rfl, by simp, World.grownBy.refl _ _, HST.out⟩
    case round =>
      clear HST
      obtain ⟨k, hk, rfl, rfl, hg, hrow⟩ := hrel
      by_cases hlt : k < n
      · have hr2 := row_setInt (v := k0 + k) (k := k) hrow (by simp [mkInts_len]; omega)
        rw [set_mid (mkInts_len k0 k) (by omega)] at hr2
        obtain ⟨v, hv⟩ : ∃ v, wr.cell? ⟨g, k, none⟩ = some v := ⟨_, hrow.cell (List.getElem?_eq_getElem (by simp [intCells, mkInts_len]; omega))⟩
        have hfz := hrow.frozen k
        have HR := Lib.hid hr2
        clear hrow hr2
        go_wp2_with fail
        go_roundw
        case rel => exact ⟨k + 1, by omega, by go_num, by first | (congr 1; omega) | go_num, hg.trans grown_set, HR.out⟩
        case measure => simp [intOf]; omega
      · obtain rfl : k = n := by omega
        have HF : Hid (RInts wr (some ⟨g, 0, none⟩) k (mkInts k0 k)) := RowIs.ints (rest := rest) (by simpa [List.drop_of_length_le (show xs.length ≤ k by omega)] using hrow) (mkInts_len _ _) hn
        clear hrow
        go_wp2_with fail
        go_ret
        exact ⟨rfl, HF.out, hg⟩

set_option maxRecDepth 100000 in
set_option maxHeartbeats 1000000 in
theorem markOpS_any (A : Option Addr) (n c : Nat) (xs : List OpV) (k0 : Int) (w0 w : World) (hx : FreshOps w0 w A n xs) (h0 : 0 ≤ k0) (h1 : k0 ≤ 1099511627776) :
    Calls Try.prog 31 #[.slice A n c, .int .i64 k0] w (MarkedOps A n k0 w) := by
  have hn := hx.1.2.1
  have hl := hx.1.1
  rcases Nat.eq_zero_or_pos n with hz | hz
  · subst hz
    clear hx
    go_enter Try.func31, Try.ntmps31
    go_wp2_with fail
    go_loopw [1, 5] (fun kv i wr => i = .int .i64 0 ∧ kv = .int .i64 k0 ∧ wr = w) (fun _ _ _ => 0)
    case atStart => exact ⟨rfl, rfl, rfl⟩
    case round =>
      obtain ⟨rfl, rfl, rfl⟩ := hrel
      go_wp2_with fail
      go_ret
      exact ⟨ret_int (by simp), ROps.nil, World.grownBy.refl _ _⟩
  · obtain ⟨g, rest, rfl, hge, hrow⟩ := hx.row hz
    have HST : Hid (RowIs w g 46 (opCells (mkOps k0 0 ++ xs.drop 0) ++ rest)) := by (show RowIs _ _ _ _); simpa [mkOps] using hrow
    clear hx hrow
    go_enter Try.func31, Try.ntmps31
    go_wp2_with fail
    go_loopw [1, 5] (fun kv i wr => ∃ k : Nat, k ≤ n ∧ i = .int .i64 k ∧ kv = .int .i64 (k0 + 3 * k) ∧ w.grownBy wr (some g) ∧ RowIs wr g 46 (opCells (mkOps k0 k ++ xs.drop k) ++ rest)) (fun _ i _ => n - (intOf i).toNat)
    case atStart => exact ⟨0, Nat.zero_le _, rfl, by simp, World.grownBy.refl _ _, HST.out⟩
    case round =>
      clear HST
      obtain ⟨k, hk, rfl, rfl, hg, hrow⟩ := hrel
      by_cases hlt : k < n
      · have hlen : (opCells (mkOps k0 k ++ xs.drop k)).length = n * 3 := by rw [length_opCells]; simp [mkOps_len]; omega
        have hr1 := hrow.set (k * 3) (.int .i64 (k0 + 3 * k))
        have hr2 := hr1.set (k * 3 + 1) (.int .i64 (k0 + 3 * k + 1))
        have hr3 := hr2.set (k * 3 + 2) (.int .i64 (k0 + 3 * k + 1 + 1))
        obtain ⟨v0, z0⟩ : ∃ v, wr.cell? ⟨g, k * 3, none⟩ = some v := ⟨_, hrow.cell (List.getElem?_eq_getElem (by simp [hlen]; omega))⟩
        obtain ⟨v1, z1⟩ : ∃ v, (wr.setCell ⟨g, k * 3, none⟩ (.int .i64 (k0 + 3 * k))).cell? ⟨g, k * 3 + 1, none⟩ = some v := ⟨_, hr1.cell (List.getElem?_eq_getElem (by simp [hlen]; omega))⟩
        obtain ⟨v2, z2⟩ : ∃ v, ((wr.setCell ⟨g, k * 3, none⟩ (.int .i64 (k0 + 3 * k))).setCell ⟨g, k * 3 + 1, none⟩ (.int .i64 (k0 + 3 * k + 1))).cell? ⟨g, k * 3 + 2, none⟩ = some v := ⟨_, hr2.cell (List.getElem?_eq_getElem (by simp [hlen]; omega))⟩
        have f0 := hrow.frozen (k * 3)
        have f1 := hr1.frozen (k * 3 + 1)
        have f2 := hr2.frozen (k * 3 + 2)
        have HR : Hid (RowIs (((wr.setCell ⟨g, k * 3, none⟩ (.int .i64 (k0 + 3 * k))).setCell ⟨g, k * 3 + 1, none⟩ (.int .i64 (k0 + 3 * k + 1))).setCell ⟨g, k * 3 + 2, none⟩ (.int .i64 (k0 + 3 * k + 1 + 1))) g 46 (opCells (mkOps k0 (k + 1) ++ xs.drop (k + 1)) ++ rest)) := by
          have h4 := hr3
          rw [List.set_append_left _ _ (by omega), List.set_append_left _ _ (by simp; omega), List.set_append_left _ _ (by simp; omega)] at h4
          have e := opCells_put (mkOps k0 k ++ xs.drop k) k ⟨k0 + 3 * k, k0 + 3 * k + 1, k0 + 3 * k + 1 + 1⟩
          rw [set_mid (mkOps_len k0 k) (by omega)] at e
          rw [← e] at h4
          have e2 : k0 + 3 * (k : Int) + 1 + 1 = k0 + 3 * k + 2 := by omega
          rw [e2] at h4
          rw [e2]
          exact h4
        clear hrow hr1 hr2 hr3 hlen
        go_wp2_with fail
        go_roundw
        case rel => exact ⟨k + 1, by omega, by go_num, by first | (congr 1; omega) | go_num, ((hg.trans grown_set).trans grown_set).trans grown_set, HR.out⟩
        case measure => simp [intOf]; omega
      · obtain rfl : k = n := by omega
        have HF : Hid (ROps wr (some ⟨g, 0, none⟩) k (mkOps k0 k)) := RowIs.ops (rest := rest) (by simpa [List.drop_of_length_le (show xs.length ≤ k by omega)] using hrow) (mkOps_len _ _) hn
        clear hrow
        go_wp2_with fail
        go_ret
        exact ⟨rfl, HF.out, hg⟩

set_option maxHeartbeats 400000 in
theorem heldIntS_any (A : Option Addr) (n c : Nat) (k0 : Int) (w : World) (hx : RInts w A n (mkInts k0 n)) (h0 : 0 ≤ k0) (h1 : k0 ≤ 1099511627776) :
    Calls Try.prog 33 #[.slice A n c, .int .i64 k0] w fun e w' => e = .returned (.int .i64 (k0 + n)) ∧ Below w.heap.size w w' := by
  have hn := hx.2.1
  have HX := Lib.hid hx
  clear hx
  go_enter Try.func33, Try.ntmps33
  go_wp2_with fail
  go_loop [1, 5] (fun kv i => ∃ k : Nat, k ≤ n ∧ i = .int .i64 k ∧ kv = .int .i64 (k0 + k)) (fun _ i => n - (intOf i).toNat)
  case atStart => exact ⟨0, Nat.zero_le _, rfl, by simp⟩
  case round =>
    obtain ⟨k, hk, rfl, rfl⟩ := hrel
    by_cases hlt : k < n
    · obtain ⟨b, off, y, rfl, hbl, ho, c0⟩ := HX.out.at_ hlt
      rw [mkInts_at k0 n k hlt] at ho
      injection ho with ho
      subst ho
      go_wp2_with fail
      go_round
      case rel => exact ⟨k + 1, by omega, by go_num, by first | (congr 1; omega) | go_num⟩
      case measure => simp [intOf]; omega
    · obtain rfl : k = n := by omega
      go_wp2_with fail
      go_ret
      exact ⟨rfl, Below.refl _ _⟩

set_option maxHeartbeats 400000 in
theorem heldOpS_any (A : Option Addr) (n c : Nat) (k0 : Int) (w : World) (hx : ROps w A n (mkOps k0 n)) (h0 : 0 ≤ k0) (h1 : k0 ≤ 1099511627776) :
    Calls Try.prog 60 #[.slice A n c, .int .i64 k0] w fun e w' => e = .returned (.int .i64 (k0 + 3 * n)) ∧ Below w.heap.size w w' := by
  have hn := hx.2.1
  have HX := Lib.hid hx
  clear hx
  go_enter Try.func60, Try.ntmps60
  go_wp2_with fail
  go_loop [1, 5] (fun kv i => ∃ k : Nat, k ≤ n ∧ i = .int .i64 k ∧ kv = .int .i64 (k0 + 3 * k)) (fun _ i => n - (intOf i).toNat)
  case atStart => exact ⟨0, Nat.zero_le _, rfl, by simp⟩
  case round =>
    obtain ⟨k, hk, rfl, rfl⟩ := hrel
    by_cases hlt : k < n
    · obtain ⟨b, off, y, rfl, hbl, ho, c0, c1, c2⟩ := HX.out.at_ hlt
      rw [mkOps_at k0 n k hlt] at ho
      injection ho with ho
      subst ho
      have e2 : k0 + 3 * (k : Int) + 2 = k0 + 3 * k + 1 + 1 := by omega
      simp only [e2] at c2
      go_wp2_with fail
      go_round
      case rel => exact ⟨k + 1, by omega, by go_num, by first | (congr 1; omega) | go_num⟩
      case measure => simp [intOf]; omega
    · obtain rfl : k = n := by omega
      go_wp2_with fail
      go_ret
      exact ⟨rfl, Below.refl _ _⟩
end Go.Proofs.Ytofcpfabjfhjoaa
namespace Go.Proofs.Ytofcpfabjfhjoaa
open Go.RowKit Go.BigFrame
set_option linter.unusedVariables false

theorem FreshOps.at_ {w0 w : World} {A : Option Addr} {n : Nat} {xs : List OpV} (h : FreshOps w0 w A n xs) : ∀ ad, A = some ad → w0.heap.size ≤ ad.block ∧ ad.block < w.heap.size := by
  intro ad had
  obtain ⟨b, cur, rfl, hge, hh, _⟩ := h.2 ad had
  exact ⟨hge, lt_of_block hh⟩
theorem FreshInts.at_ {w0 w : World} {A : Option Addr} {n : Nat} {xs : List Int} (h : FreshInts w0 w A n xs) : ∀ ad, A = some ad → w0.heap.size ≤ ad.block ∧ ad.block < w.heap.size := by
  intro ad had
  obtain ⟨b, cur, rfl, hge, hh, _⟩ := h.2 ad had
  exact ⟨hge, lt_of_block hh⟩
theorem FreshOps.below {w0 w w' : World} {A : Option Addr} {n : Nat} {xs : List OpV} (h : FreshOps w0 w A n xs) (hb : Below w.heap.size w w') : FreshOps w0 w' A n xs :=
  ⟨h.1.below hb (Nat.le_refl _), fun ad had => by obtain ⟨b, cur, e, hge, hh, hs⟩ := h.2 ad had; exact ⟨b, cur, e, hge, (hb.block b (lt_of_block hh)).trans hh, hs⟩⟩
theorem FreshInts.below {w0 w w' : World} {A : Option Addr} {n : Nat} {xs : List Int} (h : FreshInts w0 w A n xs) (hb : Below w.heap.size w w') : FreshInts w0 w' A n xs :=
  ⟨h.1.below hb (Nat.le_refl _), fun ad had => by obtain ⟨b, cur, e, hge, hh, hs⟩ := h.2 ad had; exact ⟨b, cur, e, hge, (hb.block b (lt_of_block hh)).trans hh, hs⟩⟩
/-- The block of one address is not that of the other. -/
def Apart (A B : Option Addr) : Prop := ∀ a b, A = some a → B = some b → a.block ≠ b.block
theorem Apart.row {A B : Option Addr} (h : Apart A B) : ∀ b, B = some b → A.map Addr.block ≠ some b.block := by
  intro b hb e
  cases A with
  | none => cases e
  | some a => injection e with e; exact h a b rfl hb e
theorem Apart.of_lt {A B : Option Addr} {k : Nat} (h1 : ∀ a, A = some a → k ≤ a.block) (h2 : ∀ b, B = some b → b.block < k) : Apart A B := fun a b ha hb e => by have := h1 a ha; have := h2 b hb; omega
theorem Apart.symm {A B : Option Addr} (h : Apart A B) : Apart B A := fun a b ha hb e => h b a hb ha e.symm
theorem FreshInts.grown {w0 w w' : World} {A : Option Addr} {n : Nat} {xs : List Int} {row : Option Nat} (h : FreshInts w0 w A n xs) (hg : w.grownBy w' row) (hne : ∀ b, A = some b → row ≠ some b.block) : FreshInts w0 w' A n xs :=
  ⟨h.1.grown hg hne, fun ad had => by obtain ⟨b, cur, e, hge, hh, hs⟩ := h.2 ad had; exact ⟨b, cur, e, hge, (hg.block b (lt_of_block hh) (fun e2 => hne _ had (by rw [← e2, e]))).trans hh, hs⟩⟩
theorem FreshOps.grown {w0 w w' : World} {A : Option Addr} {n : Nat} {xs : List OpV} {row : Option Nat} (h : FreshOps w0 w A n xs) (hg : w.grownBy w' row) (hne : ∀ b, A = some b → row ≠ some b.block) : FreshOps w0 w' A n xs :=
  ⟨h.1.grown hg hne, fun ad had => by obtain ⟨b, cur, e, hge, hh, hs⟩ := h.2 ad had; exact ⟨b, cur, e, hge, (hg.block b (lt_of_block hh) (fun e2 => hne _ had (by rw [← e2, e]))).trans hh, hs⟩⟩
theorem below_marked {w w1 w2 : World} {A : Option Addr} (h : Below w.heap.size w w1) (hg : w1.grownBy w2 (A.map Addr.block)) (hA : ∀ a, A = some a → w.heap.size ≤ a.block) : Below w.heap.size w w2 :=
  h.grown hg h.size fun k hk => by
    cases A with
    | none => cases hk
    | some a => injection hk with hk; rw [← hk]; exact hA a rfl
end Go.Proofs.Ytofcpfabjfhjoaa
namespace Go.Proofs.Ytofcpfabjfhjoaa
open Go.RowKit Go.BigFrame
set_option linter.unusedVariables false

theorem fresh_apart {w0 w1 w : World} {A B : Option Addr} {n m : Nat} {xs : List OpV} {ys : List Int} (h1 : FreshOps w0 w A n xs) (h2 : FreshInts w1 w B m ys) : Apart A B := by
  intro a b ha hb e
  obtain ⟨g, cur, rfl, _, hh, _⟩ := h1.2 a ha
  obtain ⟨g', cur', rfl, _, hh', _⟩ := h2.2 b hb
  simp only at e
  subst e
  rw [hh] at hh'
  injection hh' with hh'
  injection hh' with _ hh' _
  exact op_ne_int hh'

set_option maxHeartbeats 1000000 in
theorem sRunChecks_any (A : Option Addr) (n c : Nat) (s : List OpV) (w : World) (hx : ROps w A n s) (hnc : n ≤ c) :
    Calls Try.prog 58 #[.slice A n c] w (RetOI w (orNil (runB s) (rcTo s s.length).1) (orNil (runB s) (rcTo s s.length).2.1)) := by
  have hl := hx.1
  have HX := Lib.hid hx
  have hrb : Hid (runB s = (validS s && decide (s.length ≤ 12))) := rfl
  clear hx
  have HRR : Hid (∀ w1 : World, ROps w1 A n s → n ≤ 12 → validS s = true → Calls Try.prog 99 #[.slice A n c] w1 (RetOI w1 (rcTo s s.length).1 (rcTo s s.length).2.1)) := fun w1 h1 h2 h3 => runChecks_any A n c s w1 h1 h2 h3
  generalize (rcTo s s.length).1 = xs at *
  generalize (rcTo s s.length).2.1 = ys at *
  go_enter Try.func58, Try.ntmps58
  go_wp2_with fail
  refine (svalid'_any A n c s w HX.out hnc).mono ?_
  rintro e w1 ⟨rfl, hb1⟩
  cases hv : validS s
  · have HB : Hid (runB s = false) := by show _ = _; rw [hrb.out, hv]; rfl
    clear hv
    go_wp2_with fail
    go_ret2
    rw [HB.out]
    exact RetOI.nil hb1
  · by_cases h12 : n ≤ 12
    · have HB : Hid (runB s = true) := by show _ = _; rw [hrb.out, hv, hl]; simpa using h12
      have HR := Lib.hid (HRR.out w1 (HX.out.below hb1 (Nat.le_refl _)) h12 hv)
      clear HRR
      clear hv
      have h12' : ¬ (12 : Int) < (n : Int) := by omega
      have h12'' : ¬ 12 < n := by omega
      go_wp2_with fail
      refine HR.out.mono ?_
      rintro e w2 ⟨A', c', B', d', rfl, hc', hd', hf1, hf2, hb2⟩
      have HO : Hid (RetOI w xs ys (.returned (.tuple #[.slice A' xs.length c', .slice B' ys.length d'])) w2) := RetOI.later hb1 ⟨A', c', B', d', rfl, hc', hd', hf1, hf2, hb2⟩
      clear hf1 hf2
      go_wp2_with fail
      go_ret2
      rw [HB.out]
      exact HO.out
    · have HB : Hid (runB s = false) := by show _ = _; rw [hrb.out, hl]; simp; omega
      clear hv
      have h12' : (12 : Int) < (n : Int) := by omega
      have h12'' : 12 < n := by omega
      go_wp2_with fail
      go_ret2
      rw [HB.out]
      exact RetOI.nil hb1
end Go.Proofs.Ytofcpfabjfhjoaa
namespace Go.Proofs.Ytofcpfabjfhjoaa
open Go.RowKit Go.BigFrame
set_option linter.unusedVariables false

theorem neq_op (w : World) (a b c a' b' c' : Int) :
    (binOp .neq 46 (.agg #[.int .i64 a, .int .i64 b, .int .i64 c]) (.agg #[.int .i64 a', .int .i64 b', .int .i64 c'])).run Try.prog w = .ok (.bool (!(a == a' && b == b' && c == c'))) w := by
  rw [run_neq_struct, show (10000 : Nat) = 9999 + 1 from rfl, run_equalIn_agg w 9999 46 _ _ op_struct op_held]
  cases h1 : (a == a') <;> cases h2 : (b == b') <;> cases h3 : (c == c') <;> simp [go_sem, Try.underlying46, h1, h2, h3]
set_option maxRecDepth 100000 in
set_option maxHeartbeats 1000000 in
theorem equalOps_any (A B : Option Addr) (n m c d : Nat) (xs ys : List OpV) (w : World) (hx : ROps w A n xs) (hy : ROps w B m ys) :
    Calls Try.prog 47 #[.slice A n c, .slice B m d] w fun e w' => e = .returned (.bool (xs == ys)) ∧ Below w.heap.size w w' := by
  have hn := hx.2.1
  have hl := hx.1
  have hm := hy.2.1
  have hly := hy.1
  have HX := Lib.hid hx
  have HY := Lib.hid hy
  clear hx hy
  by_cases hnm : n = m
  · subst hnm
    go_enter Try.func47, Try.ntmps47
    go_wp2_with fail
    go_loopw [5] (fun i wr => ∃ k : Nat, k ≤ n ∧ i = .int .i64 k ∧ Below w.heap.size w wr ∧ ∀ j, j < k → xs[j]? = ys[j]?) (fun i _ => n - (intOf i).toNat)
    case atStart => exact ⟨0, Nat.zero_le _, rfl, Below.refl _ _, by omega⟩
    case round =>
      obtain ⟨k, hk, rfl, hb, hno⟩ := hrel
      by_cases hlt : k < n
      · obtain ⟨b, off, x, rfl, hbl, hox, c0, c1, c2⟩ := (HX.out.below hb (Nat.le_refl _)).at_ hlt
        obtain ⟨b', off', y, rfl, hbl', hoy, d0, d1, d2⟩ := (HY.out.below hb (Nat.le_refl _)).at_ hlt
        have HN : Hid (x = y → ∀ j, j < k + 1 → xs[j]? = ys[j]?) := fun h j hj => by
          by_cases e : j = k
          · subst e; rw [hox, hoy, h]
          · exact hno j (by omega)
        have HT : Hid (¬ x = y → (xs == ys) = false) := fun h => by
          rw [beq_eq_false_iff_ne]
          intro e
          rw [e, hoy] at hox
          injection hox with hox
          exact h hox.symm
        have L0 := Later.cell c0
        have L1 := Later.cell c1
        have L2 := Later.cell c2
        have M0 := Later.cell d0
        have M1 := Later.cell d1
        have M2 := Later.cell d2
        have hki : (k : Int) < (n : Int) := by omega
        obtain ⟨bb, hbb⟩ : ∃ bb, (y == x) = bb := ⟨_, rfl⟩
        have HB := Lib.hid hbb
        obtain ⟨x0, x1, x2⟩ := x
        obtain ⟨y0, y1, y2⟩ := y
        simp only at L0 L1 L2 M0 M1 M2
        have hbq := beq_op x0 x1 x2 y0 y1 y2
        rw [hbb] at hbq
        have hne : ∀ w : World, (binOp .neq 46 (.agg #[.int .i64 x0, .int .i64 x1, .int .i64 x2]) (.agg #[.int .i64 y0, .int .i64 y1, .int .i64 y2])).run Try.prog w = .ok (.bool (!bb)) w := fun w => by
          rw [neq_op, hbq]
        have hgd := op_guard
        clear hno hox hoy c0 c1 c2 d0 d1 d2 hbb hbq
        cases bb
        · simp only [Bool.not_false] at hne
          have hs := Lib.hid (HT.out (fun e => by have := HB.out; rw [beq_eq_false_iff_ne] at this; exact this e.symm))
          go_wp2_with fail
          refine region_later (by kernel_rfl) (by kernel_rfl) ?_
          repeat (go_big_quiet_step (fail))
          refine wpQuiet_nil ?_
          rintro _ ⟨u, rfl⟩
          have hbu := hb.trans (u.2.mono hb.size)
          go_wp2_with fail
          go_ret
          exact ⟨ret_bool hs.out.symm, hbu⟩
        · simp only [Bool.not_true] at hne
          have hs := Lib.hid (HN.out (by have := HB.out; rw [beq_iff_eq] at this; exact this.symm))
          go_wp2_with fail
          refine region_later (by kernel_rfl) (by kernel_rfl) ?_
          repeat (go_big_quiet_step (fail))
          refine wpQuiet_nil ?_
          rintro _ ⟨u, rfl⟩
          have hbu := hb.trans (u.2.mono hb.size)
          go_wp2_with fail
          go_roundw
          case rel => exact ⟨k + 1, by omega, by go_num, hbu, hs.out⟩
          case measure => simp [intOf]; omega
      · have hs : Hid ((xs == ys) = true) := by
          show _ = _
          rw [beq_iff_eq]
          exact eq_of_get (by omega) (fun j hj => hno j (by omega))
        clear hno
        go_wp2_with fail
        go_ret
        exact ⟨ret_bool hs.out.symm, hb⟩
  · have hs : Hid ((xs == ys) = false) := by
      show _ = _
      rw [beq_eq_false_iff_ne]
      intro e
      rw [e] at hl
      omega
    go_enter Try.func47, Try.ntmps47
    go_wp2_with fail
    go_ret
    exact ⟨ret_bool hs.out.symm, Below.refl _ _⟩

end Go.Proofs.Ytofcpfabjfhjoaa
namespace Go.Proofs.Ytofcpfabjfhjoaa
open Go.RowKit Go.BigFrame
set_option linter.unusedVariables false

set_option maxRecDepth 100000 in
set_option maxHeartbeats 4000000 in
theorem law_runChecks (A : Option Addr) (n c : Nat) (w : World) (hin : BytesIn w A n c) :
    Calls Try.prog 13 #[.slice A n c] w fun e w' => e = .returned (.bool true) ∧ Below w.heap.size w w' := by
  obtain ⟨hx, hnc⟩ := hin
  have hn := hx.1
  by_cases hbig : 1048576 < n
  · clear hx
    go_enter Try.func13, Try.ntmps13
    go_wp2_with fail
    go_ret
    exact ⟨rfl, Below.refl _ _⟩
  · have HD := Lib.hid (DrawRunChecks_any A n c w hx hnc)
    clear hx
    go_enter Try.func13, Try.ntmps13
    go_wp2_with fail
    refine HD.out.mono ?_
    rintro e w1 ⟨S, m, d, s, rfl, hown, hm, hb1⟩
    have hmd : m ≤ d := by obtain ⟨A', c', he, h⟩ := own_form2 hown; injection he with _ _ he; omega
    have HS := Lib.hid (ROps.of_own hown (by omega))
    have hml : s.length = m := HS.out.1
    obtain ⟨xs, hxs⟩ : ∃ xs, orNil (runB s) (rcTo s s.length).1 = xs := ⟨_, rfl⟩
    obtain ⟨ys, hys⟩ : ∃ ys, orNil (runB s) (rcTo s s.length).2.1 = ys := ⟨_, rfl⟩
    have c1 : ∀ W : World, ROps W S m s → Calls Try.prog 59 #[.slice S m d] W (RetOI W xs ys) := fun W h => by
      have := RunChecks_any S m d s W h hmd; rw [(runChecks_eq s).1, (runChecks_eq s).2, hxs, hys] at this; exact this
    have c2 : ∀ W : World, ROps W S m s → Calls Try.prog 58 #[.slice S m d] W (RetOI W xs ys) := fun W h => by
      have := sRunChecks_any S m d s W h hmd; rw [hxs, hys] at this; exact this
    obtain ⟨bv, hbv⟩ : ∃ bv, validS s = bv := ⟨_, rfl⟩
    have c3 : ∀ W : World, ROps W S m s → Calls Try.prog 19 #[.slice S m d] W fun e w' => e = .returned (.bool bv) ∧ Below W.heap.size W w' := fun W h => by
      have := ValidSchedule_any S m d s W h hmd; rw [hbv] at this; exact this
    have C1 := Lib.hid c1
    have C2 := Lib.hid c2
    have C3 := Lib.hid c3
    have HXS := Lib.hid hxs
    have HYS := Lib.hid hys
    have HV := Lib.hid hbv
    clear hown HD c1 c2 c3 hxs hys hbv
    go_wp2_with fail
    refine (C1.out w1 HS.out).mono ?_
    rintro e w2 ⟨O, oc, P, pc, rfl, hoc, hpc, ⟨hro, _⟩, ⟨hrp, _⟩, hb2⟩
    have hb12 : Below w.heap.size w w2 := hb1.trans (hb2.mono hb1.size)
    have HS2 := Lib.hid (HS.out.below hb2 (Nat.le_refl _))
    have HRO := Lib.hid hro
    have HRP := Lib.hid hrp
    have hxl : xs.length ≤ 1099511627776 := hro.2.1
    have hyl : ys.length ≤ 1099511627776 := hrp.2.1
    clear hro hrp
    go_wp2_with fail
    refine (C2.out w2 HS2.out).mono ?_
    rintro e w3 ⟨O3, c3, P3, d3, rfl, hc3, hd3, ⟨hr3, _⟩, ⟨hq3, _⟩, hb3⟩
    have HR3 := Lib.hid hr3
    have HQ3 := Lib.hid hq3
    clear hr3 hq3
    go_wp2_with fail
    refine (equalOps_any O O3 _ _ oc c3 xs xs w3 (HRO.out.below hb3 (Nat.le_refl _)) HR3.out).mono ?_
    rw [beq_self_eq_true]
    rintro e w4 ⟨rfl, hb4⟩
    have hb24 : Below w2.heap.size w2 w4 := hb3.trans (hb4.mono hb3.size)
    go_wp2_with fail
    refine (equalInts_any P P3 _ _ pc d3 ys ys w4 (HRP.out.below hb24 (Nat.le_refl _)) (HQ3.out.below hb4 (Nat.le_refl _))).mono ?_
    rw [beq_self_eq_true]
    rintro e w5 ⟨rfl, hb5⟩
    have hb35 : Below w3.heap.size w3 w5 := hb4.trans (hb5.mono hb4.size)
    have hb25 : Below w2.heap.size w2 w5 := hb24.trans (hb5.mono hb24.size)
    clear hb24 hb4 hb5
    go_wp2_with fail
    refine (C3.out w5 (HS2.out.below hb25 (Nat.le_refl _))).mono ?_
    rintro e w6 ⟨rfl, hb6⟩
    have hb26 : Below w2.heap.size w2 w6 := hb25.trans (hb6.mono hb25.size)
    have hb36 : Below w3.heap.size w3 w6 := hb35.trans (hb6.mono hb35.size)
    clear hb6 hb25 hb35
    cases bv
    · go_wp2_with fail
      refine (equalOps_any O O3 _ _ oc c3 xs xs w6 (HRO.out.below hb26 (Nat.le_refl _)) (HR3.out.below hb36 (Nat.le_refl _))).mono ?_
      rw [beq_self_eq_true]
      rintro e w7 ⟨rfl, hb7⟩
      have hb27 := hb26.trans (hb7.mono hb26.size)
      have hb37 := hb36.trans (hb7.mono hb36.size)
      go_wp2_with fail
      refine (equalInts_any P P3 _ _ pc d3 ys ys w7 (HRP.out.below hb27 (Nat.le_refl _)) (HQ3.out.below hb37 (Nat.le_refl _))).mono ?_
      rw [beq_self_eq_true]
      rintro e w8 ⟨rfl, hb8⟩
      go_wp2_with fail
      go_ret
      exact ⟨rfl, hb12.trans ((hb27.trans (hb8.mono hb27.size)).mono hb12.size)⟩
    · by_cases h12 : 12 < m
      · have h12i : (12 : Int) < (m : Int) := by omega
        go_wp2_with fail
        refine (equalOps_any O O3 _ _ oc c3 xs xs w6 (HRO.out.below hb26 (Nat.le_refl _)) (HR3.out.below hb36 (Nat.le_refl _))).mono ?_
        rw [beq_self_eq_true]
        rintro e w7 ⟨rfl, hb7⟩
        have hb27 := hb26.trans (hb7.mono hb26.size)
        have hb37 := hb36.trans (hb7.mono hb36.size)
        go_wp2_with fail
        refine (equalInts_any P P3 _ _ pc d3 ys ys w7 (HRP.out.below hb27 (Nat.le_refl _)) (HQ3.out.below hb37 (Nat.le_refl _))).mono ?_
        rw [beq_self_eq_true]
        rintro e w8 ⟨rfl, hb8⟩
        go_wp2_with fail
        go_ret
        exact ⟨rfl, hb12.trans ((hb27.trans (hb8.mono hb27.size)).mono hb12.size)⟩
      · have hV : validS s = true := HV.out
        have hrb : runB s = true := by unfold runB; rw [hV]; simp; omega
        have hx' : xs = (rcTo s s.length).1 := by rw [← HXS.out, hrb]; rfl
        have hy' : ys = (rcTo s s.length).2.1 := by rw [← HYS.out, hrb]; rfl
        have hxv : Hid (validS xs = true) := by show _ = _; rw [hx']; exact done_valid hV
        have hdead : Hid (∀ t ∈ ys, endOfV xs t = 3) := fun t ht => by
          unfold endOfV
          rw [hxv.out, if_pos rfl, hx']
          rw [hy'] at ht
          exact done_dead hV ht
        have hst : Hid (faultZ (openB isWr xs) xs.length = -1) := by show _ = _; rw [hx']; exact strict_none (done_strict hV _ (Nat.le_refl _)).1
        have hcm : Hid (faultZ (commB xs) xs.length = -1) := by show _ = _; rw [hx']; exact commits_none (done_commits hV)
        have HO6 := Lib.hid (HRO.out.below hb26 (Nat.le_refl _))
        have HP6 := Lib.hid (HRP.out.below hb26 (Nat.le_refl _))
        have hb16 := hb12.trans (hb26.mono hb12.size)
        have h12i : ¬ (12 : Int) < (m : Int) := by omega
        clear hx' hy' hrb hV HXS HYS HV C1 C2 C3 HR3 HQ3 HRO HRP HS2 HS hb26 hb36 hb12
        go_wp2_with fail
        go_loopw [8] (fun i wr => ∃ k : Nat, k ≤ ys.length ∧ i = .int .i64 k ∧ Below w6.heap.size w6 wr) (fun i _ => ys.length - (intOf i).toNat)
        case atStart => exact ⟨0, by omega, rfl, Below.refl _ _⟩
        case round =>
          obtain ⟨wo, rfl⟩ : ∃ wo : World, wo = wr := ⟨_, rfl⟩
          obtain ⟨k, hk, rfl, hbo⟩ := hrel
          by_cases hlt : k < ys.length
          · obtain ⟨b, off, x, hPe, hbl, hox, c0⟩ := (HP6.out.below hbo (Nat.le_refl _)).at_ hlt
            subst hPe
            have he := hdead.out x (List.mem_of_getElem? hox)
            have hE : Calls Try.prog 20 #[.slice O xs.length oc, .int .i64 x] wo fun e w' => e = .returned (.int .i64 3) ∧ Below wo.heap.size wo w' := by
              have := EndOf_any O _ oc xs x wo (HO6.out.below hbo (Nat.le_refl _)) hoc; rw [he] at this; exact this
            have HE := Lib.hid hE
            have hki : (k : Int) < (ys.length : Int) := by omega
            have hk0 : (0 : Int) ≤ (k : Int) := by omega
            clear hE he hox
            go_wp2_with fail
            refine HE.out.mono ?_
            rintro e w7 ⟨rfl, hb7⟩
            go_wp2_with fail
            go_roundw
            case rel => exact ⟨k + 1, by omega, by go_num, hbo.trans (hb7.mono hbo.size)⟩
            case measure => simp [intOf]; omega
          · have hVx : Calls Try.prog 19 #[.slice O xs.length oc] wo fun e w' => e = .returned (.bool true) ∧ Below wo.heap.size wo w' := by
              have := ValidSchedule_any O _ oc xs wo (HO6.out.below hbo (Nat.le_refl _)) hoc; rw [hxv.out] at this; exact this
            have hS : ∀ W, Below w6.heap.size w6 W → Calls Try.prog 62 #[.string { data := #[115, 116, 114, 105, 99, 116] }, .slice O xs.length oc] W fun e w' => e = .returned (.bool true) ∧ Below W.heap.size W w' := fun W h => by
              have := keepsStrict_any O _ oc xs W (HO6.out.below h (Nat.le_refl _)) hoc; rw [hxv.out, hst.out] at this; exact this
            have hC : ∀ W, Below w6.heap.size w6 W → Calls Try.prog 62 #[.string { data := #[99, 111, 109, 109, 105, 116, 115] }, .slice O xs.length oc] W fun e w' => e = .returned (.bool true) ∧ Below W.heap.size W w' := fun W h => by
              have := keepsCommits_any O _ oc xs W (HO6.out.below h (Nat.le_refl _)) hoc; rw [hxv.out, hcm.out] at this; exact this
            have HVx := Lib.hid hVx
            have HSt := Lib.hid hS
            have HCm := Lib.hid hC
            clear hVx hS hC hxv hdead hst hcm
            go_wp2_with fail
            refine HVx.out.mono ?_
            rintro e w7 ⟨rfl, hb7⟩
            have hb67 := hbo.trans (hb7.mono hbo.size)
            go_wp2_with fail
            refine (HSt.out w7 hb67).mono ?_
            rintro e w8 ⟨rfl, hb8⟩
            have hb68 := hb67.trans (hb8.mono hb67.size)
            go_wp2_with fail
            refine (HCm.out w8 hb68).mono ?_
            rintro e w9 ⟨rfl, hb9⟩
            have hb69 := hb68.trans (hb9.mono hb68.size)
            go_wp2_with fail
            go_ret
            exact ⟨rfl, hb16.trans (hb69.mono hb16.size)⟩
end Go.Proofs.Ytofcpfabjfhjoaa
