/-
  The texts that the proof rests on, joined: part 2.
-/
import Derived.Deep.LoopGhost
import Derived.RangeFuncNested
import Derived.RangeFuncBound
import Derived.RangeFuncCalls
import Derived.RangeFuncLeaves
import Derived.Shelf.Abstract
import Derived.Shelf.RegionOpen
import Derived.WalkKit
import Derived.Lib.SliceRun
import Derived.OwnWalkIn
import Derived.TacticsInMore
import Derived.LoopNIn
import Derived.LoopIn
import Derived.Stop.RegionWithIn
import Derived.Carry
import Derived.IntWalk
import Derived.StillTailTactics
import Derived.Laws.EntriesVeiled
import Derived.Deep.RegionLaw
import Derived.Test.YtkbclcgdkbhgdaaPkOrdX1
namespace Go.Proofs.Ytkbclcgdkbhgdaa
open Go.RowKit Go.BigFrame
set_option linter.unusedVariables false

/-- Block rb is a reader at position p, whose bytes lie in an older block. -/
def Rd (w : World) (rb : Nat) (p : Nat) : Prop :=
  ∃ (A : Option Addr) (m c : Nat), w.heap[rb]? = some (.cells #[.slice A m c, .int .i64 (p : Int)] 88 (0, 0)) ∧ m ≤ 2000 ∧
    (0 < m → ∃ (b off : Nat) (f : Nat → Int), A = some ⟨b, off, none⟩ ∧ b < rb ∧ ∀ i, i < m → 0 ≤ f i ∧ f i ≤ 255 ∧ w.cell? ⟨b, off + i, none⟩ = some (.int .u8 (f i)))

/-- Only block rb, and what is new, has turned. -/
def Only (rb : Nat) (w w' : World) : Prop := w.grownBy w' (some rb)

theorem Only.refl (rb : Nat) (w : World) : Only rb w w := ⟨rfl, rfl, rfl, Nat.le_refl _, fun _ _ _ => rfl⟩
theorem Only.trans {rb : Nat} {a b c : World} (h : Only rb a b) (k : Only rb b c) : Only rb a c := World.grownBy.trans h k
theorem Only.size {rb : Nat} {a b : World} (h : Only rb a b) : a.heap.size ≤ b.heap.size := World.grownBy.size h
theorem Only.of_below {rb : Nat} {a b : World} (h : Below a.heap.size a b) : Only rb a b := ⟨h.os, h.tape, h.output, h.size, fun i hi _ => h.block i hi⟩
theorem Only.cell {rb : Nat} {a w : World} (h : Only rb a w) {b o : Nat} (hb : b < a.heap.size) (hne : b ≠ rb) : w.cell? ⟨b, o, none⟩ = a.cell? ⟨b, o, none⟩ :=
  World.cell?_of_block (w := a) (a := ⟨b, o, none⟩) (h.block b hb (fun e => hne (by injection e)))
theorem Only.heap {rb : Nat} {a w : World} (h : Only rb a w) {b : Nat} (hb : b < a.heap.size) (hne : b ≠ rb) : w.heap[b]? = a.heap[b]? :=
  h.block b hb (fun e => hne (by injection e))
theorem Only.drewN {rb : Nat} {a w : World} (h : Only rb a w) (n : Nat) : Only rb a (w.drewN n) := ⟨h.os, h.tape, h.output, h.size, h.block⟩
theorem Only.alloc {rb : Nat} {a w : World} (h : Only rb a w) (o : Obj) : Only rb a (w.alloc o) :=
  ⟨h.os, h.tape, h.output, Nat.le_trans h.size (by simp), fun i hi hne => (Below.heap_alloc w o i (Nat.lt_of_lt_of_le hi h.size)).trans (h.block i hi hne)⟩
theorem Only.setCell {a w : World} {g : Nat} (h : Only g a w) {p : Addr} (hp : p.block = g ∨ a.heap.size ≤ p.block) (u : Value) : Only g a (w.setCell p u) :=
  ⟨h.os, h.tape, h.output, by simpa [World.setCell] using h.size, fun i hi hne => (Below.heap_setCell w p u i (by
    rintro rfl
    rcases hp with hp | hp
    · exact hne (by rw [hp])
    · omega)).trans (h.block i hi hne)⟩

theorem Rd.lt {w : World} {rb p : Nat} (h : Rd w rb p) : rb < w.heap.size := by
  obtain ⟨A, m, c, hh, _⟩ := h
  exact lt_of_block hh
theorem Rd.drewN {w : World} {rb p : Nat} (h : Rd w rb p) (n : Nat) : Rd (w.drewN n) rb p := h
/-- A reader is kept by whatever does not touch it. -/
theorem Rd.below {w w' : World} {rb p : Nat} (h : Rd w rb p) (hb : Below w.heap.size w w') : Rd w' rb p := by
  have hlt := h.lt
  obtain ⟨A, m, c, hh, hm, hc⟩ := h
  refine ⟨A, m, c, (hb.block rb hlt).trans hh, hm, fun h0 => ?_⟩
  obtain ⟨b, off, f, hA, hbl, hf⟩ := hc h0
  exact ⟨b, off, f, hA, hbl, fun i hi => ⟨(hf i hi).1, (hf i hi).2.1, (hb.cell (p := ⟨b, _, none⟩) (by simp; omega)).trans (hf i hi).2.2⟩⟩

theorem ofInt_i64 (a : Nat) (ha : a < 9223372036854775808) : (BitVec.ofInt 64 (a : Int)).toNat = a := by
  rw [BitVec.ofInt_natCast, BitVec.toNat_ofNat]; exact Nat.mod_eq_of_lt (by omega)
theorem xor_nat (a b : Nat) (ha : a < 9223372036854775808) (hb : b < 9223372036854775808) : bits .xor .i64 (a : Int) (b : Int) = ((a ^^^ b : Nat) : Int) := by
  have hx : a ^^^ b < 2 ^ 63 := Nat.xor_lt_two_pow (by omega) (by omega)
  show IntKind.i64.wrap ((BitVec.ofInt 64 (a : Int) ^^^ BitVec.ofInt 64 (b : Int)).toNat : Int) = _
  rw [BitVec.toNat_xor, ofInt_i64 a ha, ofInt_i64 b hb, IntKind.wrap_i64]
  omega
/-- The mixture is not below 0, so its remainder is in range. -/
theorem mix_rng (x n : Int) (h0 : 0 ≤ x) (h1 : x < 9223372036854775808) (hn : 1 ≤ n) : 0 ≤ (bits .xor .i64 x (x / 64)).tmod n ∧ (bits .xor .i64 x (x / 64)).tmod n < n := by
  obtain ⟨a, rfl⟩ := Int.eq_ofNat_of_zero_le h0
  have e : ((a : Int) / 64) = ((a / 64 : Nat) : Int) := by omega
  rw [e, xor_nat a (a / 64) (by omega) (by omega)]
  exact ⟨Int.tmod_nonneg _ (by omega), Int.tmod_lt_of_pos _ (by omega)⟩

def Picked (rb p : Nat) (n : Int) (w : World) (e : Ending) (w' : World) : Prop :=
  ∃ v : Int, e = .returned (.int .i64 v) ∧ Rd w' rb (p + 1) ∧ (n < 1 → v = 0) ∧ (1 ≤ n → 0 ≤ v ∧ v < n) ∧ Only rb w w'

set_option maxHeartbeats 400000 in
theorem pick_any (rb p : Nat) (n : Int) (w : World) (h : Rd w rb p) (hp : p ≤ 100000) (hn : n ≤ 1099511627776) :
    Calls Try.prog 126 #[.pointer (some ⟨rb, 0, none⟩), .int .i64 n] w (Picked rb p n w) := by
  have hlt := h.lt
  obtain ⟨A, m, c, hh, hm, hc⟩ := h
  have c0 : w.cell? ⟨rb, 0, none⟩ = some (.slice A m c) := by simp [World.cell?, hh]
  have c1 : w.cell? ⟨rb, 1, none⟩ = some (.int .i64 (p : Int)) := by simp [World.cell?, hh]
  have f1 : w.frozen? ⟨rb, 1, none⟩ = false := by simp [World.frozen?, hh]
  have HO : Hid (Only rb w (w.setCell ⟨rb, 1, none⟩ (.int .i64 ((p : Int) + 1)))) := (Only.refl rb w).setCell (.inl rfl) _
  have HR : Hid (Rd (w.setCell ⟨rb, 1, none⟩ (.int .i64 ((p : Int) + 1))) rb (p + 1)) := by
    refine ⟨A, m, c, by simp [World.setCell, Array.getElem?_modify, hh], hm, fun h0 => ?_⟩
    obtain ⟨b, off, f, hA, hbl, hf⟩ := hc h0
    refine ⟨b, off, f, hA, hbl, fun i hi => ⟨(hf i hi).1, (hf i hi).2.1, ?_⟩⟩
    rw [World.cell?_setCell_other _ _ _ _ (by simp; try omega)]
    exact (hf i hi).2.2
  clear hh
  by_cases hn1 : n < 1
  · clear hc
    go_enter Try.func126, Try.ntmps126
    go_wp2
    go_ret
    exact ⟨0, rfl, HR.out, fun _ => rfl, fun h => absurd h (by omega), HO.out⟩
  · by_cases hm0 : m = 0
    · subst hm0
      clear hc
      go_enter Try.func126, Try.ntmps126
      go_wp2
      go_ret
      exact ⟨0, rfl, HR.out, fun _ => rfl, fun h => ⟨by omega, by omega⟩, HO.out⟩
    · obtain ⟨b, off, f, rfl, hbl, hf⟩ := hc (by omega)
      have hbr : b ≠ rb := by omega
      by_cases hk : p < m
      · obtain ⟨g0, g1, g2⟩ := hf p hk
        clear hf
        go_enter Try.func126, Try.ntmps126
        go_wp2
        go_ret
        exact ⟨f p % n, rfl, HR.out, fun h => absurd h (by omega), fun _ => ⟨Int.emod_nonneg _ (by omega), Int.emod_lt_of_pos _ (by omega)⟩, HO.out⟩
      · have hmp : 0 < m := by omega
        have hq1 : p % m < m := Nat.mod_lt _ hmp
        have hq2 : (p * 7 + 3) % m < m := Nat.mod_lt _ hmp
        have hq3 : (p / m) ≤ p := Nat.div_le_self _ _
        obtain ⟨g0, g1, g2⟩ := hf (p % m) hq1
        obtain ⟨k0, k1, k2⟩ := hf ((p * 7 + 3) % m) hq2
        clear hf
        have e1 : 0 ≤ ((p : Int) % (m : Int)) := Int.emod_nonneg _ (by omega)
        have e2 : ((p : Int) % (m : Int)) < m := Int.emod_lt_of_pos _ (by omega)
        have e5 : 0 ≤ ((p : Int) / (m : Int)) := Int.ediv_nonneg (by omega) (by omega)
        have e6 : ((p : Int) / (m : Int)) ≤ 100000 := Int.le_trans (Int.ediv_le_self _ (by omega)) (by omega)
        have e3 : 0 ≤ (((p : Int) * 7 + 3) % (m : Int)) := Int.emod_nonneg _ (by omega)
        have e4 : (((p : Int) * 7 + 3) % (m : Int)) < m := Int.emod_lt_of_pos _ (by omega)
        go_enter Try.func126, Try.ntmps126
        go_wp2
        refine wp_region_quiet_lit (by kernel_rfl) (by kernel_rfl) ?_
        iterate 46 (go_big_quiet_want; go_big_quiet_op; go_big_quiet_on)
        refine wpQuiet_nil ?_
        intro _ hw'
        obtain ⟨nq, hw''⟩ := hw'
        subst hw''
        go_wp2
        go_ret
        exact ⟨_, rfl, HR.out.drewN nq, fun h => absurd h (by omega), fun _ => mix_rng _ _ (by omega) (by omega) (by omega), HO.out.drewN nq⟩

def OneOf (rb p : Nat) (xs : List Int) (w : World) (e : Ending) (w' : World) : Prop :=
  ∃ v : Int, e = .returned (.int .i64 v) ∧ v ∈ xs ∧ Rd w' rb (p + 1) ∧ Only rb w w'

set_option maxHeartbeats 400000 in
theorem one_any (rb p : Nat) (A : Option Addr) (k c : Nat) (xs : List Int) (w : World) (h : Rd w rb p) (hp : p ≤ 100000) (hx : RInts w A k xs) (hk : 0 < k)
    (hne : ∀ ad, A = some ad → ad.block ≠ rb) :
    Calls Try.prog 128 #[.pointer (some ⟨rb, 0, none⟩), .slice A k c] w (OneOf rb p xs w) := by
  have hkb := hx.2.1
  have hat : ∀ (v : Int) (w1 : World), Only rb w w1 → 0 ≤ v → v < k → ∃ b off x, A = some ⟨b, off, none⟩ ∧ x ∈ xs ∧ w1.cell? ⟨b, off + v.toNat, none⟩ = some (.int .i64 x) := by
    intro v w1 ho h0 h1
    obtain ⟨b, off, x, hA, hlt, hxx, hc⟩ := hx.at_ (k := v.toNat) (by omega)
    exact ⟨b, off, x, hA, List.mem_of_getElem? hxx, (ho.cell hlt (hne _ hA)).trans hc⟩
  have HA := Lib.hid hat
  clear hat hx hne
  go_enter Try.func128, Try.ntmps128
  go_wp2_with fail
  refine (pick_any rb p _ w h hp (by omega)).mono ?_
  rintro e w1 ⟨v, rfl, hr, _, hv, ho⟩
  obtain ⟨hv0, hv1⟩ := hv (by omega)
  obtain ⟨b, off, x, hA, hxm, hc⟩ := HA.out v w1 ho hv0 hv1
  subst hA
  go_wp2_with fail
  go_ret
  exact ⟨x, rfl, hxm, hr, ho⟩

def Made (w : World) (e : Ending) (w' : World) : Prop :=
  ∃ rb, e = .returned (.pointer (some ⟨rb, 0, none⟩)) ∧ w.heap.size ≤ rb ∧ Rd w' rb 0 ∧ Below w.heap.size w w'

set_option maxHeartbeats 400000 in
theorem newReader_any (A : Option Addr) (n c : Nat) (w : World) (hx : RBytes w A n) (hc : n ≤ c) :
    Calls Try.prog 64 #[.slice A n c] w (Made w) := by
  obtain ⟨hn, hx⟩ := hx
  have hin : ∀ m c', m ≤ n → m ≤ 2000 → Rd (w.alloc (.cells #[.slice A m c', .int .i64 0] 88)) w.heap.size 0 := by
    intro m c' hm h2
    refine ⟨A, m, c', heap_alloc_new w _, h2, fun h0 => ?_⟩
    obtain ⟨b, off, hA, hlt, hf⟩ := hx (by omega)
    have hch := fun i => if h : i < n then (hf i h).choose else (0 : Int)
    refine ⟨b, off, fun i => if h : i < n then (hf i h).choose else 0, hA, hlt, fun i hi => ?_⟩
    have hin : i < n := by omega
    simp only [hin, dif_pos]
    have hs := (hf i hin).choose_spec
    exact ⟨hs.1, hs.2.1, (World.cell?_alloc_lt w _ ⟨b, off + i, none⟩ (by simpa using hlt)).trans hs.2.2⟩
  have HI := Lib.hid hin
  clear hin hx
  by_cases h2 : 2000 < n
  · go_enter Try.func64, Try.ntmps64
    go_wp2
    go_ret
    exact ⟨_, rfl, Nat.le_refl _, HI.out 2000 _ (by omega) (by omega), (Below.refl _ _).alloc (Nat.le_refl _) _⟩
  · go_enter Try.func64, Try.ntmps64
    go_wp2
    go_ret
    exact ⟨_, rfl, Nat.le_refl _, HI.out n _ (by omega) (by omega), (Below.refl _ _).alloc (Nat.le_refl _) _⟩

end Go.Proofs.Ytkbclcgdkbhgdaa
namespace Go.Proofs.Ytkbclcgdkbhgdaa
open Go.RowKit Go.BigFrame
set_option linter.unusedVariables false

theorem rowInfo : (Try.prog.info? 25).map (fun i => (i.zero, i.size, i.bytes)) = some (some (.slice none 0 0), 1, 24) := by kernel_rfl

/-- A value that is a row of at most five operations, its block between lo and hi. -/
def RowV (w : World) (lo hi : Nat) (v : Value) : Prop :=
  ∃ (A : Option Addr) (n c : Nat) (xs : List OpV), v = .slice A n c ∧ n ≤ c ∧ n ≤ 5 ∧ ROps w A n xs ∧
    ∀ ad, A = some ad → lo ≤ ad.block ∧ ad.block < hi ∧ ∃ cs fr, w.heap[ad.block]? = some (.cells cs 32 fr)
def RowsV (w : World) (lo hi : Nat) (vs : List Value) : Prop := ∀ v ∈ vs, RowV w lo hi v

theorem RowV.keep {w w' : World} {lo hi : Nat} {v : Value} (h : RowV w lo hi v) (hk : ∀ b, lo ≤ b → b < hi → (∃ cs fr, w.heap[b]? = some (.cells cs 32 fr)) → w'.heap[b]? = w.heap[b]?)
    (hs : w.heap.size ≤ w'.heap.size) : RowV w' lo hi v := by
  obtain ⟨A, n, c, xs, hv, hnc, hn, ⟨h1, h2, h3⟩, hA⟩ := h
  refine ⟨A, n, c, xs, hv, hnc, hn, ⟨h1, h2, fun h0 => ?_⟩, fun ad had => ?_⟩
  · obtain ⟨b, off, rfl, hb, hc⟩ := h3 h0
    obtain ⟨a1, a2, a3⟩ := hA _ rfl
    have hh := hk b a1 a2 a3
    refine ⟨b, off, rfl, by omega, fun i o ho => ?_⟩
    obtain ⟨c0, c1, c2⟩ := hc i o ho
    exact ⟨(World.cell?_of_block (w := w) (a := ⟨b, _, none⟩) hh).trans c0, (World.cell?_of_block (w := w) (a := ⟨b, _, none⟩) hh).trans c1, (World.cell?_of_block (w := w) (a := ⟨b, _, none⟩) hh).trans c2⟩
  · obtain ⟨a1, a2, cs, fr, a3⟩ := hA _ had
    exact ⟨a1, a2, cs, fr, (hk _ a1 a2 ⟨cs, fr, a3⟩).trans a3⟩
theorem RowV.wider {w : World} {lo hi hi' : Nat} {v : Value} (h : RowV w lo hi v) (hh : hi ≤ hi') : RowV w lo hi' v := by
  obtain ⟨A, n, c, xs, hv, hnc, hn, hr, hA⟩ := h
  exact ⟨A, n, c, xs, hv, hnc, hn, hr, fun ad had => ⟨(hA ad had).1, by have := (hA ad had).2.1; omega, (hA ad had).2.2⟩⟩
theorem RowsV.keep {w w' : World} {lo hi : Nat} {vs : List Value} (h : RowsV w lo hi vs) (hk : ∀ b, lo ≤ b → b < hi → (∃ cs fr, w.heap[b]? = some (.cells cs 32 fr)) → w'.heap[b]? = w.heap[b]?)
    (hs : w.heap.size ≤ w'.heap.size) : RowsV w' lo hi vs := fun v hv => (h v hv).keep hk hs
/-- An own row of operations, as a row value. -/
theorem RowV.of_own {w : World} {lo base c n : Nat} {A : Option Addr} {xs : List OpV} (h : w.ownsRow base 32 3 (.slice A n c) n (opCells xs)) (hlo : lo ≤ base) (hn : n ≤ 5) : RowV w lo w.heap.size (.slice A n c) := by
  refine ⟨A, n, c, xs, rfl, ?_, hn, ROps.of_own h (by omega), fun ad had => ?_⟩
  · rcases h.2 with ⟨h1, h2⟩ | ⟨g, cap, cur, h1, h2, h3, h4, h5, h6, h7⟩
    · omega
    · injection h1 with _ _ hc
      subst hc
      exact h4
  · subst had
    rcases h.2 with ⟨h1, h2⟩ | ⟨g, cap, cur, h1, h2, h3, h4, h5, h6, h7⟩
    · cases h1
    · injection h1 with ha _ _
      injection ha with ha
      subst ha
      exact ⟨by simp; omega, lt_of_block h3, cur, _, h3⟩
theorem own_form {w : World} {base : Nat} {e : TypeId} {size n : Nat} {v : Value} {xs : List Value} (h : w.ownsRow base e size v n xs) : ∃ A c, v = .slice A n c := by
  rcases h.2 with ⟨h1, h2⟩ | ⟨g, cap, cur, h1, _⟩
  · exact ⟨none, 0, by rw [h1, h2]⟩
  · exact ⟨_, _, h1⟩

theorem own_only {w w' : World} {rb L : Nat} {e : TypeId} {size n : Nat} {v : Value} {xs : List Value} (h : w.ownsRow L e size v n xs) (ho : Only rb w w') (hrb : rb < L) : w'.ownsRow L e size v n xs := by
  refine World.ownsRow.kept h ho ?_
  cases hv : v.ownBlock with
  | none => exact .inl rfl
  | some g =>
    refine .inr (fun e => ?_)
    injection e with e
    have := (World.ownsRow.lt h g hv).1
    omega
theorem Only.grown {rb : Nat} {a w w' : World} {row : Option Nat} (h : Only rb a w) (hg : w.grownBy w' row) (hr : ∀ k, row = some k → a.heap.size ≤ k) : Only rb a w' :=
  ⟨hg.os.trans h.os, hg.tape.trans h.tape, hg.output.trans h.output, Nat.le_trans h.size hg.size, fun i hi hne =>
    (hg.block i (Nat.lt_of_lt_of_le hi h.size) (fun e => by have := hr i e.symm; omega)).trans (h.block i hi hne)⟩
theorem Only.own {rb : Nat} {a w w' : World} {L : Nat} {e : TypeId} {size n : Nat} {v : Value} {xs : List Value} (h : Only rb a w) (hown : w.ownsRow L e size v n xs) (hL : a.heap.size ≤ L) (hg : w.grownBy w' v.ownBlock) : Only rb a w' :=
  h.grown hg fun k hk => Nat.le_trans hL (World.ownsRow.lt hown k hk).1
theorem RowsV.only {w w' : World} {rb lo hi : Nat} {vs : List Value} (h : RowsV w lo hi vs) (ho : Only rb w w') (hhi : hi ≤ w.heap.size) (hrb : rb < lo) : RowsV w' lo hi vs :=
  h.keep (fun b h1 h2 _ => ho.heap (by omega) (by omega)) ho.size
theorem RowsV.grown {w w' : World} {lo hi L : Nat} {vs : List Value} {size n : Nat} {v : Value} {xs : List Value} (h : RowsV w lo hi vs) (hown : w.ownsRow L 25 size v n xs) (hg : w.grownBy w' v.ownBlock) (hhi : hi ≤ w.heap.size) : RowsV w' lo hi vs := by
  refine h.keep (fun b h1 h2 h3 => hg.block b (by omega) (fun e => ?_)) hg.size
  obtain ⟨cs, fr, h3⟩ := h3
  rcases hown.2 with ⟨h4, h5⟩ | ⟨g, cap, cur, h4, _, h6, _⟩
  · rw [h4] at e; simp [Value.ownBlock] at e
  · rw [h4] at e
    simp [Value.ownBlock] at e
    subst e
    rw [h3] at h6
    injection h6 with h6
    injection h6 with _ h6 _
    exact absurd h6 (by decide)

def lenOf : Value → Nat | .slice _ n _ => n | _ => 0
/-- What the inner loop of 'programs' carries. -/
def Inner (ws : World) (rb p0 : Nat) (v : Value) (k left : Int) (w : World) : Prop :=
  ∃ (n : Nat) (xs : List OpV) (p : Nat), w.ownsRow ws.heap.size 32 3 v n (opCells xs) ∧ 0 ≤ k ∧ n + k.toNat ≤ 4 ∧ 0 ≤ left ∧ left ≤ 16 ∧ Rd w rb p ∧ p ≤ p0 + 2 * n ∧ Only rb ws w
/-- What the outer loop of 'programs' carries. -/
def Outer (w0 : World) (rb p0 : Nat) (v : Value) (left : Int) (vs : List Value) (w : World) : Prop :=
  ∃ p : Nat, w.ownsRow w0.heap.size 25 1 v vs.length vs ∧ vs.length ≤ 4 ∧ RowsV w w0.heap.size w.heap.size vs ∧ 0 ≤ left ∧ left ≤ 16 ∧ Rd w rb p ∧ p ≤ p0 + 20 * vs.length ∧ Only rb w0 w
def Programs (w0 : World) (rb p0 : Nat) (e : Ending) (w : World) : Prop :=
  ∃ (v : Value) (vs : List Value) (left : Int), e = .returned v ∧ Outer w0 rb p0 v left vs w

theorem Rd.lt_size {w : World} {rb p : Nat} (h : Rd w rb p) : rb < w.heap.size := h.lt
theorem Rd.alloc {w : World} {rb p : Nat} (h : Rd w rb p) (o : Obj) : Rd (w.alloc o) rb p := h.below ((Below.refl _ _).alloc (Nat.le_refl _) _)
theorem lit3 {w : World} {H : Nat} (hH : w.heap.size = H) (a b c : Int) : RInts (w.alloc (.cells #[.int .i64 a, .int .i64 b, .int .i64 c] 3)) (some ⟨H, 0, none⟩) 3 [a, b, c] := by subst hH; exact RInts.lit w [a, b, c] _ (by simp)
theorem lit4 {w : World} {H : Nat} (hH : w.heap.size = H) (a b c d : Int) : RInts (w.alloc (.cells #[.int .i64 a, .int .i64 b, .int .i64 c, .int .i64 d] 3)) (some ⟨H, 0, none⟩) 4 [a, b, c, d] := by subst hH; exact RInts.lit w [a, b, c, d] _ (by simp)
theorem lit5 {w : World} {H : Nat} (hH : w.heap.size = H) (a b c d e : Int) : RInts (w.alloc (.cells #[.int .i64 a, .int .i64 b, .int .i64 c, .int .i64 d, .int .i64 e] 3)) (some ⟨H, 0, none⟩) 5 [a, b, c, d, e] := by subst hH; exact RInts.lit w [a, b, c, d, e] _ (by simp)
theorem lit6 {w : World} {H : Nat} (hH : w.heap.size = H) (a b c d e f : Int) : RInts (w.alloc (.cells #[.int .i64 a, .int .i64 b, .int .i64 c, .int .i64 d, .int .i64 e, .int .i64 f] 3)) (some ⟨H, 0, none⟩) 6 [a, b, c, d, e, f] := by subst hH; exact RInts.lit w [a, b, c, d, e, f] _ (by simp)
theorem far_lit {rb H : Nat} (h : rb < H) : ∀ ad : Addr, some (⟨H, 0, none⟩ : Addr) = some ad → ad.block ≠ rb := by
  intro ad e
  injection e with e
  subst e
  simp; omega

theorem own_one {w : World} {base : Nat} {e : TypeId} {size n : Nat} {v : Value} {xs : List Value} (h : w.ownsRow base e size v n xs) : v.oneCell' = true := by
  obtain ⟨A, c, rfl⟩ := own_form h
  rfl
theorem Rd.grown {w w' : World} {rb p : Nat} {row : Option Nat} (h : Rd w rb p) (hg : w.grownBy w' row) (hr : ∀ k, row = some k → rb < k) : Rd w' rb p := by
  have hlt := h.lt
  obtain ⟨A, m, c, hh, hm, hc⟩ := h
  have hk : ∀ b, b ≤ rb → w'.heap[b]? = w.heap[b]? := fun b hb => hg.block b (by omega) (fun e => by have := hr b e.symm; omega)
  refine ⟨A, m, c, (hk rb (Nat.le_refl _)).trans hh, hm, fun h0 => ?_⟩
  obtain ⟨b, off, f, hA, hbl, hf⟩ := hc h0
  exact ⟨b, off, f, hA, hbl, fun i hi => ⟨(hf i hi).1, (hf i hi).2.1, (World.cell?_of_block (w := w) (a := ⟨b, _, none⟩) (hk b (by omega))).trans (hf i hi).2.2⟩⟩

section
variable {w : World} {ops : Array Oper} {rest : List Oper} {o : Oper} {a : Act} {Q : Exit → Act → World → Prop}
/-- append of one row. -/
theorem app_row (s x : Operand) {base : Nat} {v : Value} {n : Nat} {vs : List Value} (hown : w.ownsRow base 25 1 v n vs) (hbase : base ≤ w.heap.size)
    {u : Value} (hu : u.oneCell' = true) {H : Nat} {T : TypeId} (hH : w.heap[H]? = some (.cells #[u] T (0, 0))) (hn : n ≤ 1099511627776) {c : Nat}
    (hgd : o.guard = none) (ho : o.op = .call { callee := .builtin .append, args := #[s, x], argTypes := #[106, 106] }) (hs : a.eval s = v) (hx : a.eval x = .slice (some ⟨H, 0, none⟩) 1 c)
    (h : ∀ v' w', w'.ownsRow base 25 1 v' (n + 1) (vs ++ [u]) → w.grownBy w' v.ownBlock → wpList Try.prog ops Q rest (a.put o.dst v') w') : wpList Try.prog ops Q (o :: rest) a w := by
  obtain ⟨i0, hi, hz0, hz1, hz2⟩ := info_parts rowInfo
  refine wpList_app hgd s x _ ho base _ i0 _ 1 24 Try.underlying106 hi hz0 hz1 hz2 rfl (by decide) v n _ hs hown _ 1 c [u] hx ⟨rfl, by simpa using hu, fun _ => ⟨_, rfl, fun j u' hu' => ?_⟩⟩ (by simp only [maxLen]; omega) (by omega) hbase ?_
  · match j, hu' with
    | 0, hu' =>
      simp at hu'; subst hu'
      rw [addr_add, cell_of_row w H (0 + 0) _ T (0, 0) hH]; rfl
  · intro v' w' h1 h2 h3
    exact h v' w' h1 h2
end

/-- What a round of the outer loop comes to. -/
theorem outer_step {w0 wr w w1 w' : World} {rb p0 p' n : Nat} {v lv v' : Value} {vs : List Value} {xs : List OpV} {left : Int} (hown : wr.ownsRow w0.heap.size 25 1 v vs.length vs)
    (hrows : RowsV wr w0.heap.size wr.heap.size vs) (hO : Only rb w0 wr) (hrb : rb < w0.heap.size) (hO3 : Only rb wr w) (hl : w.ownsRow wr.heap.size 32 3 lv n (opCells xs)) (hn : n ≤ 5)
    (ob : Obj) (hw1 : w1 = w.alloc ob) (hown' : w'.ownsRow w0.heap.size 25 1 v' (vs.length + 1) (vs ++ [lv])) (hg : w1.grownBy w' v.ownBlock) (hr : Rd w rb p') (hv : vs.length < 4)
    (h0 : 0 ≤ left) (h1 : left ≤ 16) (hp : p' ≤ p0 + 20 * (vs.length + 1)) : Outer w0 rb p0 v' left (vs ++ [lv]) w' := by
  have hsz := hO.size
  have hsz3 := hO3.size
  have hownw : w1.ownsRow w0.heap.size 25 1 v vs.length vs := by rw [hw1]; exact World.ownsRow.alloc (own_only hown hO3 hrb) _
  have hsz1 : w1.heap.size = w.heap.size + 1 := by rw [hw1]; simp
  obtain ⟨A, c, rfl⟩ := own_form hl
  have hlv : RowV w w0.heap.size w.heap.size (.slice A n c) := RowV.of_own hl (by omega) hn
  have hlv1 : RowsV w1 w0.heap.size w.heap.size [.slice A n c] := by
    intro u hu
    simp at hu
    subst hu
    rw [hw1]
    exact hlv.keep (fun b h1 h2 _ => Below.heap_alloc _ _ _ h2) (by simp)
  have hlv2 := hlv1.grown hownw hg (by omega)
  have hvs1 : RowsV w1 w0.heap.size wr.heap.size vs := by
    rw [hw1]
    exact (hrows.only hO3 (Nat.le_refl _) hrb).keep (fun b h1 h2 _ => Below.heap_alloc _ _ _ (by omega)) (by simp)
  have hvs2 := hvs1.grown hownw hg (by omega)
  have hgs := hg.size
  refine ⟨p', by simpa using hown', by simp; omega, ?_, h0, h1, ?_, by simp; omega, ?_⟩
  · intro u hu
    simp only [List.mem_append, List.mem_singleton] at hu
    rcases hu with hu | hu
    · exact (hvs2 u hu).wider (by omega)
    · exact (hlv2 u (by simp [hu])).wider (by omega)
  · exact Rd.grown (w := w1) (by rw [hw1]; exact hr.alloc _) hg fun k hk => by have := (World.ownsRow.lt hownw k hk).1; omega
  · have : Only rb w0 w1 := by rw [hw1]; exact (hO.trans hO3).alloc _
    exact this.own hownw (Nat.le_refl _) hg

set_option maxHeartbeats 2000000 in
theorem programs_any (rb p most : Nat) (w0 : World) (h : Rd w0 rb p) (hp : p ≤ 50000) (hm : most ≤ 16) :
    Calls Try.prog 145 #[.pointer (some ⟨rb, 0, none⟩), .int .i64 (most : Int)] w0 (Programs w0 rb (p + 2)) := by
  have hlt := h.lt
  go_enter Try.func145, Try.ntmps145
  go_wp2_with fail
  refine (one_any rb p _ _ _ _ _ ((h.alloc _).alloc _) (by omega) (lit3 (by simp) 2 3 1) (by omega) (far_lit (by omega))).mono ?_
  rintro e w1 ⟨items, rfl, hi, hr1, ho1⟩
  go_wp2_with fail
  have hlt1 := hr1.lt
  refine (one_any rb _ _ _ _ _ _ (hr1.alloc _) (by omega) (lit5 rfl 3 2 4 3 1) (by omega) (far_lit hlt1)).mono ?_
  rintro e w2 ⟨n, rfl, hn, hr2, ho2⟩
  have hown : w2.ownsRow w0.heap.size 25 1 (.slice (some ⟨w0.heap.size, 0, none⟩) 0 0) 0 [] :=
    own_only (World.ownsRow.alloc (own_only (World.ownsRow.alloc (World.ownsRow_made w0 #[] 0 (Nat.le_refl _) (by decide) rfl) _) ho1 hlt) _) ho2 hlt
  have hO : Only rb w0 w2 := (((Only.refl rb w0).alloc _).alloc _).trans ho1 |>.trans (((Only.refl rb w1).alloc _).trans ho2)
  have hn4 : 1 ≤ n ∧ n ≤ 4 := by simp at hn; omega
  have hi4 : 1 ≤ items ∧ items ≤ 3 := by simp at hi; omega
  have HST : Hid (Outer w0 rb (p + 2) (.slice (some ⟨w0.heap.size, 0, none⟩) 0 0) (most : Int) [] w2) :=
    ⟨p + 1 + 1, hown, by simp, by intro v hv; simp at hv, by omega, by omega, hr2, by simp, hO⟩
  clear hown hO hr2 hr1 ho1 ho2 hn hi
  go_wp2_with fail
  go_loopw [5, 6] (fun v l w => ∃ (left : Int) (vs : List Value), l = .int .i64 left ∧ (vs.length : Int) ≤ n ∧ Outer w0 rb (p + 2) v left vs w) (fun v _ _ => 4 - lenOf v)
  case atStart => exact ⟨(most : Int), [], rfl, by simp; try omega, HST.out⟩
  case round =>
    obtain ⟨wo, rfl⟩ : ∃ wo : World, wo = wr := ⟨_, rfl⟩
    obtain ⟨left, vs, rfl, hvn, q, hown, hv4, hrows, hl0, hl1, hr, hq, hO⟩ := hrel
    obtain ⟨A, c, rfl⟩ := own_form hown
    have hlr := hr.lt
    by_cases hlen : (vs.length : Int) < n
    · go_wp2_with fail
      refine (one_any rb q _ _ _ _ _ ((hr.alloc _).alloc _) (by omega) (lit4 (by simp) 2 3 1 4) (by omega) (far_lit (by omega))).mono ?_
      rintro e w3 ⟨k, rfl, hk, hr3, ho3⟩
      have hk4 : 1 ≤ k ∧ k ≤ 4 := by simp at hk; omega
      have HIN : Hid (Inner wo rb (q + 1) (.slice (some ⟨wo.heap.size, 0, none⟩) 0 0) k left w3) :=
        ⟨0, [], q + 1, own_only (World.ownsRow.alloc (World.ownsRow_made wo #[] 0 (Nat.le_refl _) (by decide) rfl) _) ho3 hlr, by omega, by omega, hl0, hl1, hr3, by omega,
          (((Only.refl rb wo).alloc _).alloc _).trans ho3⟩
      have HOUT := Lib.hid (And.intro hown (And.intro hrows (And.intro hO hr)))
      clear hown hrows hO hr hr3 ho3 hk
      go_wp2_with fail
      go_loopw [6, 10, 11] (fun l v k w => ∃ (left k' : Int), l = .int .i64 left ∧ k = .int .i64 k' ∧ Inner wo rb (q + 1) v k' left w) (fun _ _ k _ => (intOf k).toNat)
      case atStart => exact ⟨left, k, rfl, rfl, HIN.out⟩
      case round =>
        clear HIN
        obtain ⟨left, k, rfl, rfl, nx, xs, q3, hown, hk0, hk1, hl0, hl1, hr, hq3, hO⟩ := hrel
        by_cases hkk : 0 < k
        · by_cases hll : 1 < left
          · go_wp2_with fail
            have hlrr := hr.lt
            refine (one_any rb _ _ _ _ _ _ (hr.alloc _) (by omega) (lit4 rfl 0 1 0 1) (by omega) (far_lit hlrr)).mono ?_
            rintro e w4 ⟨kd, rfl, hkd, hr4, ho4⟩
            go_wp2_with fail
            refine (pick_any rb _ items _ hr4 (by omega) (by omega)).mono ?_
            rintro e w5 ⟨it, rfl, hr5, _, hit, ho5⟩
            have hO5 := ((hO.alloc _).trans ho4).trans ho5
            have hown5 := own_only (own_only (hown.alloc _) ho4 hlr) ho5 hlr
            have hs5 := hO5.size
            go_wp2_with (at_builtin; refine app_ops (.tmp 38) (.tmp 47) (hown5.alloc _) (by simp; omega) (ROps.lit1 _ ⟨_, _, _⟩ _) (by omega) rfl rfl rfl rfl ?_; intro v6 w6 hown6 hg6 hat6)
            have hg6' := World.grownBy.trans (World.grownBy_alloc w5 _ _) hg6
            have hO6 := hO5.own hown5 (Nat.le_refl _) hg6'
            have hr6 := hr5.grown hg6' fun k hk => by have := (World.ownsRow.lt hown5 k hk).1; omega
            go_wp2_with fail
            go_roundw
            case rel => exact ⟨left - 1, k - 1, rfl, rfl, nx + 1, _, _, hown6, by omega, by omega, by omega, by omega, hr6, by omega, hO6⟩
            case measure => simp [intOf]; omega
          · skip
            obtain ⟨Al, cl, rfl⟩ := own_form hown
            by_cases hlp : 0 < left
            · go_wp2_with fail
              refine (pick_any rb _ 10 _ hr (by omega) (by omega)).mono ?_
              rintro e w4 ⟨pv, rfl, hr4, _, _, ho4⟩
              have hown4 := own_only hown ho4 hlr
              have hO4 := hO.trans ho4
              have hlr4 := hr4.lt
              have hgo4 : w4.ownsRow w0.heap.size 25 1 (.slice A vs.length c) vs.length vs := own_only HOUT.out.1 hO4 hlt
              have hs4 := hO4.size
              have hs0 := HOUT.out.2.2.1.size
              by_cases hpv : 0 < pv
              · go_wp2_with fail
                refine (one_any rb _ _ _ _ _ _ (hr4.alloc _) (by omega) (lit6 rfl 2 2 2 2 2 3) (by omega) (far_lit hlr4)).mono ?_
                rintro e w5 ⟨kd, rfl, hkd, hr5, ho5⟩
                have hown5 := own_only (hown4.alloc _) ho5 hlr
                have hO5 := (hO4.alloc _).trans ho5
                have hgo5 := own_only (hgo4.alloc _) ho5 hlt
                have hs5 := hO5.size
                go_wp2_with (first | (at_builtin; refine app_ops (.tmp 58) (.tmp 64) (hown5.alloc _) (by simp; omega) (ROps.lit1 _ ⟨_, _, _⟩ _) (by omega) rfl rfl rfl rfl ?_; intro v6 w6 hown6 hg6 hat6; obtain ⟨A6, c6, rfl⟩ := own_form hown6; have hg6' := World.grownBy.trans (World.grownBy_alloc w5 _ _) hg6; have hO6 := hO5.own hown5 (Nat.le_refl _) hg6'; have hr6 := hr5.grown hg6' (fun k hk => by have := (World.ownsRow.lt hown5 k hk).1; omega); have hgo6 := own_only HOUT.out.1 hO6 hlt; have hs6 := hO6.size) | (at_builtin; refine app_row (.tmp 68) (.tmp 70) (hgo6.alloc _) (by simp; omega) (own_one hown6) (heap_alloc_new _ _) (by omega) rfl rfl rfl rfl ?_; intro v7 w7 hown7 hg7))
                have hout := outer_step (left := left - 1) (p0 := p + 2) HOUT.out.1 HOUT.out.2.1 HOUT.out.2.2.1 hlt hO6 hown6 (by omega) _ rfl hown7 hg7 hr6 (by omega) (by omega) (by omega) (by omega)
                go_wp2_with fail
                go_roundw
                case rel => exact ⟨left - 1, vs ++ [_], rfl, by simp; omega, hout⟩
                case measure => obtain ⟨q7, h7, _⟩ := hout; obtain ⟨A7, c7, rfl⟩ := own_form h7; simp [lenOf]; omega
              · go_wp2_with (at_builtin; refine app_row (.tmp 68) (.tmp 70) (hgo4.alloc _) (by simp; omega) (own_one hown4) (heap_alloc_new _ _) (by omega) rfl rfl rfl rfl ?_; intro v7 w7 hown7 hg7)
                have hout := outer_step (left := left) (p0 := p + 2) HOUT.out.1 HOUT.out.2.1 HOUT.out.2.2.1 hlt hO4 hown4 (by omega) _ rfl hown7 hg7 hr4 (by omega) (by omega) (by omega) (by omega)
                go_wp2_with fail
                go_roundw
                case rel => exact ⟨left, vs ++ [_], rfl, by simp; omega, hout⟩
                case measure => obtain ⟨q7, h7, _⟩ := hout; obtain ⟨A7, c7, rfl⟩ := own_form h7; simp [lenOf]; omega
            · have hgo4 : wr.ownsRow w0.heap.size 25 1 (.slice A vs.length c) vs.length vs := own_only HOUT.out.1 hO hlt
              have hs4 := hO.size
              have hs0 := HOUT.out.2.2.1.size
              go_wp2_with (at_builtin; refine app_row (.tmp 68) (.tmp 70) (hgo4.alloc _) (by simp; omega) (own_one hown) (heap_alloc_new _ _) (by omega) rfl rfl rfl rfl ?_; intro v7 w7 hown7 hg7)
              have hout := outer_step (left := left) (p0 := p + 2) HOUT.out.1 HOUT.out.2.1 HOUT.out.2.2.1 hlt hO hown (by omega) _ rfl hown7 hg7 hr (by omega) (by omega) (by omega) (by omega)
              go_wp2_with fail
              go_roundw
              case rel => exact ⟨left, vs ++ [_], rfl, by simp; omega, hout⟩
              case measure => obtain ⟨q7, h7, _⟩ := hout; obtain ⟨A7, c7, rfl⟩ := own_form h7; simp [lenOf]; omega

        · skip
          obtain ⟨Al, cl, rfl⟩ := own_form hown
          by_cases hlp : 0 < left
          · go_wp2_with fail
            refine (pick_any rb _ 10 _ hr (by omega) (by omega)).mono ?_
            rintro e w4 ⟨pv, rfl, hr4, _, _, ho4⟩
            have hown4 := own_only hown ho4 hlr
            have hO4 := hO.trans ho4
            have hlr4 := hr4.lt
            have hgo4 : w4.ownsRow w0.heap.size 25 1 (.slice A vs.length c) vs.length vs := own_only HOUT.out.1 hO4 hlt
            have hs4 := hO4.size
            have hs0 := HOUT.out.2.2.1.size
            by_cases hpv : 0 < pv
            · go_wp2_with fail
              refine (one_any rb _ _ _ _ _ _ (hr4.alloc _) (by omega) (lit6 rfl 2 2 2 2 2 3) (by omega) (far_lit hlr4)).mono ?_
              rintro e w5 ⟨kd, rfl, hkd, hr5, ho5⟩
              have hown5 := own_only (hown4.alloc _) ho5 hlr
              have hO5 := (hO4.alloc _).trans ho5
              have hgo5 := own_only (hgo4.alloc _) ho5 hlt
              have hs5 := hO5.size
              go_wp2_with (first | (at_builtin; refine app_ops (.tmp 58) (.tmp 64) (hown5.alloc _) (by simp; omega) (ROps.lit1 _ ⟨_, _, _⟩ _) (by omega) rfl rfl rfl rfl ?_; intro v6 w6 hown6 hg6 hat6; obtain ⟨A6, c6, rfl⟩ := own_form hown6; have hg6' := World.grownBy.trans (World.grownBy_alloc w5 _ _) hg6; have hO6 := hO5.own hown5 (Nat.le_refl _) hg6'; have hr6 := hr5.grown hg6' (fun k hk => by have := (World.ownsRow.lt hown5 k hk).1; omega); have hgo6 := own_only HOUT.out.1 hO6 hlt; have hs6 := hO6.size) | (at_builtin; refine app_row (.tmp 68) (.tmp 70) (hgo6.alloc _) (by simp; omega) (own_one hown6) (heap_alloc_new _ _) (by omega) rfl rfl rfl rfl ?_; intro v7 w7 hown7 hg7))
              have hout := outer_step (left := left - 1) (p0 := p + 2) HOUT.out.1 HOUT.out.2.1 HOUT.out.2.2.1 hlt hO6 hown6 (by omega) _ rfl hown7 hg7 hr6 (by omega) (by omega) (by omega) (by omega)
              go_wp2_with fail
              go_roundw
              case rel => exact ⟨left - 1, vs ++ [_], rfl, by simp; omega, hout⟩
              case measure => obtain ⟨q7, h7, _⟩ := hout; obtain ⟨A7, c7, rfl⟩ := own_form h7; simp [lenOf]; omega
            · go_wp2_with (at_builtin; refine app_row (.tmp 68) (.tmp 70) (hgo4.alloc _) (by simp; omega) (own_one hown4) (heap_alloc_new _ _) (by omega) rfl rfl rfl rfl ?_; intro v7 w7 hown7 hg7)
              have hout := outer_step (left := left) (p0 := p + 2) HOUT.out.1 HOUT.out.2.1 HOUT.out.2.2.1 hlt hO4 hown4 (by omega) _ rfl hown7 hg7 hr4 (by omega) (by omega) (by omega) (by omega)
              go_wp2_with fail
              go_roundw
              case rel => exact ⟨left, vs ++ [_], rfl, by simp; omega, hout⟩
              case measure => obtain ⟨q7, h7, _⟩ := hout; obtain ⟨A7, c7, rfl⟩ := own_form h7; simp [lenOf]; omega
          · have hgo4 : wr.ownsRow w0.heap.size 25 1 (.slice A vs.length c) vs.length vs := own_only HOUT.out.1 hO hlt
            have hs4 := hO.size
            have hs0 := HOUT.out.2.2.1.size
            go_wp2_with (at_builtin; refine app_row (.tmp 68) (.tmp 70) (hgo4.alloc _) (by simp; omega) (own_one hown) (heap_alloc_new _ _) (by omega) rfl rfl rfl rfl ?_; intro v7 w7 hown7 hg7)
            have hout := outer_step (left := left) (p0 := p + 2) HOUT.out.1 HOUT.out.2.1 HOUT.out.2.2.1 hlt hO hown (by omega) _ rfl hown7 hg7 hr (by omega) (by omega) (by omega) (by omega)
            go_wp2_with fail
            go_roundw
            case rel => exact ⟨left, vs ++ [_], rfl, by simp; omega, hout⟩
            case measure => obtain ⟨q7, h7, _⟩ := hout; obtain ⟨A7, c7, rfl⟩ := own_form h7; simp [lenOf]; omega

    · go_wp2_with fail
      go_ret
      exact ⟨_, vs, left, rfl, q, hown, hv4, hrows, hl0, hl1, hr, hq, hO⟩
end Go.Proofs.Ytkbclcgdkbhgdaa
namespace Go.Proofs.Ytkbclcgdkbhgdaa
open Go.RowKit Go.BigFrame
set_option linter.unusedVariables false

theorem ROps.drop {w : World} {A : Option Addr} {n : Nat} {xs : List OpV} (h : ROps w A n xs) {k c : Nat} (hk : k ≤ n) (hc : n ≤ c) :
    ROps w (if c = k then A else A.map (·.add (k * 3))) (n - k) (xs.drop k) := by
  obtain ⟨h1, h2, h3⟩ := h
  refine ⟨by simp; omega, by omega, fun hn => ?_⟩
  obtain ⟨b, off, rfl, hlt, hcell⟩ := h3 (by omega)
  rw [if_neg (by omega)]
  refine ⟨b, off + k * 3, by simp [addr_add], hlt, fun i o ho => ?_⟩
  rw [List.getElem?_drop] at ho
  have := hcell _ o ho
  have e1 : off + (k + i) * 3 = off + k * 3 + i * 3 := by omega
  rw [e1] at this
  exact this

def tot (vs : List Value) : Nat := (vs.map lenOf).sum
theorem tot_set (vs : List Value) (t : Nat) (u x : Value) (h : vs[t]? = some x) : tot (vs.set t u) + lenOf x = tot vs + lenOf u := by
  induction vs generalizing t with
  | nil => simp at h
  | cons y r ih =>
    cases t with
    | zero => simp at h; subst h; simp [tot]; omega
    | succ t =>
      have := ih t (by simpa using h)
      simp [tot] at *
      omega
theorem tot_le (vs : List Value) (k : Nat) (h : ∀ v ∈ vs, lenOf v ≤ k) : tot vs ≤ vs.length * k := by
  induction vs with
  | nil => simp [tot]
  | cons y r ih =>
    have h1 := ih (fun v hv => h v (by simp [hv]))
    have h2 := h y (by simp)
    simp [tot] at *
    rw [Nat.add_mul]; omega

/-- The cut of a row. -/
theorem RowV.cut {w : World} {lo hi n c k : Nat} {A : Option Addr} (h : RowV w lo hi (.slice A n c)) (hk : k ≤ n) : RowV w lo hi (.slice (if c = k then A else A.map (·.add (k * 3))) (n - k) (c - k)) := by
  obtain ⟨A', n', c', xs, hv, hnc, hn, hr, hA⟩ := h
  injection hv with h1 h2 h3
  subst h1; subst h2; subst h3
  refine ⟨_, _, _, _, rfl, by omega, by omega, hr.drop hk hnc, fun ad had => ?_⟩
  split at had
  · exact hA _ had
  · cases A with
    | none => cases had
    | some a =>
      simp at had
      subst had
      have : (a.add (k * 3)).block = a.block := by unfold Addr.add; split <;> rfl
      rw [this]
      exact hA _ rfl

/-- What the great loop of goodSchedule carries. -/
def Good (w0 : World) (rb L P K : Nat) (lv ov : Value) (w : World) : Prop := K ≤ 4 ∧
  ∃ (n : Nat) (xs : List OpV) (vs : List Value) (p : Nat), w.ownsRow w0.heap.size 25 1 lv K vs ∧ RowsV w w0.heap.size L vs ∧ w.ownsRow L 32 3 ov n (opCells xs) ∧
    n + tot vs ≤ 20 ∧ Rd w rb p ∧ p ≤ P + 4 * n ∧ Only rb w0 w ∧ L ≤ w.heap.size
/-- What the loop over the rows carries: only rows that are not empty are listed. -/
def Some_ (ws : World) (rb p k : Nat) (vs : List Value) (sv : Value) (w : World) : Prop :=
  ∃ (ts : List Int), ts.length ≤ k ∧ w.ownsRow ws.heap.size 3 1 sv ts.length (intCells ts) ∧ (∀ x ∈ ts, 0 ≤ x ∧ ∃ A n c, vs[x.toNat]? = some (.slice A n c) ∧ 0 < n) ∧ Rd w rb p ∧ Only rb ws w
def GoodPost (w0 : World) (rb : Nat) (e : Ending) (w : World) : Prop :=
  ∃ (v : Value) (n : Nat) (xs : List OpV) (p : Nat), e = .returned v ∧ w.ownsRow w0.heap.size 32 3 v n (opCells xs) ∧ n ≤ 20 ∧ Rd w rb p ∧ p ≤ 60000 ∧ Only rb w0 w


theorem mem_snoc {P : Int → Prop} {ts : List Int} {x : Int} (h : ∀ y ∈ ts, P y) (hx : P x) : ∀ y ∈ ts ++ [x], P y := by
  intro y hy
  simp only [List.mem_append, List.mem_singleton] at hy
  rcases hy with hy | rfl
  · exact h y hy
  · exact hx
theorem own_len {w : World} {base : Nat} {e : TypeId} {size n : Nat} {v : Value} {xs : List Value} (h : w.ownsRow base e size v n xs) : lenOf v = n := by
  obtain ⟨A, c, rfl⟩ := own_form h
  rfl
theorem row_len {w : World} {lo hi n c : Nat} {A : Option Addr} (h : RowV w lo hi (.slice A n c)) : n ≤ 5 := by
  obtain ⟨A', n', c', xs, hv, hnc, hn, _⟩ := h
  injection hv with h1 h2 h3
  omega
theorem own_block {w : World} {base : Nat} {e : TypeId} {size n : Nat} {v : Value} {xs : List Value} (h : w.ownsRow base e size v n xs) (hn : 0 < n) : ∃ g c, v = .slice (some ⟨g, 0, none⟩) n c ∧ base ≤ g ∧ g < w.heap.size := by
  rcases h.2 with ⟨h1, h2⟩ | ⟨g, cap, cur, h1, h2, h3, _⟩
  · omega
  · exact ⟨g, cap, h1, h2, lt_of_block h3⟩

theorem own_base {w : World} {base base' : Nat} {e : TypeId} {size n : Nat} {v : Value} {xs : List Value} (h : w.ownsRow base e size v n xs) (hb : base' ≤ base) : w.ownsRow base' e size v n xs := by
  refine ⟨h.1, ?_⟩
  rcases h.2 with h2 | ⟨g, cap, cur, h1, h2, r⟩
  · exact .inl h2
  · exact .inr ⟨g, cap, cur, h1, by omega, r⟩
theorem own_apart {w w' : World} {b1 b2 : Nat} {e1 e2 : TypeId} {s1 s2 n1 n2 : Nat} {v1 v2 : Value} {x1 x2 : List Value} (h1 : w.ownsRow b1 e1 s1 v1 n1 x1) (h2 : w.ownsRow b2 e2 s2 v2 n2 x2) (hne : e1 ≠ e2)
    (hg : w.grownBy w' v2.ownBlock) : w'.ownsRow b1 e1 s1 v1 n1 x1 := by
  refine World.ownsRow.kept h1 hg ?_
  rcases h1.2 with ⟨rfl, _⟩ | ⟨g, cap, cur, rfl, _, hh, _⟩
  · exact .inl rfl
  · refine .inr (fun e => ?_)
    rcases h2.2 with ⟨rfl, _⟩ | ⟨g', cap', cur', rfl, _, hh', _⟩
    · simp [Value.ownBlock] at e
    · simp [Value.ownBlock] at e
      subst e
      rw [hh] at hh'
      injection hh' with hh'
      injection hh' with _ hh' _
      exact hne hh'

/-- What a round of the great loop comes to: the row t is cut by k operations, which went to 'out'. -/
theorem good_step {w0 w w6 : World} {rb L P K n nt ct k p t g cl : Nat} {ov v' : Value} {vs : List Value} {xs ys : List OpV} {A : Option Addr} (hrb : rb < w0.heap.size) (hK : K ≤ 4)
    (hlv : w.ownsRow w0.heap.size 25 1 (.slice (some ⟨g, 0, none⟩) K cl) K vs) (hrows : RowsV w w0.heap.size L vs) (hL : L ≤ w.heap.size) (hov : w.ownsRow L 32 3 ov n (opCells xs)) (hL0 : w0.heap.size ≤ L)
    (hsum : n + tot vs ≤ 20) (hr : Rd w rb p) (hO : Only rb w0 w) (ht : vs[t]? = some (.slice A nt ct)) (hk1 : 1 ≤ k) (hk2 : k ≤ nt)
    (hown6 : w6.ownsRow L 32 3 v' (n + k) (opCells (xs ++ ys))) (hg6 : w.grownBy w6 ov.ownBlock) (hp : p ≤ P + 4 * (n + k)) :
    Good w0 rb L P K (.slice (some ⟨g, 0, none⟩) K cl) v' (w6.setCell ⟨g, t, none⟩ (.slice (if ct = k then A else A.map (·.add (k * 3))) (nt - k) (ct - k))) ∧ w6.cell? ⟨g, t, none⟩ = some (.slice A nt ct) ∧ w6.frozen? ⟨g, t, none⟩ = false := by
  have htl : t < vs.length := by
    rcases Nat.lt_or_ge t vs.length with h | h
    · exact h
    · rw [List.getElem?_eq_none h] at ht; cases ht
  have hvl : vs.length = K := by simpa using hlv.1
  have hg0 := World.ownsRow.lt hlv g rfl
  have hO6 := hO.own hov (by omega) hg6
  have hr6 := hr.grown hg6 fun j hj => by have := (World.ownsRow.lt hov j hj).1; omega
  have hlv6 := own_apart hlv hov (by decide) hg6
  have hs6 := hg6.size
  have hrows6 : RowsV w6 w0.heap.size L vs := by
    refine hrows.keep (fun b h1 h2 _ => hg6.block b (by omega) (fun e => ?_)) hs6
    have := (World.ownsRow.lt hov b e.symm).1
    omega
  have hst := hlv6.stored t (.slice (if ct = k then A else A.map (·.add (k * 3))) (nt - k) (ct - k))
  refine ⟨⟨hK, n + k, xs ++ ys, vs.set t (.slice (if ct = k then A else A.map (·.add (k * 3))) (nt - k) (ct - k)), p, hst.1, ?_, ?_, ?_, ?_, hp, ?_, by simp [World.setCell]; omega⟩, ?_, hlv6.frozenAt t⟩
  · have hkeep : ∀ b, w0.heap.size ≤ b → b < L → (∃ cs fr, w6.heap[b]? = some (.cells cs 32 fr)) → (w6.setCell ⟨g, t, none⟩ (.slice (if ct = k then A else A.map (·.add (k * 3))) (nt - k) (ct - k))).heap[b]? = w6.heap[b]? := by
      intro b _ _ ⟨cs, fr, hb⟩
      refine Below.heap_setCell _ _ _ _ (fun e => ?_)
      simp at e
      subst e
      rcases hlv6.2 with ⟨h1, _⟩ | ⟨g', cap', cur', h1, _, hh', _⟩
      · cases h1
      · injection h1 with h1 _ _
        injection h1 with h1
        injection h1 with h1
        subst h1
        rw [hb] at hh'
        injection hh' with hh'
        injection hh' with _ hh' _
        exact absurd hh' (by decide)
    intro u hu
    rcases List.mem_or_eq_of_mem_set hu with hu | rfl
    · exact (hrows6 u hu).keep hkeep (by simp [World.setCell])
    · exact ((hrows6 _ (List.mem_of_getElem? ht)).cut (by omega)).keep hkeep (by simp [World.setCell])
  · exact own_apart (e2 := 25) hown6 hlv6 (by decide) (by simpa [Value.ownBlock] using hst.2)
  · have := tot_set vs t (.slice (if ct = k then A else A.map (·.add (k * 3))) (nt - k) (ct - k)) _ ht
    simp [lenOf] at this
    omega
  · exact hr6.grown hst.2 fun j hj => by injection hj with hj; omega
  · exact hO6.grown hst.2 fun j hj => by injection hj with hj; omega
  · have := hlv6.cellAt t (by omega)
    rw [this]; exact ht

set_option maxRecDepth 100000 in
set_option maxHeartbeats 2000000 in
theorem goodSchedule_any (rb p most : Nat) (w0 : World) (h : Rd w0 rb p) (hp : p ≤ 50000) (hm : most ≤ 16) :
    Calls Try.prog 114 #[.pointer (some ⟨rb, 0, none⟩), .int .i64 (most : Int)] w0 (GoodPost w0 rb) := by
  have hlt := h.lt
  go_enter Try.func114, Try.ntmps114
  go_wp2_with fail
  refine (programs_any rb p most w0 h hp hm).mono ?_
  rintro e w1 ⟨lv, vs, left, rfl, q, hlv, hv4, hrows, _, _, hr1, hq1, hO1⟩
  have hlt1 := hr1.lt
  go_wp2_with fail
  refine (pick_any rb q 4 _ (hr1.alloc _) (by omega) (by omega)).mono ?_
  rintro e w2 ⟨sw, rfl, hr2, _, _, ho2⟩
  have hs2 := ho2.size
  have hs1 := hO1.size
  have ht5 : ∀ v ∈ vs, lenOf v ≤ 5 := by
    intro v hv
    obtain ⟨A, n, c, xs, rfl, _, hn, _⟩ := hrows v hv
    exact hn
  have htot := tot_le vs 5 ht5
  have HST : Hid (Good w0 rb w1.heap.size 50100 vs.length lv (.slice (some ⟨w1.heap.size, 0, none⟩) 0 0) w2) :=
    ⟨hv4, 0, [], vs, q + 1, own_only (hlv.alloc _) ho2 hlt, (hrows.keep (fun b h1 h2 _ => Below.heap_alloc _ _ _ h2) (by simp)).only ho2 (by simp) hlt,
      own_only (World.ownsRow_made w1 #[] 0 (Nat.le_refl _) (by decide) rfl) ho2 hlt1, by omega, hr2, by omega, (hO1.alloc _).trans ho2, by simp at hs2; omega⟩
  obtain ⟨Al, cl, rfl⟩ := own_form hlv
  generalize hk : vs.length = K at *
  have HK := Lib.hid hk
  clear hk hlv hrows hr1 hq1 hO1 hr2 ho2 ht5 htot
  go_wp2_with fail
  go_loopw [6] (fun ov w => Good w0 rb w1.heap.size 50100 K (.slice Al K cl) ov w) (fun ov _ => 21 - lenOf ov)
  case atStart => exact HST.out
  case round =>
    clear HST HK vs
    obtain ⟨wo, rfl⟩ : ∃ wo : World, wo = wr := ⟨_, rfl⟩
    obtain ⟨hK4, n, xs, vs, p3, hlv, hrows, hov, hsum, hr, hp3, hO, hLw⟩ := hrel
    have hlr := hr.lt
    have hvl : vs.length = K := by simpa using hlv.1
    have HIN : Hid (Some_ wo rb p3 0 vs (.slice (some ⟨wo.heap.size, 0, none⟩) 0 0) (wo.alloc (.cells #[] 3))) :=
      ⟨[], by simp, World.ownsRow_made wo #[] 0 (Nat.le_refl _) (by decide) rfl, by simp, hr.alloc _, (Only.refl _ _).alloc _⟩
    have HO := Lib.hid (And.intro hlv (And.intro hrows (And.intro hov (And.intro hr (And.intro hO hvl)))))
    clear hlv hrows hov hr hO hvl
    go_wp2_with fail
    go_loopw [8, 9] (fun sv t w => ∃ k : Nat, k ≤ K ∧ t = .int .i64 k ∧ Some_ wo rb p3 k vs sv w) (fun _ t _ => K - (intOf t).toNat)
    case atStart => exact ⟨0, by omega, rfl, HIN.out⟩
    case round =>
      clear HIN
      obtain ⟨k, hk, rfl, ts, htk, hts, hin, hr, hOi⟩ := hrel
      by_cases hkK : k < K
      · have hlw := own_only HO.out.1 hOi hlt
        obtain ⟨g, cl', hve, hg1, hg2⟩ := own_block hlw (by omega)
        injection hve with hA _ hc
        subst hA; subst hc
        have hcell : wr.cell? ⟨g, k, none⟩ = vs[k]? := by simpa using hlw.cellAt k (by omega)
        obtain ⟨u, hu⟩ : ∃ u, vs[k]? = some u := ⟨vs[k]'(by have := HO.out.2.2.2.2.2; omega), List.getElem?_eq_getElem _⟩
        obtain ⟨A, nt, ct, ys, rfl, hnc, hn5, hro, hAA⟩ := HO.out.2.1 u (List.mem_of_getElem? hu)
        rw [hu] at hcell
        have HU := Lib.hid hu
        clear hu hro hAA hlw
        have hsz := hOi.size
        by_cases hnt : 0 < nt
        · go_wp2_with (at_builtin; refine app_ints (.tmp 32) (.tmp 34) (hts.alloc _) (by simp; omega) (lit1 rfl (k : Int)) (by omega) rfl rfl rfl rfl ?_; intro v6 w6 hown6 hg6 hat6)
          have hg6' := World.grownBy.trans (World.grownBy_alloc wr _ _) hg6
          have hO6 := hOi.own hts (Nat.le_refl _) hg6'
          have hr6 := hr.grown hg6' fun j hj => by have := (World.ownsRow.lt hts j hj).1; omega
          go_wp2_with fail
          go_roundw
          case rel => exact ⟨k + 1, by omega, by go_num, ts ++ [(k : Int)], by simp; omega, by simpa using hown6, mem_snoc hin ⟨by omega, _, _, _, by simpa using HU.out, hnt⟩, hr6, hO6⟩
          case measure => simp [intOf]; omega
        · go_wp2_with fail
          go_roundw
          case rel => exact ⟨k + 1, by omega, by go_num, ts, by omega, hts, hin, hr, hOi⟩
          case measure => simp [intOf]; omega
      · obtain ⟨As, cs, rfl⟩ := own_form hts
        have hsz := hOi.size
        by_cases hts0 : ts.length = 0
        · have hovr := own_only HO.out.2.2.1 hOi hlt1
          have hO' := HO.out.2.2.2.2.1.trans hOi
          go_wp2_with fail
          go_ret
          exact ⟨_, n, xs, p3, rfl, own_base hovr (by omega), by omega, hr, by omega, hO'⟩
        · go_wp2_with fail
          refine (pick_any rb p3 _ _ hr (by omega) (by omega)).mono ?_
          rintro e w4 ⟨pv, rfl, hr4, _, hpv, ho4⟩
          obtain ⟨hpv0, hpv1⟩ := hpv (by omega)
          have hso := HO.out.2.2.2.2.1.size
          have hs4 := ho4.size
          obtain ⟨b, off, x, hAs, _, hx, hc4⟩ := (RInts.of_own (own_only hts ho4 (by omega)) (by omega)).at_ (k := pv.toNat) (by omega)
          subst hAs
          obtain ⟨hx0, A, nt, ct, hvx, hnt⟩ := hin x (List.mem_of_getElem? hx)
          obtain ⟨X, rfl⟩ := Int.eq_ofNat_of_zero_le hx0
          rw [Int.toNat_natCast] at hvx
          have hxK : X < K := by
            have h1 := HO.out.2.2.2.2.2
            rcases Nat.lt_or_ge X vs.length with h | h
            · omega
            · rw [List.getElem?_eq_none h] at hvx; cases hvx
          have hlw4 := own_only (own_only HO.out.1 hOi hlt) ho4 hlt
          obtain ⟨g, cl', hve, hg1, hg2⟩ := own_block hlw4 (by omega)
          injection hve with hA _ hc
          subst hA; subst hc
          have hcell4 : w4.cell? ⟨g, X, none⟩ = some (.slice A nt ct) := by rw [hlw4.cellAt X (by omega)]; exact hvx
          have HU := Lib.hid hvx
          have hnt5 := row_len (HO.out.2.1 _ (List.mem_of_getElem? hvx))
          clear hvx hx hin hlw4 hts
          by_cases hsw : sw = 0
          · go_wp2_with fail
            refine (pick_any rb _ _ _ hr4 (by omega) (by omega)).mono ?_
            rintro e w5 ⟨pk, rfl, hr5, _, hpk, ho5⟩
            obtain ⟨hpk0, hpk1⟩ := hpk (by omega)
            obtain ⟨k, rfl⟩ := Int.eq_ofNat_of_zero_le hpk0
            have hs5 := ho5.size
            have ho45 := ho4.trans ho5
            have hlwf := own_only (own_only HO.out.1 hOi hlt) ho45 hlt
            have hcell5 : w5.cell? ⟨g, X, none⟩ = some (.slice A nt ct) := by rw [hlwf.cellAt X (by omega)]; exact HU.out
            have hov5 := own_only (own_only HO.out.2.2.1 hOi hlt1) ho45 hlt1
            have hrows5 := (HO.out.2.1.only hOi (by omega) hlt).only ho45 (by omega) hlt
            obtain ⟨A', n', c', ys, hv', hnc, hn5, hro, _⟩ := hrows5 _ (List.mem_of_getElem? HU.out)
            injection hv' with e1 e2 e3
            subst e1; subst e2; subst e3
            have hro' := hro.take (k := 1 + k) (by omega)
            have HR := Lib.hid (And.intro hlwf (And.intro hrows5 (And.intro hov5 hro')))
            clear hlwf hrows5 hro hro'
            go_wp2_with (at_builtin; refine app_ops (.tmp 56) (.tmp 62) hov5 (by omega) HR.out.2.2.2 (by omega) rfl rfl rfl rfl ?_; intro v6 w6 hown6 hg6 hat6; obtain ⟨hgood, hcell6, hfr6⟩ := good_step (k := 1 + k) (P := 50100) hlt hK4 HR.out.1 HR.out.2.1 (by omega) hov5 (by omega) hsum hr5 ((HO.out.2.2.2.2.1.trans hOi).trans ho45) HU.out (by omega) (by omega) hown6 hg6 (by omega))
            all_goals
              go_roundw
              case rel =>
                first
                  | (have e : ct = 1 + k := by assumption
                     rw [if_pos e, show ct - (1 + k) = 0 from by omega] at hgood
                     exact hgood)
                  | (rw [if_neg (by omega)] at hgood
                     exact hgood)
              case measure =>
                have e6 := own_len hown6
                have e5 := own_len hov5
                omega
          · have hlwf := own_only (own_only HO.out.1 hOi hlt) ho4 hlt
            have hcell5 : w4.cell? ⟨g, X, none⟩ = some (.slice A nt ct) := by rw [hlwf.cellAt X (by omega)]; exact HU.out
            have hov5 := own_only (own_only HO.out.2.2.1 hOi hlt1) ho4 hlt1
            have hrows5 := (HO.out.2.1.only hOi (by omega) hlt).only ho4 (by omega) hlt
            obtain ⟨A', n', c', ys, hv', hnc, hn5, hro, _⟩ := hrows5 _ (List.mem_of_getElem? HU.out)
            injection hv' with e1 e2 e3
            subst e1; subst e2; subst e3
            have hro' := hro.take (k := 1) (by omega)
            have HR := Lib.hid (And.intro hlwf (And.intro hrows5 (And.intro hov5 hro')))
            clear hlwf hrows5 hro hro'
            go_wp2_with (at_builtin; refine app_ops (.tmp 56) (.tmp 62) hov5 (by omega) HR.out.2.2.2 (by omega) rfl rfl rfl rfl ?_; intro v6 w6 hown6 hg6 hat6; obtain ⟨hgood, hcell6, hfr6⟩ := good_step (k := 1) (P := 50100) hlt hK4 HR.out.1 HR.out.2.1 (by omega) hov5 (by omega) hsum hr4 ((HO.out.2.2.2.2.1.trans hOi).trans ho4) HU.out (by omega) (by omega) hown6 hg6 (by omega))
            all_goals
              go_roundw
              case rel =>
                first
                  | (have e : ct = 1 := by assumption
                     rw [if_pos e, show ct - (1) = 0 from by omega] at hgood
                     exact hgood)
                  | (rw [if_neg (by omega)] at hgood
                     exact hgood)
              case measure =>
                have e6 := own_len hown6
                have e5 := own_len hov5
                omega
end Go.Proofs.Ytkbclcgdkbhgdaa
namespace Go.Proofs.Ytkbclcgdkbhgdaa
open Go.RowKit Go.BigFrame
set_option linter.unusedVariables false

theorem RowIs.grown {w w' : World} {g : Nat} {T : TypeId} {vs : List Value} {row : Option Nat} (h : RowIs w g T vs) (hg : w.grownBy w' row) (hne : row ≠ some g) : RowIs w' g T vs :=
  (hg.block g h.lt hne.symm).trans h
theorem own_ne {w : World} {base : Nat} {e : TypeId} {size n : Nat} {v : Value} {xs : List Value} (h : w.ownsRow base e size v n xs) {g : Nat} {T : TypeId} {vs : List Value} (hr : RowIs w g T vs) (hT : T ≠ e) : v.ownBlock ≠ some g := by
  rcases h.2 with ⟨rfl, _⟩ | ⟨g', cap, cur, rfl, _, hh, _⟩
  · simp [Value.ownBlock]
  · intro e'
    simp [Value.ownBlock] at e'
    subst e'
    unfold RowIs at hr
    rw [hr] at hh
    injection hh with hh
    injection hh with _ hh _
    exact hT hh
theorem nb_app {v v' : Value} {b K : Nat} (h : v.ownBlock ≠ some b) (hat : v'.ownBlock = v.ownBlock ∨ v'.ownBlock = some K) (hb : b < K) : v'.ownBlock ≠ some b := by
  rcases hat with e | e
  · rw [e]; exact h
  · rw [e]; intro e'; injection e' with e'; omega
theorem own_lt {w : World} {base : Nat} {e : TypeId} {size n : Nat} {v : Value} {xs : List Value} (h : w.ownsRow base e size v n xs) {b : Nat} (hb : w.heap.size ≤ b) : v.ownBlock ≠ some b := by
  intro e'
  have := (World.ownsRow.lt h b e').2
  omega
theorem own_grown {w w' : World} {base : Nat} {e : TypeId} {size n : Nat} {v : Value} {xs : List Value} (h : w.ownsRow base e size v n xs) {row : Option Nat} (hg : w.grownBy w' row) (hne : ∀ b, row = some b → v.ownBlock ≠ some b) : w'.ownsRow base e size v n xs := by
  refine World.ownsRow.kept h hg ?_
  cases hv : v.ownBlock with
  | none => exact .inl rfl
  | some b =>
    refine .inr (fun e => ?_)
    exact hne b e.symm hv
theorem op_ne_int : (32 : TypeId) ≠ 3 := by decide
theorem ints_ne_op : (40 : TypeId) ≠ 32 := by decide
theorem ints_ne_int : (40 : TypeId) ≠ 3 := by decide

theorem ROps.litH {w : World} {H : Nat} (hH : w.heap.size = H) (o : OpV) (t : TypeId) : ROps (w.alloc (.cells #[.int .i64 o.tx, .int .i64 o.kind, .int .i64 o.item] t)) (some ⟨H, 0, none⟩) 1 [o] := by subst hH; exact ROps.lit1 w o t

/-- A call hands back operations and integers, in new memory. -/
def RetOI (w0 : World) (xs : List OpV) (ys : List Int) (e : Ending) (w : World) : Prop :=
  ∃ A c B d, e = .returned (.tuple #[.slice A xs.length c, .slice B ys.length d]) ∧ xs.length ≤ c ∧ ys.length ≤ d ∧ FreshOps w0 w A xs.length xs ∧ FreshInts w0 w B ys.length ys ∧ Below w0.heap.size w0 w
theorem RetOI.nil {w0 w : World} (h : Below w0.heap.size w0 w) : RetOI w0 [] [] (.returned (.tuple #[.slice none 0 0, .slice none 0 0])) w :=
  ⟨none, 0, none, 0, rfl, Nat.le_refl _, Nat.le_refl _, FreshOps.none_, FreshInts.none_, h⟩
theorem RetOI.mk {w0 w : World} {xs : List OpV} {ys : List Int} {A B : Option Addr} {n m c d : Nat} (hn : xs.length = n) (hm : ys.length = m) (hc : n ≤ c) (hd : m ≤ d) (h1 : FreshOps w0 w A n xs) (h2 : FreshInts w0 w B m ys) (hb : Below w0.heap.size w0 w) :
    RetOI w0 xs ys (.returned (.tuple #[.slice A n c, .slice B m d])) w := by
  subst hn; subst hm
  exact ⟨A, c, B, d, rfl, hc, hd, h1, h2, hb⟩
theorem RetOI.later {w0 w1 : World} {xs : List OpV} {ys : List Int} {e : Ending} {w : World} (hb : Below w0.heap.size w0 w1) (h : RetOI w1 xs ys e w) : RetOI w0 xs ys e w := by
  obtain ⟨A, c, B, d, rfl, hc, hd, ⟨a1, a2⟩, ⟨b1, b2⟩, hb'⟩ := h
  have hs := hb.size
  exact ⟨A, c, B, d, rfl, hc, hd, ⟨a1, fun ad had => by obtain ⟨b, cur, h3, h4, h5⟩ := a2 ad had; exact ⟨b, cur, h3, by omega, h5⟩⟩,
    ⟨b1, fun ad had => by obtain ⟨b, cur, h3, h4, h5⟩ := b2 ad had; exact ⟨b, cur, h3, by omega, h5⟩⟩, hb.trans (hb'.mono hs)⟩
end Go.Proofs.Ytkbclcgdkbhgdaa
namespace Go.Proofs.Ytkbclcgdkbhgdaa
open Go.RowKit Go.BigFrame
set_option linter.unusedVariables false

theorem intsInfo : (Try.prog.info? 40).map (fun i => (i.zero, i.size, i.bytes)) = some (some (.slice none 0 0), 1, 24) := by kernel_rfl


section
variable {w : World} {ops : Array Oper} {o : Oper} {a : Act} {K : Act → World → Prop} {Q : Exit → Act → World → Prop} {E : Prop}
/-- append, at a step of a region that draws its order. -/
theorem step_app {P : Program} (hgd : o.guard = none) (s x : Operand) (t : TypeId)
    (ho : o.op = .call { callee := .builtin .append, args := #[s, x], argTypes := #[t, t] })
    (base : Nat) (e : TypeId) (i : TypeInfo) (z : Value) (size bytes : Nat) (ht : P.underlying t = some (.slice e)) (hi : P.info? e = some i) (hz : i.zero = some z)
    (hsize : i.size = size) (hby : i.bytes = bytes) (hzs : z.cells.size = size) (hsz : 0 < size)
    (v : Value) (n : Nat) (xs : List Value) (hs : a.eval s = v) (hown : w.ownsRow base e size v n xs)
    (A : Option Addr) (m c : Nat) (news : List Value) (hx : a.eval x = .slice A m c) (hr : Src w size A m news)
    (h63 : n + m ≤ maxLen) (hbytes : (n + m) * bytes ≤ 140737488355328) (hbase : base ≤ w.heap.size)
    (h : ∀ v' w', w'.ownsRow base e size v' (n + m) (xs ++ news) → w.grownBy w' v.ownBlock → (v'.ownBlock = v.ownBlock ∨ v'.ownBlock = some w.heap.size) → K (a.put o.dst v') w') :
    if Region.wanted o (yielded ops a.tmps) = true then Oper.wp P o a w K Q else E := by
  have hw : Region.wanted o (yielded ops a.tmps) = true := by simp [Region.wanted, hgd]
  rw [if_pos hw]
  obtain ⟨v', w', hrun, h2, h3, h4⟩ := run_app (P := P) base t o.type e i z size bytes ht hi hz hsize hby hzs hsz v n xs hown A m c news hr h63 hbytes hbase
  unfold Oper.wp execOp
  simp only [ho, resolve, invoke, builtin, Sem.run_bind, Sem.run_pure, Result.andThen_ok, List.map_toArray, List.map_cons, List.map_nil, hs, hx, hrun]
  exact h v' w' h2 h3 h4
theorem step_ints (s x : Operand) {base : Nat} {v : Value} {n : Nat} {xs : List Int} (hown : w.ownsRow base 3 1 v n (intCells xs)) (hbase : base ≤ w.heap.size)
    {A : Option Addr} {m c : Nat} {ys : List Int} (hr : RInts w A m ys) (hn : n ≤ 1099511627776)
    (hgd : o.guard = none) (ho : o.op = .call { callee := .builtin .append, args := #[s, x], argTypes := #[40, 40] }) (hs : a.eval s = v) (hx : a.eval x = .slice A m c)
    (h : ∀ v' w', w'.ownsRow base 3 1 v' (n + m) (intCells (xs ++ ys)) → w.grownBy w' v.ownBlock → (v'.ownBlock = v.ownBlock ∨ v'.ownBlock = some w.heap.size) → K (a.put o.dst v') w') :
    if Region.wanted o (yielded ops a.tmps) = true then Oper.wp Try.prog o a w K Q else E := by
  obtain ⟨i0, hi, hz0, hz1, hz2⟩ := info_parts intInfo
  have hm := hr.2.1
  refine step_app hgd s x _ ho base _ i0 _ 1 8 Try.underlying40 hi hz0 hz1 hz2 rfl (by decide) v n _ hs hown A m c _ hx hr.src (by simp only [maxLen]; omega) (by omega) hbase ?_
  intro v' w' h1 h2 h3
  have e : intCells xs ++ intCells ys = intCells (xs ++ ys) := by simp [intCells]
  rw [e] at h1
  exact h v' w' h1 h2 h3
theorem step_rows (s x : Operand) {base : Nat} {v : Value} {n : Nat} {rv : List Value} (hown : w.ownsRow base 40 1 v n rv) (hbase : base ≤ w.heap.size)
    {A : Option Addr} {m c : Nat} {rs : List Value} (hr : Src w 1 A m rs) (hn : n + m ≤ 1099511627776)
    (hgd : o.guard = none) (ho : o.op = .call { callee := .builtin .append, args := #[s, x], argTypes := #[33, 33] }) (hs : a.eval s = v) (hx : a.eval x = .slice A m c)
    (h : ∀ v' w', w'.ownsRow base 40 1 v' (n + m) (rv ++ rs) → w.grownBy w' v.ownBlock → (v'.ownBlock = v.ownBlock ∨ v'.ownBlock = some w.heap.size) → K (a.put o.dst v') w') :
    if Region.wanted o (yielded ops a.tmps) = true then Oper.wp Try.prog o a w K Q else E := by
  obtain ⟨i0, hi, hz0, hz1, hz2⟩ := info_parts intsInfo
  exact step_app hgd s x _ ho base _ i0 _ 1 24 Try.underlying33 hi hz0 hz1 hz2 rfl (by decide) v n _ hs hown A m c _ hx hr (by simp only [maxLen]; omega) (by omega) hbase h
end

theorem rowsI_at3 {R : List Nat} (h : Rows4 R) {w : World} {A : Option Addr} (hr : RInts w A 4 (rowsI R)) {t : Nat} (ht : t < 4) : ∃ b off, A = some ⟨b, off, none⟩ ∧ b < w.heap.size ∧ w.cell? ⟨b, off + t, none⟩ = some (.int .i64 ((R.getD t 0 : Nat) : Int)) ∧ R.getD t 0 < 16 := by
  obtain ⟨b, off, x, hA, hlt, hx, hc⟩ := hr.at_ ht
  obtain ⟨h1, h2⟩ := rowsI_at h (T := t) (by omega)
  refine ⟨b, off, hA, hlt, ?_, h2⟩
  rw [hc]
  simp only [intCells, List.getElem?_map, hx, Option.map_some] at h1
  exact h1
theorem FreshInts.lat {w0 w w' : World} {A : Option Addr} {n : Nat} {xs : List Int} (h : FreshInts w0 w A n xs) (hb : Below w.heap.size w w') : FreshInts w0 w' A n xs :=
  ⟨h.1.below hb (Nat.le_refl _), fun ad had => by obtain ⟨b, cur, e, h1, h2, h3⟩ := h.2 ad had; exact ⟨b, cur, e, h1, (hb.block b (lt_of_block h2)).trans h2, h3⟩⟩
theorem FreshInts.since {w0 w1 w : World} {A : Option Addr} {n : Nat} {xs : List Int} (h : FreshInts w1 w A n xs) (hs : w0.heap.size ≤ w1.heap.size) : FreshInts w0 w A n xs :=
  ⟨h.1, fun ad had => by obtain ⟨b, cur, e, h1, h2, h3⟩ := h.2 ad had; exact ⟨b, cur, e, by omega, h2, h3⟩⟩
/-- A row of integers is as it was when another block has turned. -/
theorem FreshInts.grownT {w0 w w' : World} {A : Option Addr} {n : Nat} {xs : List Int} {row : Option Nat} (h : FreshInts w0 w A n xs) (hg : w.grownBy w' row) (hne : ∀ g, row = some g → ∀ cur, w.heap[g]? ≠ some (.cells cur 3 (0, 0))) : FreshInts w0 w' A n xs := by
  have hblk : ∀ ad, A = some ad → ∃ b cur, ad = ⟨b, 0, none⟩ ∧ w0.heap.size ≤ b ∧ w.heap[b]? = some (.cells cur 3 (0, 0)) ∧ n ≤ cur.size ∧ w'.heap[b]? = w.heap[b]? := fun ad had => by
    obtain ⟨b, cur, e, h1, h2, h3⟩ := h.2 ad had
    exact ⟨b, cur, e, h1, h2, h3, hg.block b (lt_of_block h2) (fun e => hne b e.symm cur h2)⟩
  refine ⟨⟨h.1.1, h.1.2.1, fun hn => ?_⟩, fun ad had => ?_⟩
  · obtain ⟨b, off, hA, hlt, hc⟩ := h.1.2.2 hn
    obtain ⟨b', cur, e, _, _, _, hk⟩ := hblk _ hA
    injection e with e1 e2 _
    subst e1
    have hs := World.grownBy.size hg
    exact ⟨b, off, hA, by omega, fun i x hx => (World.cell?_of_block (w := w) (a := ⟨b, off + i, none⟩) hk).trans (hc i x hx)⟩
  · obtain ⟨b, cur, e, h1, h2, h3, hk⟩ := hblk ad had
    exact ⟨b, cur, e, h1, hk.trans h2, h3⟩

/-- These slice values are these lists, each in memory made since w0. -/
def RowsR (w0 w : World) (rv : List Value) (xss : List (List Int)) : Prop :=
  rv.length = xss.length ∧ ∀ (i : Nat) (xs : List Int), xss[i]? = some xs → ∃ B c, rv[i]? = some (.slice B xs.length c) ∧ xs.length ≤ c ∧ FreshInts w0 w B xs.length xs
theorem RowsR.nil {w0 w : World} : RowsR w0 w [] [] := ⟨rfl, fun i xs h => by simp at h⟩
theorem RowsR.below {w0 w w' : World} {rv : List Value} {xss : List (List Int)} (h : RowsR w0 w rv xss) (hb : Below w.heap.size w w') : RowsR w0 w' rv xss :=
  ⟨h.1, fun i xs hi => by obtain ⟨C, c, e, hmc, hr⟩ := h.2 i xs hi; exact ⟨C, c, e, hmc, hr.lat hb⟩⟩
theorem RowsR.since {w0 w1 w : World} {rv : List Value} {xss : List (List Int)} (h : RowsR w1 w rv xss) (hs : w0.heap.size ≤ w1.heap.size) : RowsR w0 w rv xss :=
  ⟨h.1, fun i xs hi => by obtain ⟨C, c, e, hmc, hr⟩ := h.2 i xs hi; exact ⟨C, c, e, hmc, hr.since hs⟩⟩
theorem RowsR.grown {w0 w w' : World} {rv : List Value} {xss : List (List Int)} {row : Option Nat} (h : RowsR w0 w rv xss) (hg : w.grownBy w' row) (hne : ∀ g, row = some g → ∀ cur, w.heap[g]? ≠ some (.cells cur 3 (0, 0))) : RowsR w0 w' rv xss :=
  ⟨h.1, fun i xs hi => by obtain ⟨C, c, e, hmc, hr⟩ := h.2 i xs hi; exact ⟨C, c, e, hmc, hr.grownT hg hne⟩⟩
theorem RowsR.append {w0 w : World} {rv rs : List Value} {xss yss : List (List Int)} (h : RowsR w0 w rv xss) (k : RowsR w0 w rs yss) : RowsR w0 w (rv ++ rs) (xss ++ yss) := by
  refine ⟨by simp [h.1, k.1], fun i xs hi => ?_⟩
  rcases Nat.lt_or_ge i xss.length with hlt | hge
  · rw [List.getElem?_append_left hlt] at hi
    obtain ⟨C, c, e, r⟩ := h.2 i xs hi
    exact ⟨C, c, by rw [List.getElem?_append_left (by rw [h.1]; exact hlt)]; exact e, r⟩
  · rw [List.getElem?_append_right hge] at hi
    obtain ⟨C, c, e, r⟩ := k.2 _ xs hi
    exact ⟨C, c, by rw [List.getElem?_append_right (by rw [h.1]; exact hge), h.1]; exact e, r⟩
theorem RowsR.one {w0 w : World} {rv : List Value} {xss : List (List Int)} (h : RowsR w0 w rv xss) : ∀ u ∈ rv, u.oneCell' = true := by
  intro u hu
  obtain ⟨i, hi⟩ := List.mem_iff_getElem?.1 hu
  have hl := (List.getElem?_eq_some_iff.1 hi).1
  obtain ⟨C, c, e, _⟩ := h.2 i _ (List.getElem?_eq_getElem (by rw [← h.1]; exact hl))
  rw [e] at hi
  injection hi with hi
  rw [← hi]; rfl
theorem RowsR.lit {w0 w : World} {B : Option Addr} {n c : Nat} {xs : List Int} (hn : xs.length = n) (hc : n ≤ c) (h : FreshInts w0 w B n xs) : RowsR w0 w [.slice B n c] [xs] := by
  subst hn
  refine ⟨rfl, fun i ys hi => ?_⟩
  match i, hi with
  | 0, hi =>
    simp only [List.getElem?_cons_zero, Option.some.injEq] at hi
    subst hi
    exact ⟨B, c, rfl, hc, h⟩
  | i + 1, hi => simp at hi
/-- The block of an owned row of slices is none of integers. -/
theorem own_noInt {w : World} {base n : Nat} {v : Value} {rv : List Value} (h : w.ownsRow base 40 1 v n rv) : ∀ g, v.ownBlock = some g → ∀ cur, w.heap[g]? ≠ some (.cells cur 3 (0, 0)) := by
  intro g hg cur hc
  rcases h.2 with ⟨h1, h2⟩ | ⟨g', cap, cur', h1, h2, h3, h4, h5, h6, h7⟩
  · rw [h1] at hg; cases hg
  · rw [h1] at hg
    have : g' = g := by simpa [Value.ownBlock] using hg
    subst this
    rw [h3] at hc
    injection hc with hc
    injection hc with _ ht _
    exact absurd ht (by decide)

/-- The row of rows, in a block made since w0. -/
def OuterR (w0 w : World) (A : Option Addr) (n : Nat) (rv : List Value) : Prop :=
  Src w 1 A n rv ∧ ∀ ad, A = some ad → ∃ b cur, ad = ⟨b, 0, none⟩ ∧ w0.heap.size ≤ b ∧ w.heap[b]? = some (.cells cur 40 (0, 0))
theorem OuterR.of_own {w0 w : World} {base n c : Nat} {A : Option Addr} {rv : List Value} (h : w.ownsRow base 40 1 (.slice A n c) n rv) (hb : w0.heap.size ≤ base) (h1 : ∀ u ∈ rv, u.oneCell' = true) : OuterR w0 w A n rv := by
  have hl : rv.length = n := by have := h.1; omega
  rcases h.2 with ⟨e1, e2⟩ | ⟨g, cap, cur, e1, e2, e3, e4, e5, e6, e7⟩
  · injection e1 with ha hb' hc
    subst ha
    subst e2
    exact ⟨⟨by omega, h1, fun h0 => absurd h0 (by omega)⟩, fun ad had => by cases had⟩
  · injection e1 with ha _ hc
    subst ha
    refine ⟨⟨by omega, h1, fun h0 => ⟨_, rfl, fun j u hu => h.cells (g := g) (by simp [Value.ownBlock]) j u hu⟩⟩, fun ad had => ?_⟩
    injection had with had
    subst had
    exact ⟨g, cur, rfl, by omega, e3⟩

/-- The call hands back these lists in new memory and changes nothing. -/
def RetLists (w0 : World) (xss : List (List Int)) (e : Ending) (w : World) : Prop :=
  ∃ A c rv, e = .returned (.slice A xss.length c) ∧ xss.length ≤ c ∧ OuterR w0 w A xss.length rv ∧ RowsR w0 w rv xss ∧ Below w0.heap.size w0 w
theorem RetLists.form {w0 w : World} {xss : List (List Int)} {e : Ending} (h : RetLists w0 xss e w) : ∃ A c n rv, e = .returned (.slice A n c) ∧ Hid (xss.length = n) ∧ n ≤ c ∧ OuterR w0 w A n rv ∧ RowsR w0 w rv xss ∧ Below w0.heap.size w0 w := by
  obtain ⟨A, c, rv, h⟩ := h
  exact ⟨A, c, _, rv, h.1, rfl, h.2⟩
theorem RetLists.nil {w0 w : World} (h : Below w0.heap.size w0 w) : RetLists w0 [] (.returned (.slice none 0 0)) w :=
  ⟨none, 0, [], rfl, Nat.le_refl _, ⟨⟨rfl, by simp, fun h => absurd h (by simp)⟩, fun ad h => by cases h⟩, RowsR.nil, h⟩
theorem RetLists.of_own {w0 w : World} {xss : List (List Int)} {A : Option Addr} {n c base : Nat} {rv : List Value} (hn : xss.length = n) (hc : n ≤ c) (h : w.ownsRow base 40 1 (.slice A n c) n rv) (hbase : w0.heap.size ≤ base) (hr : RowsR w0 w rv xss) (hb : Below w0.heap.size w0 w) : RetLists w0 xss (.returned (.slice A n c)) w := by
  subst hn; exact ⟨A, c, rv, rfl, hc, OuterR.of_own h hbase hr.one, hr, hb⟩
theorem RetLists.lit1 {w0 w1 : World} {xs : List Int} {A : Option Addr} {n c : Nat} (hn : xs.length = n) (hc : n ≤ c) (hf : FreshInts w0 w1 A n xs) (hb : Below w0.heap.size w0 w1) :
    RetLists w0 [xs] (.returned (.slice (some ⟨w1.heap.size, 0, none⟩) 1 1)) (w1.alloc (.cells #[.slice A n c] 40)) := by
  have hs := hb.size
  refine ⟨_, _, [.slice A n c], rfl, Nat.le_refl _, ⟨⟨rfl, by simp [Value.oneCell'], fun _ => ⟨_, rfl, fun j u hu => ?_⟩⟩, fun ad had => ?_⟩, RowsR.lit hn hc (hf.lat ((Below.refl _ _).alloc (Nat.le_refl _) _)), hb.alloc hs _⟩
  · match j, hu with
    | 0, hu =>
      simp only [List.getElem?_cons_zero, Option.some.injEq] at hu
      subst hu
      rw [addr_add]
      exact box_at _ _ _ _ _ (by simp)
    | j + 1, hu => simp at hu
  · injection had with had
    subst had
    exact ⟨_, _, rfl, hs, heap_alloc_new w1 _⟩
/-- What has been gathered. -/
def RowsInv (w wr : World) (ov : Value) (xss : List (List Int)) : Prop := ∃ (N : Nat) (rv : List Value), N ≤ 1024 ∧ xss.length = N ∧ Below w.heap.size w wr ∧ wr.ownsRow w.heap.size 40 1 ov N rv ∧ RowsR w wr rv xss
theorem RowsInv.later {w wr W : World} {ov : Value} {xss : List (List Int)} (h : RowsInv w wr ov xss) (hb : Below wr.heap.size wr W) : RowsInv w W ov xss := by
  obtain ⟨N, rv, hN, hl, h1, h2, h3⟩ := h
  exact ⟨N, rv, hN, hl, h1.trans (hb.mono h1.size), own_below h2 hb, h3.below hb⟩
end Go.Proofs.Ytkbclcgdkbhgdaa
namespace Go.Proofs.Ytkbclcgdkbhgdaa
open Go.RowKit Go.BigFrame
set_option linter.unusedVariables false


set_option maxHeartbeats 400000 in
theorem IndexS_any (A : Option Addr) (n c : Nat) (xs : List Int) (x : Int) (w : World) (hx : RInts w A n xs) :
    Calls Try.prog 132 #[.slice A n c, .int .i64 x] w fun e w' => e = .returned (.int .i64 (idxZ xs x)) ∧ Below w.heap.size w w' := by
  have hn := hx.2.1
  have hl := hx.1
  have HX := Lib.hid hx
  clear hx
  go_enter Try.func132, Try.ntmps132
  go_wp2_with fail
  go_loopw [8] (fun i wr => ∃ k : Nat, k ≤ n ∧ i = .int .i64 k ∧ Below w.heap.size w wr ∧ (∀ j, j < k → ∀ y, xs[j]? = some y → (y == x) = false)) (fun i _ => n - (intOf i).toNat)
  case atStart => exact ⟨0, Nat.zero_le _, rfl, Below.refl _ _, by omega⟩
  case round =>
    obtain ⟨k, hk, rfl, hb, hno⟩ := hrel
    by_cases hlt : k < n
    · obtain ⟨b, off, y, rfl, hbl, ho, c0⟩ := (HX.out.below hb (Nat.le_refl _)).at_ hlt
      have HN : Hid ((y == x) = false → ∀ j, j < k + 1 → ∀ y, xs[j]? = some y → (y == x) = false) := fun h => no_snoc ho hno h
      have HT : Hid ((y == x) = true → idxZ xs x = (k : Int)) := fun h => idxZ_hit ho h hno
      have L0 := Later.cell c0
      clear hno ho
      by_cases h1 : y = x
      · have hs := Lib.hid (HT.out (by simpa using h1))
        have h1' : (x == y) = true := by simpa using h1.symm
        go_wp2_with fail
        try (refine region_later (by kernel_rfl) (by kernel_rfl) ?_; repeat (go_big_quiet_step (fail)); refine wpQuiet_nil ?_; rintro _ ⟨u, rfl⟩; go_wp2_with fail)
        go_ret
        exact ⟨ret_int hs.out.symm, by first | exact hb | exact hb.trans (u.2.mono hb.size)⟩
      · have hs := Lib.hid (HN.out (by simpa using h1))
        have h1' : (x == y) = false := by simpa using fun h => h1 h.symm
        go_wp2_with fail
        try (refine region_later (by kernel_rfl) (by kernel_rfl) ?_; repeat (go_big_quiet_step (fail)); refine wpQuiet_nil ?_; rintro _ ⟨u, rfl⟩; go_wp2_with fail)
        go_roundw
        case rel => exact ⟨k + 1, by omega, by go_num, by first | exact hb | exact hb.trans (u.2.mono hb.size), hs.out⟩
        case measure => simp [intOf]; omega
    · have HE := Lib.hid (idxZ_none (xs := xs) (x := x) (fun j hj => hno j (by omega)))
      clear hno
      go_wp2_with fail
      go_ret
      exact ⟨ret_int HE.out.symm, hb⟩


set_option maxHeartbeats 400000 in
theorem ContainsS_any (A : Option Addr) (n c : Nat) (xs : List Int) (x : Int) (w : World) (hx : RInts w A n xs) :
    Calls Try.prog 94 #[.slice A n c, .int .i64 x] w fun e w' => e = .returned (.bool (xs.any fun y => y == x)) ∧ Below w.heap.size w w' := by
  have HI := Lib.hid (IndexS_any A n c xs x w hx)
  have hz := idxZ_any xs x
  clear hx
  go_enter Try.func94, Try.ntmps94
  go_wp2_with fail
  refine HI.out.mono ?_
  rintro e w1 ⟨rfl, hb⟩
  generalize idxZ xs x = z at *
  cases ha : (xs.any fun y => y == x)
  · rw [ha] at hz
    have hz2 : z = -1 := by simpa using hz
    subst hz2
    have HA := Lib.hid ha
    clear ha hz
    go_wp2_with fail
    go_ret
    exact ⟨ret_bool HA.out.symm, hb⟩
  · rw [ha] at hz
    have hz2 : 0 ≤ z := by simpa using hz
    have HA := Lib.hid ha
    clear ha hz
    go_wp2_with fail
    go_ret
    exact ⟨ret_bool HA.out.symm, hb⟩

end Go.Proofs.Ytkbclcgdkbhgdaa
namespace Go.Proofs.Ytkbclcgdkbhgdaa
open Go.RowKit Go.BigFrame Go.Shelf
set_option linter.unusedVariables false

attribute [local go_sem] Oper.semAt_some

/-- A step of the iterator, as the loop's body sees it: new blocks, and its own four. -/
structure ItStep (a : Nat) (V W : World) : Prop where
  os : W.os = V.os
  tape : W.tape = V.tape
  output : W.output = V.output
  size : V.heap.size ≤ W.heap.size
  block : ∀ k, k < V.heap.size → ¬ (a ≤ k ∧ k < a + 4) → W.heap[k]? = V.heap[k]?
theorem ItStep.refl (a : Nat) (V : World) : ItStep a V V := ⟨rfl, rfl, rfl, Nat.le_refl _, fun _ _ _ => rfl⟩
theorem ItStep.trans {a : Nat} {U V W : World} (h : ItStep a U V) (k : ItStep a V W) : ItStep a U W :=
  ⟨k.os.trans h.os, k.tape.trans h.tape, k.output.trans h.output, Nat.le_trans h.size k.size, fun i hi hn => (k.block i (Nat.lt_of_lt_of_le hi h.size) hn).trans (h.block i hi hn)⟩
theorem ItStep.of_below {a : Nat} {V W : World} (h : Below V.heap.size V W) : ItStep a V W := ⟨h.os, h.tape, h.output, h.size, fun k hk _ => h.block k hk⟩
theorem ItStep.of_grown {a : Nat} {V W : World} {row : Option Nat} (h : V.grownBy W row) (hr : ∀ g, row = some g → a ≤ g ∧ g < a + 4) : ItStep a V W :=
  ⟨h.os, h.tape, h.output, h.size, fun k hk hn => h.block k hk (fun e => hn (hr k e.symm))⟩
theorem ItStep.set {a : Nat} (V : World) {p : Addr} (u : Value) (hp : a ≤ p.block ∧ p.block < a + 4) : ItStep a V (V.setCell p u) :=
  ⟨rfl, rfl, rfl, by simp [World.setCell], fun k hk hn => Below.heap_setCell V p u k (by rintro rfl; exact hn hp)⟩
/-- What a round keeps for the iterator. -/
structure RdKeep (a bx n0 : Nat) (V W : World) : Prop where
  size : V.heap.size ≤ W.heap.size
  block : ∀ k, k < V.heap.size → (k < n0 ∨ k = bx ∨ (a ≤ k ∧ k < a + 4)) → W.heap[k]? = V.heap[k]?
theorem RInts.kept {V W : World} {A : Option Addr} {n : Nat} {xs : List Int} (h : RInts V A n xs) (hs : V.heap.size ≤ W.heap.size) (hA : ∀ ad, A = some ad → W.heap[ad.block]? = V.heap[ad.block]?) : RInts W A n xs := by
  refine ⟨h.1, h.2.1, fun hn => ?_⟩
  obtain ⟨b, off, hA', hl, hc⟩ := h.2.2 hn
  have hk := hA _ hA'
  exact ⟨b, off, hA', by omega, fun i x hx => (World.cell?_of_block (w := V) (a := ⟨b, off + i, none⟩) hk).trans (hc i x hx)⟩

/-- The iterator's blocks, and the list that it goes over. -/
structure Iter (a bx l n c : Nat) (A : Option Addr) (list pre : List Int) (V : World) : Prop where
  yb : V.heap[a]? = some (.cells #[.func (.yield l) #[] #[]] 102 (0, 0))
  row : V.ownsRow a 3 1 (.slice (some ⟨a + 1, 0, none⟩) pre.length n) pre.length (intCells pre)
  ob : V.heap[a + 2]? = some (.cells #[.slice (some ⟨a + 1, 0, none⟩) pre.length n] 40 (0, 0))
  fb : V.heap[a + 3]? = some (.cells #[.func (.func 135) #[] #[.pointer (some ⟨a + 2, 0, none⟩), .pointer (some ⟨bx, 0, none⟩), .pointer (some ⟨a, 0, none⟩), .pointer (some ⟨a + 3, 0, none⟩)]] 57 (0, 0))
  lb : V.cell? ⟨bx, 0, none⟩ = some (.slice A n c)
  list : RInts V A n list
theorem Iter.below {a bx l n c : Nat} {A : Option Addr} {list pre : List Int} {V W : World} (h : Iter a bx l n c A list pre V) (hb : Below V.heap.size V W) : Iter a bx l n c A list pre W :=
  ⟨(hb.block _ (lt_of_block h.yb)).trans h.yb, own_below h.row hb, (hb.block _ (lt_of_block h.ob)).trans h.ob, (hb.block _ (lt_of_block h.fb)).trans h.fb,
   (hb.cell (p := ⟨bx, 0, none⟩) (block_lt_of_cell h.lb)).trans h.lb, h.list.below hb (Nat.le_refl _)⟩
theorem ownsRow_block {V W : World} {base n m : Nat} {T : TypeId} {sz g c : Nat} {xs : List Value} (h : V.ownsRow base T sz (.slice (some ⟨g, 0, none⟩) n c) m xs) (hs : V.heap.size ≤ W.heap.size) (hk : W.heap[g]? = V.heap[g]?) : W.ownsRow base T sz (.slice (some ⟨g, 0, none⟩) n c) m xs := by
  refine ⟨h.1, ?_⟩
  rcases h.2 with ⟨e, _⟩ | ⟨g', cap, cur, e, h2, h3, h4⟩
  · cases e
  · have eg : g' = g := by
      injection e with e1
      injection e1 with e1
      injection e1 with e1
      exact e1.symm
    subst eg
    exact .inr ⟨g', cap, cur, e, h2, hk.trans h3, h4⟩
theorem Iter.kept {a bx l n c n0 : Nat} {A : Option Addr} {list pre : List Int} {V W : World} (h : Iter a bx l n c A list pre V) (hA : ∀ ad, A = some ad → ad.block < n0) (hk : RdKeep a bx n0 V W) : Iter a bx l n c A list pre W := by
  have hob := hk.block (a + 2) (lt_of_block h.ob) (.inr (.inr (by omega)))
  have hyb := hk.block a (lt_of_block h.yb) (.inr (.inr (by omega)))
  have hfb := hk.block (a + 3) (lt_of_block h.fb) (.inr (.inr (by omega)))
  have hrb := hk.block (a + 1) (by have := lt_of_block h.ob; omega) (.inr (.inr (by omega)))
  have hbx : bx < V.heap.size := block_lt_of_cell h.lb
  have hlb := hk.block bx hbx (.inr (.inl rfl))
  refine ⟨hyb.trans h.yb, ownsRow_block h.row hk.size hrb, hob.trans h.ob, hfb.trans h.fb, (World.cell?_of_block (w := V) (a := ⟨bx, 0, none⟩) hlb).trans h.lb, ?_⟩
  refine ⟨h.list.1, h.list.2.1, fun h0 => ?_⟩
  obtain ⟨b, off, hA', hl, hc⟩ := h.list.2.2 h0
  have hkb := hk.block b hl (.inl (hA _ hA'))
  have hs := hk.size
  exact ⟨b, off, hA', by omega, fun i x hx => (World.cell?_of_block (w := V) (a := ⟨b, off + i, none⟩) hkb).trans (hc i x hx)⟩
theorem Iter.cells {a bx l n c : Nat} {A : Option Addr} {list pre : List Int} {V : World} (h : Iter a bx l n c A list pre V) :
    V.cell? ⟨a, 0, none⟩ = some (.func (.yield l) #[] #[]) ∧ V.cell? ⟨a + 2, 0, none⟩ = some (.slice (some ⟨a + 1, 0, none⟩) pre.length n) ∧ V.frozen? ⟨a + 2, 0, none⟩ = false ∧
    V.cell? ⟨a + 3, 0, none⟩ = some (.func (.func 135) #[] #[.pointer (some ⟨a + 2, 0, none⟩), .pointer (some ⟨bx, 0, none⟩), .pointer (some ⟨a, 0, none⟩), .pointer (some ⟨a + 3, 0, none⟩)]) := by
  refine ⟨?_, ?_, ?_, ?_⟩
  · rw [cell_of_row _ _ _ _ _ _ h.yb]; rfl
  · rw [cell_of_row _ _ _ _ _ _ h.ob]; rfl
  · simp [World.frozen?, h.ob]
  · rw [cell_of_row _ _ _ _ _ _ h.fb]; rfl
/-- The order with another length, as its box tells. -/
theorem Iter.put {a bx l n c : Nat} {A : Option Addr} {list pre pre' : List Int} {V W : World} (h : Iter a bx l n c A list pre V) (hg : V.grownBy W (some (a + 1))) (hbx : bx < a) (hA : ∀ ad, A = some ad → ad.block < a)
    (hrow : W.ownsRow a 3 1 (.slice (some ⟨a + 1, 0, none⟩) pre'.length n) pre'.length (intCells pre')) :
    Iter a bx l n c A list pre' (W.setCell ⟨a + 2, 0, none⟩ (.slice (some ⟨a + 1, 0, none⟩) pre'.length n)) := by
  have blk : ∀ k, k < V.heap.size → k ≠ a + 1 → k ≠ a + 2 → (W.setCell ⟨a + 2, 0, none⟩ (.slice (some ⟨a + 1, 0, none⟩) pre'.length n)).heap[k]? = V.heap[k]? := fun k hk h1 h2 =>
    (Below.heap_setCell W _ _ k (by simpa using h2)).trans (hg.block k hk (fun e => h1 (by injection e)))
  have hs := World.grownBy.size hg
  have hob : W.heap[a + 2]? = some (.cells #[.slice (some ⟨a + 1, 0, none⟩) pre.length n] 40 (0, 0)) := (hg.block (a + 2) (lt_of_block h.ob) (by simp)).trans h.ob
  refine ⟨(blk a (lt_of_block h.yb) (by omega) (by omega)).trans h.yb, ?_, ?_, (blk (a + 3) (lt_of_block h.fb) (by omega) (by omega)).trans h.fb, ?_, ?_⟩
  · refine ownsRow_block hrow (by simp [World.setCell]) (Below.heap_setCell W _ _ (a + 1) (by simp))
  · simp [World.setCell, Array.getElem?_modify, hob]
  · exact (World.cell?_of_block (w := V) (a := ⟨bx, 0, none⟩) (blk bx (block_lt_of_cell h.lb) (by omega) (by omega))).trans h.lb
  · refine ⟨h.list.1, h.list.2.1, fun h0 => ?_⟩
    obtain ⟨b, off, hA', hl, hc⟩ := h.list.2.2 h0
    have hba := hA _ hA'
    simp only at hba
    refine ⟨b, off, hA', by simp [World.setCell]; omega, fun i x hx => (World.cell?_of_block (w := V) (a := ⟨b, off + i, none⟩) (blk b hl (by omega) (by omega))).trans (hc i x hx)⟩
theorem own_less {w : World} {base g k c : Nat} {xs : List Int} {t : Int} (h : w.ownsRow base 3 1 (.slice (some ⟨g, 0, none⟩) (k + 1) c) (k + 1) (intCells (xs ++ [t]))) (hk : xs.length = k) : w.ownsRow base 3 1 (.slice (some ⟨g, 0, none⟩) k c) k (intCells xs) := by
  refine ⟨by simp [intCells, hk], ?_⟩
  rcases h.2 with ⟨e, _⟩ | ⟨g', cap, cur, e, h2, h3, h4, h5, h6, h7⟩
  · cases e
  · injection e with e1 e2 e3
    injection e1 with e1
    injection e1 with e1
    subst e1; subst e3
    refine .inr ⟨_, _, cur, rfl, h2, h3, by omega, h5, h6, ?_⟩
    have : (cur.toList.take ((k + 1) * 1)).take (k * 1) = cur.toList.take (k * 1) := by rw [List.take_take]; congr 1; omega
    rw [← this, h7]
    simp [intCells, hk]
end Go.Proofs.Ytkbclcgdkbhgdaa
namespace Go.Proofs.Ytkbclcgdkbhgdaa
open Go.RowKit Go.BigFrame Go.Shelf
set_option linter.unusedVariables false

attribute [local go_sem] Oper.semAt_some

/-- What the loop's body asks of the iterator, and what it does in a round. -/
structure PermCtx (a bx n0 l n : Nat) (list : List Int) (J : List (List Int) → World → Prop) : Prop where
  abide : ∀ s V W, J s V → ItStep a V W → J s W
  round : ∀ acc x V W1 A' c' m, J acc V → ItStep a V W1 → a + 4 ≤ V.heap.size → FreshInts V W1 A' n x → n ≤ c' → (acc ++ [x]) <+: permF list n [] →
    YieldAt Fence.wide m Try.prog l #[.slice A' n c'] W1 fun e W' => e = .returned (.bool true) ∧ J (acc ++ [x]) W' ∧ RdKeep a bx n0 W1 W'

/-- What the orders that begin with 'pre' and then go on with t are. -/
def permN (list : List Int) (m : Nat) (pre : List Int) (t : Int) : List (List Int) := if pre.any (fun y => y == t) then [] else permF list m (pre ++ [t])
theorem permF_succ {list : List Int} {m : Nat} {pre : List Int} : permF list (m + 1) pre = list.flatMap (permN list m pre) := rfl
theorem prefix_of_snoc {α : Type} {acc a b c L : List α} (h : (acc ++ (a ++ (b ++ c))) <+: L) : (acc ++ (a ++ b)) <+: L := by
  refine List.IsPrefix.trans ?_ h
  exact ⟨c, by simp⟩
theorem Iter.sz {a bx l n c : Nat} {A : Option Addr} {list pre : List Int} {V : World} (h : Iter a bx l n c A list pre V) : a + 4 ≤ V.heap.size := by have := lt_of_block h.fb; omega

set_option maxRecDepth 100000 in
set_option maxHeartbeats 1000000 in
theorem from_zero (a bx n0 l n c : Nat) (A : Option Addr) (list : List Int) (J : List (List Int) → World → Prop) (hP : PermCtx a bx n0 l n list J) (hA : ∀ ad, A = some ad → ad.block < n0)
    (pre : List Int) (acc : List (List Int)) (V : World) (hI : Iter a bx l n c A list pre V) (hJ : J acc V) (hlen : pre.length = n) (hpre : (acc ++ [pre]) <+: permF list n []) :
      Calls Try.prog 135 #[.pointer (some ⟨a + 2, 0, none⟩), .pointer (some ⟨bx, 0, none⟩), .pointer (some ⟨a, 0, none⟩), .pointer (some ⟨a + 3, 0, none⟩)] V fun e V' =>
        e = .returned (.bool true) ∧ Iter a bx l n c A list pre V' ∧ J (acc ++ [pre]) V' := by
  subst hlen
  obtain ⟨c0, c2, f2, c3⟩ := hI.cells
  have clb := hI.lb
  have hln := hI.list.2.1
  have hcl : Calls Try.prog 124 #[.slice (some ⟨a + 1, 0, none⟩) pre.length pre.length] V.drew (RetInts V.drew pre) := CloneI_any (a + 1) 0 pre.length pre.length pre V.drew (RInts.of_own hI.row hln)
  have HC := Lib.hid hcl
  have HR : Hid (∀ (A1 : Option Addr) (c1 m : Nat) (w1 : World), FreshInts V.drew w1 A1 pre.length pre → pre.length ≤ c1 → Below V.drew.heap.size V.drew w1 →
      YieldAt Fence.wide m Try.prog l #[.slice A1 pre.length c1] w1 fun e W' => e = .returned (.bool true) ∧ J (acc ++ [pre]) W' ∧ Iter a bx l pre.length c A list pre W') := by
    intro A1 c1 m w1 hf hc1 hb
    refine (hP.round acc pre V w1 A1 c1 m hJ ⟨hb.os, hb.tape, hb.output, hb.size, fun k hk _ => hb.block k hk⟩ hI.sz hf hc1 hpre).mono ?_
    rintro e W' ⟨he, hj, hk⟩
    exact ⟨he, hj, (hI.below (W := w1) ⟨hb.os, hb.tape, hb.output, hb.size, hb.block⟩).kept hA hk⟩
  clear hI hJ hpre hP hcl
  refine (callsIn_wide (n := 5)).1 ?_
  refine callsIn_of_wp Try.func135 rfl trivial ?_ rfl
  simp only [Try.ntmps135, List.size_toArray, List.length_cons, List.length_nil, Nat.reduceAdd, Nat.reduceSub, Array.replicate_succ, Array.replicate_zero, List.push_toArray, List.append_toArray, List.nil_append, List.cons_append]
  gi_wp2
  gi_region_with (first
    | (refine ⟨trivial, ?_⟩; gi_at_call 124; refine (callsIn_wide.2 HC.out).mono ?_; rintro e w1 ⟨A1, c1, rfl, hc1, hf, hb⟩; have c0' := (hb.cell (p := ⟨a, 0, none⟩) (block_lt_of_cell c0)).trans c0; obtain ⟨fn, tmps, assign, body, hy, hR⟩ := HR.out A1 c1 4 w1 hf hc1 hb)
    | (refine hR.mono ?_; rintro e w2 ⟨rfl, hJ2, hI2⟩))
  all_goals
    gi_wp2
    go_ret
    exact ⟨rfl, hI2, hJ2⟩
end Go.Proofs.Ytkbclcgdkbhgdaa
namespace Go.Proofs.Ytkbclcgdkbhgdaa
open Go.RowKit Go.BigFrame Go.Shelf
set_option linter.unusedVariables false

/-- A loop of the recursion: what lies and what has come. -/
structure FromInv (a bx l n c : Nat) (A : Option Addr) (list pre : List Int) (J : List (List Int) → World → Prop) (acc : List (List Int)) (V : World) : Prop where
  it : Iter a bx l n c A list pre V
  j : J acc V

theorem cell_grown {V W : World} {row : Option Nat} (hg : V.grownBy W row) {p : Addr} (hp : p.block < V.heap.size) (hne : some p.block ≠ row) : W.cell? p = V.cell? p := World.cell?_of_block (w := V) (hg.block _ hp hne)
theorem frozen_grown {V W : World} {row : Option Nat} (hg : V.grownBy W row) {p : Addr} (hp : p.block < V.heap.size) (hne : some p.block ≠ row) : W.frozen? p = V.frozen? p := by
  unfold World.frozen?
  rw [hg.block _ hp hne]
/-- One order more: what lies then. -/
theorem put_len {a bx l n c d : Nat} {A : Option Addr} {list pre : List Int} {t : Int} {V W : World} (hd : pre.length = d) (h : Iter a bx l n c A list pre V) (hg : V.grownBy W (some (a + 1))) (hbx : bx < a) (hA : ∀ ad, A = some ad → ad.block < a)
    (hrow : W.ownsRow a 3 1 (.slice (some ⟨a + 1, 0, none⟩) (d + 1) n) (d + 1) (intCells pre ++ [.int .i64 t])) :
    W.cell? ⟨a + 2, 0, none⟩ = some (.slice (some ⟨a + 1, 0, none⟩) d n) ∧ W.frozen? ⟨a + 2, 0, none⟩ = false ∧ Iter a bx l n c A list (pre ++ [t]) (W.setCell ⟨a + 2, 0, none⟩ (.slice (some ⟨a + 1, 0, none⟩) (d + 1) n)) ∧
      (W.setCell ⟨a + 2, 0, none⟩ (.slice (some ⟨a + 1, 0, none⟩) (d + 1) n)).cell? ⟨a + 3, 0, none⟩ = some (.func (.func 135) #[] #[.pointer (some ⟨a + 2, 0, none⟩), .pointer (some ⟨bx, 0, none⟩), .pointer (some ⟨a, 0, none⟩), .pointer (some ⟨a + 3, 0, none⟩)]) := by
  subst hd
  obtain ⟨c0, c2, f2, c3⟩ := h.cells
  have hs := h.sz
  have hl : (pre ++ [t]).length = pre.length + 1 := by simp
  have hI : Iter a bx l n c A list (pre ++ [t]) (W.setCell ⟨a + 2, 0, none⟩ (.slice (some ⟨a + 1, 0, none⟩) (pre ++ [t]).length n)) := h.put hg hbx hA (by rw [hl]; simpa [intCells] using hrow)
  rw [hl] at hI
  exact ⟨(cell_grown hg (p := ⟨a + 2, 0, none⟩) (by simp; omega) (by simp)).trans c2, (frozen_grown hg (p := ⟨a + 2, 0, none⟩) (by simp; omega) (by simp)).trans f2, hI, hI.cells.2.2.2⟩
theorem put_step {a : Nat} {V W : World} {u : Value} (hg : V.grownBy W (some (a + 1))) : ItStep a V (W.setCell ⟨a + 2, 0, none⟩ u) :=
  (ItStep.of_grown hg (fun g e => by injection e with e; omega)).trans (ItStep.set W u (p := ⟨a + 2, 0, none⟩) (by simp))

set_option maxRecDepth 100000 in
set_option maxHeartbeats 2000000 in
theorem from_any (a bx n0 l n c : Nat) (A : Option Addr) (list : List Int) (J : List (List Int) → World → Prop) (hP : PermCtx a bx n0 l n list J) (hbx : bx < a) (hA : ∀ ad, A = some ad → ad.block < n0) (hn0 : n0 ≤ a) (m : Nat) :
    ∀ (pre : List Int) (acc : List (List Int)) (V : World), Iter a bx l n c A list pre V → J acc V → pre.length + m = n → (acc ++ permF list m pre) <+: permF list n [] →
      Calls Try.prog 135 #[.pointer (some ⟨a + 2, 0, none⟩), .pointer (some ⟨bx, 0, none⟩), .pointer (some ⟨a, 0, none⟩), .pointer (some ⟨a + 3, 0, none⟩)] V fun e V' =>
        e = .returned (.bool true) ∧ Iter a bx l n c A list pre V' ∧ J (acc ++ permF list m pre) V' := by
  induction m with
  | zero =>
    intro pre acc V hI hJ hlen hpre
    exact from_zero a bx n0 l n c A list J hP hA pre acc V hI hJ (by omega) hpre
  | succ m ih =>
    intro pre acc V hI hJ hlen hpre
    obtain ⟨d, hh⟩ : ∃ d, pre.length = d := ⟨_, rfl⟩
    have HLEN := Lib.hid hh
    have hhn : d < n := by omega
    have hdm : d + m + 1 = n := by omega
    have hdn : ((d : Int) == (n : Int)) = false := by simp; omega
    obtain ⟨c0, c2, f2, c3⟩ := hI.cells
    rw [hh] at c2
    have clb := hI.lb
    have hln := hI.list.2.1
    have hlist := hI.list.1
    have HP := Lib.hid hP
    have HIH := Lib.hid ih
    have HPRE := Lib.hid hpre
    have HFI : Hid (FromInv a bx l n c A list pre J acc V) := ⟨hI, hJ⟩
    have HA := Lib.hid hA
    have HL := Lib.hid hlist
    clear hI hJ hP ih hpre hA hlist hlen hh
    go_enter Try.func135, Try.ntmps135
    go_wp2_with fail
    go_loopw [18] (fun i wr => ∃ k : Nat, k ≤ n ∧ i = .int .i64 k ∧ FromInv a bx l n c A list pre J (acc ++ (list.take k).flatMap (permN list m pre)) wr) (fun i _ => n - (intOf i).toNat)
    case atStart => exact ⟨0, Nat.zero_le _, rfl, by simpa using HFI.out⟩
    case round =>
      clear HFI c0 c2 f2 c3 clb
      obtain ⟨k, hk, rfl, hinv⟩ := hrel
      have HINV := Lib.hid hinv
      clear hinv
      by_cases hlt : k < n
      · obtain ⟨c0, c2, f2, c3⟩ := HINV.out.it.cells
        rw [HLEN.out] at c2
        obtain ⟨b, off, t, hAe, hbl, ho, ct⟩ := HINV.out.it.list.at_ hlt
        have hbA : b < a := by have := HA.out _ hAe; simp only at this; omega
        subst hAe
        have hst : (list.take (k + 1)).flatMap (permN list m pre) = (list.take k).flatMap (permN list m pre) ++ permN list m pre t := by
          rw [take_snoc ho, List.flatMap_append]; simp
        have hpx : permF list (m + 1) pre = ((list.take k).flatMap (permN list m pre) ++ permN list m pre t) ++ (list.drop (k + 1)).flatMap (permN list m pre) := by
          rw [permF_succ, ← hst, ← List.flatMap_append, List.take_append_drop]
        have HPX : Hid ((acc ++ (list.take k).flatMap (permN list m pre) ++ permN list m pre t) <+: permF list n []) := by
          have := HPRE.out
          rw [hpx] at this
          refine List.IsPrefix.trans ⟨(list.drop (k + 1)).flatMap (permN list m pre), ?_⟩ this
          simp [List.append_assoc]
        have HST : Hid (acc ++ (list.take (k + 1)).flatMap (permN list m pre) = acc ++ (list.take k).flatMap (permN list m pre) ++ permN list m pre t) := by show _ = _; rw [hst, List.append_assoc]
        have HN : Hid (permN list m pre t = if pre.any (fun y => y == t) then [] else permF list m (pre ++ [t])) := rfl
        clear hst hpx ho
        generalize acc ++ (list.take k).flatMap (permN list m pre) = acc1 at *
        generalize permN list m pre t = nx at *
        have hrow := HINV.out.it.row
        rw [HLEN.out] at hrow
        have hcI : Calls Try.prog 94 #[.slice (some ⟨a + 1, 0, none⟩) d n, .int .i64 t] wr fun e w' => e = .returned (.bool (pre.any fun y => y == t)) ∧ Below wr.heap.size wr w' := ContainsS_any (some ⟨a + 1, 0, none⟩) d n pre t wr (RInts.of_own hrow (by omega))
        obtain ⟨bc, hbc⟩ : ∃ bc, (pre.any fun y => y == t) = bc := ⟨_, rfl⟩
        have HBC := Lib.hid hbc
        rw [hbc] at hcI
        have HC := Lib.hid hcI
        have HROW := Lib.hid hrow
        have clb := HINV.out.it.lb
        have hsz := HINV.out.it.sz
        clear hcI hbc hrow
        cases bc
        · go_wp2_with fail
          refine (HC.out).mono ?_
          rintro e w1 ⟨rfl, hb1⟩
          have c2' := (hb1.cell (p := ⟨a + 2, 0, none⟩) (by simp; omega)).trans c2
          have f2' := (hb1.frozen (p := ⟨a + 2, 0, none⟩) (by simp; omega)).trans f2
          have hrow1 := (own_below HROW.out hb1).alloc (.cells #[.int .i64 t] 3)
          have hbw1 := hb1.size
          have HI1 : Hid (Iter a bx l n c (some ⟨b, off, none⟩) list pre (w1.alloc (.cells #[.int .i64 t] 3))) := HINV.out.it.below ((hb1.trans ((Below.refl wr.heap.size w1).alloc hbw1 _)))
          have HJ1 : Hid (∀ W, ItStep a (w1.alloc (.cells #[.int .i64 t] 3)) W → J acc1 W) := fun W hW => HP.out.abide _ _ _ HINV.out.j ((ItStep.of_below (hb1.trans ((Below.refl wr.heap.size w1).alloc hbw1 _))).trans hW)
          have HAB : Hid (∀ ad, some (⟨b, off, none⟩ : Addr) = some ad → ad.block < a) := fun ad h => by injection h with h; subst h; exact hbA
          go_wp2_with (at_builtin; refine wpList_append_fits _ rfl (.tmp 25) (.tmp 27) 40 rfl a 3 (info_parts intInfo).choose 1 Try.underlying40 (info_parts intInfo).choose_spec.1 (info_parts intInfo).choose_spec.2.2.1 (a + 1) d n (intCells pre) rfl hrow1 ⟨w1.heap.size, 0, none⟩ 1 1 [.int .i64 t] rfl rfl (cell_one_new _ _ _) (by simp [Value.oneCell']) (by omega) ?_; intro w3 hown3 hg3; have hpl := put_len HLEN.out HI1.out hg3 hbx HAB.out hown3; have c2w := hpl.1; have f2w := hpl.2.1; have c3w := hpl.2.2.2; have HI4 := Lib.hid hpl.2.2.1; have HJ4 := Lib.hid (HJ1.out _ (put_step (u := .slice (some ⟨a + 1, 0, none⟩) (d + 1) n) hg3)); clear hpl hown3 hg3)
          have hlen4 : (pre ++ [t]).length + m = n := by simp [HLEN.out]; omega
          refine (HIH.out (pre ++ [t]) acc1 _ HI4.out HJ4.out hlen4 (by have := HPX.out; rw [HN.out, HBC.out] at this; simpa using this)).mono ?_
          rintro e w5 ⟨rfl, hI5, hJ5⟩
          obtain ⟨_, c25, f25, _⟩ := hI5.cells
          have hl5 : (pre ++ [t]).length = d + 1 := by simp [HLEN.out]
          rw [hl5] at c25
          have s1 : IntKind.i64.wrap (((d + 1 : Nat) : Int) - 1) = (d : Int) := by rw [IntWalk.i64_in _ (by omega)]; omega
          have HI5 := Lib.hid hI5
          have HJ5 := Lib.hid hJ5
          clear hI5 hJ5 c2w f2w c3w
          go_wp2_with fail
          go_roundw
          case rel => exact ⟨k + 1, by omega, by go_num, by
            rw [HST.out, HN.out, HBC.out, if_neg (by simp)]
            refine ⟨?_, HP.out.abide _ _ _ HJ5.out (ItStep.set _ _ (by simp))⟩
            have hr := HI5.out.row
            rw [hl5] at hr
            have h6 := HI5.out.put (pre' := pre) (World.grownBy.refl _ _) hbx HAB.out (by rw [HLEN.out]; exact own_less (xs := pre) hr HLEN.out)
            rw [HLEN.out] at h6
            exact h6⟩
          case measure => simp [intOf]; omega
        · go_wp2_with fail
          refine (HC.out).mono ?_
          rintro e w1 ⟨rfl, hb1⟩
          go_wp2_with fail
          go_roundw
          case rel => exact ⟨k + 1, by omega, by go_num, by
            rw [HST.out, HN.out, HBC.out, if_pos rfl, List.append_nil]
            exact ⟨HINV.out.it.below hb1, HP.out.abide _ _ _ HINV.out.j (ItStep.of_below hb1)⟩⟩
          case measure => simp [intOf]; omega
      · obtain rfl : k = n := by omega
        go_wp2_with fail
        go_ret
        have e : list.take k = list := List.take_of_length_le (by have := HL.out; omega)
        have hi := HINV.out
        rw [e] at hi
        exact ⟨rfl, hi.it, hi.j⟩
end Go.Proofs.Ytkbclcgdkbhgdaa
namespace Go.Proofs.Ytkbclcgdkbhgdaa
open Go.RowKit Go.BigFrame
set_option linter.unusedVariables false

/-- What lies while the pairs are found. -/
structure GrInv (w : World) (bm : Nat) (C : Option Addr) (m : Nat) (L : List OpV) (R : List Nat) (N : Nat) (wr : World) : Prop where
  below : Below w.heap.size w wr
  map : ∃ D, wr.ownsMap Try.prog 95 (plainElem (H := Unit) Try.prog 4) bm N D ∧ MapIs D R
  list : ROps wr C m L
theorem ownsMap_block {w w' : World} {b n : Nat} {D : DataW Unit} (h : w.ownsMap Try.prog 95 (plainElem (H := Unit) Try.prog 4) b n D) (hk : w'.heap[b]? = w.heap[b]?) : w'.ownsMap Try.prog 95 (plainElem (H := Unit) Try.prog 4) b n D := by
  obtain ⟨es, clock, hb, F, hs, hD⟩ := h
  exact ⟨es, clock, hk.trans hb, F, hs, hD⟩
theorem GrInv.lt {w : World} {bm : Nat} {C : Option Addr} {m : Nat} {L : List OpV} {R : List Nat} {N : Nat} {wr : World} (h : GrInv w bm C m L R N wr) : bm < wr.heap.size := by
  obtain ⟨D, h1, _⟩ := h.map
  exact h1.lt
theorem GrInv.later {w : World} {bm : Nat} {C : Option Addr} {m : Nat} {L : List OpV} {R : List Nat} {N : Nat} {wr W : World} (h : GrInv w bm C m L R N wr) (hb : Below wr.heap.size wr W) : GrInv w bm C m L R N W := by
  obtain ⟨D, h1, h2⟩ := h.map
  exact ⟨h.below.trans (hb.mono h.below.size), ⟨D, ownsMap_block h1 (hb.block bm h1.lt), h2⟩, h.list.below hb (Nat.le_refl _)⟩
theorem GrInv.more {w : World} {bm : Nat} {C : Option Addr} {m : Nat} {L : List OpV} {R : List Nat} {N N' : Nat} {wr : World} (h : GrInv w bm C m L R N wr) (hn : N ≤ N') : GrInv w bm C m L R N' wr := by
  obtain ⟨D, h1, h2⟩ := h.map
  exact ⟨h.below, ⟨D, h1.mono hn, h2⟩, h.list⟩
theorem ROps.grown_ {w w' : World} {A : Option Addr} {n b : Nat} {xs : List OpV} (h : ROps w A n xs) (hg : w.grownBy w' (some b)) (hne : ∀ ad, A = some ad → ad.block ≠ b) : ROps w' A n xs := by
  obtain ⟨h1, h2, h3⟩ := h
  refine ⟨h1, h2, fun hn => ?_⟩
  obtain ⟨c, off, hA, hlt, hc⟩ := h3 hn
  have hk : w'.heap[c]? = w.heap[c]? := hg.block c hlt (fun e => hne _ hA (by injection e))
  have hs := World.grownBy.size hg
  have ce : ∀ o : Nat, w'.cell? ⟨c, o, none⟩ = w.cell? ⟨c, o, none⟩ := fun o => World.cell?_of_block (w := w) (a := ⟨c, o, none⟩) hk
  refine ⟨c, off, hA, by omega, fun i o ho => ?_⟩
  obtain ⟨c0, c1, c2⟩ := hc i o ho
  exact ⟨(ce _).trans c0, (ce _).trans c1, (ce _).trans c2⟩

/-- While the rows are filled: those pairs that have come stand in the rows. -/
structure GrFill (w : World) (bm r g N : Nat) (R : List Nat) (left : Lit → Bool) (cnt : Nat) (wr : World) : Prop where
  below : Below w.heap.size w wr
  rng : ∃ D, wr.ranges Try.prog 95 (plainElem (H := Unit) Try.prog 4) bm r N D left cnt ∧ MapIs D R ∧ ∀ kl, left kl = true → Maps.has D kl = true
  row : ∃ O, Rows4 O ∧ RowIs wr g 3 (intCells (rowsI O) ++ []) ∧ ∀ t u : Nat, t < 4 → u < 4 → (O.getD t 0).testBit u = ((R.getD t 0).testBit u && !left (gplit t u))
  ne : r ≠ g ∧ bm ≠ g ∧ w.heap.size ≤ g ∧ w.heap.size ≤ r
theorem GrFill.later {w : World} {bm r g N : Nat} {R : List Nat} {left : Lit → Bool} {cnt : Nat} {wr W : World} (h : GrFill w bm r g N R left cnt wr) (hb : Below wr.heap.size wr W) : GrFill w bm r g N R left cnt W := by
  obtain ⟨h1, ⟨D, h2, h3⟩, ⟨O, h5, h6, h7⟩, h8⟩ := h
  exact ⟨h1.trans (hb.mono h1.size), ⟨D, h2.kept (grown_below hb (row := none)) (by simp) (by simp), h3⟩, ⟨O, h5, h6.below hb (Nat.le_refl _), h7⟩, h8⟩
theorem sameKey_gp {t u t' u' : Nat} (ht : t < 4) (hu : u < 4) (ht' : t' < 4) (hu' : u' < 4) : (gplit t' u').sameKey (gplit t u) = (decide (t' = t) && decide (u' = u)) := by
  by_cases h : t' = t ∧ u' = u
  · obtain ⟨rfl, rfl⟩ := h
    rw [WideAt.sameKey_self (gplit_key _ _)]; simp
  · rw [Maps.sameKey_ne (fun e => h ?_)]
    · have : (decide (t' = t) && decide (u' = u)) = false := by simpa using h
      exact this.symm
    · obtain ⟨h1, h2⟩ := gplit_inj (wf_small (by omega)) (wf_small (by omega)) (wf_small (by omega)) (wf_small (by omega)) e
      exact ⟨by omega, by omega⟩

theorem GrFill.step {w wi w1 V : World} {bm r g N : Nat} {R O : List Nat} {left : Lit → Bool} {cnt1 : Nat} {D : DataW Unit} {T U : Nat} (hb : Below w.heap.size w wi) (hmi : MapIs D R) (hlh : ∀ kl, left kl = true → Maps.has D kl = true)
    (h4 : Rows4 O) (hrow : RowIs wi g 3 (intCells (rowsI O) ++ [])) (hbit : ∀ t u : Nat, t < 4 → u < 4 → (O.getD t 0).testBit u = ((R.getD t 0).testBit u && !left (gplit t u)))
    (hne : r ≠ g ∧ bm ≠ g ∧ w.heap.size ≤ g ∧ w.heap.size ≤ r) (hT : T < 4) (hU : U < 4) (hR : (R.getD T 0).testBit U = true)
    (hrg1 : w1.ranges Try.prog 95 (plainElem (H := Unit) Try.prog 4) bm r N D (fun z => left z && !z.sameKey (gplit T U)) cnt1) (hg1 : wi.grownBy w1 (some r)) (hV : Below w1.heap.size w1 V) (v : Int) (hv : v = ((O.getD T 0 ||| 1 <<< U : Nat) : Int)) :
    GrFill w bm r g N R (fun z => left z && !z.sameKey (gplit T U)) cnt1 (V.setCell ⟨g, T, none⟩ (.int .i64 v)) := by
  have hlt := hrow.lt
  have hz1 := World.grownBy.size hg1
  have hz2 := hV.size
  have hrow1 : RowIs w1 g 3 (intCells (rowsI O) ++ []) := (hg1.block g hlt (by intro e; injection e with e; exact hne.1 e.symm)).trans hrow
  have hrowV := hrow1.below hV (Nat.le_refl _)
  have hs := row_setInt (v := v) (k := T) hrowV (by simp [rowsI, h4.1]; omega)
  rw [hv, ← Int.toNat_natCast U, ← rowsI_set] at hs
  have hgs : V.grownBy (V.setCell ⟨g, T, none⟩ (.int .i64 v)) (some g) := grown_set
  refine ⟨?_, ⟨D, (hrg1.kept (grown_below hV (row := none)) (by simp) (by simp)).kept hgs (by intro e; injection e with e; exact hne.2.1 e) (by intro e; injection e with e; exact hne.1 e), hmi, fun kl hk => hlh kl (by simp only [Bool.and_eq_true] at hk; exact hk.1)⟩, ⟨rowSet O T U, rowSet_ok h4 (by omega), by rw [hv]; exact hs, fun t u ht hu => ?_⟩, hne⟩
  · have h1 : Below w.heap.size w w1 := hb.grown hg1 hb.size (fun k e => by cases e; exact hne.2.2.2)
    exact (h1.trans (hV.mono h1.size)).setCell (by simpa using hne.2.2.1) _
  · rw [rowSet_bit h4 (by omega), hbit t u ht hu, sameKey_gp hT hU ht hu]
    by_cases e : t = T ∧ u = U
    · obtain ⟨rfl, rfl⟩ := e
      rw [hR]; simp
    · have : (decide (t = T) && decide (u = U)) = false := by simpa using e
      rw [this]; simp

set_option maxRecDepth 100000 in
set_option maxHeartbeats 4000000 in
theorem graphOf_any (A : Option Addr) (n c : Nat) (s : List OpV) (w : World) (hx : ROps w A n s) (hv : validS s = true) :
    Calls Try.prog 78 #[.slice A n c] w (RetInts w (rowsI (grI (committed s)))) := by
  have hn := hx.2.1
  have hl := hx.1
  have hmm := @run_makeMap Try.prog
  obtain ⟨i0, hi, hz0, hz1, hz2⟩ := info_parts intInfo
  have HX := Lib.hid hx
  have HV := Lib.hid hv
  have hb0 : Below w.heap.size w (w.alloc (.map #[] 0)) := (Below.refl _ w).alloc (Nat.le_refl _) _
  have HM0 : Hid ((w.alloc (.map #[] 0)).ownsMap Try.prog 95 (plainElem (H := Unit) Try.prog 4) w.heap.size 0 (.map [])) := World.ownsMap_made w _ _ _
  have HC := Lib.hid (committedOf_any A n c s (w.alloc (.map #[] 0)) (hx.below hb0 (Nat.le_refl _)))
  have HB0 := Lib.hid hb0
  clear hx hv hb0
  go_enter Try.func78, Try.ntmps78
  go_wp2_with fail
  refine HC.out.mono ?_
  rintro e w1 ⟨C, cc, rfl, hcc, hfr, hb1⟩
  clear hmm
  obtain ⟨L, hL⟩ : ∃ L, committed s = L := ⟨_, rfl⟩
  have hCb : ∀ ad, C = some ad → ad.block ≠ w.heap.size := fun ad had => by
    obtain ⟨b, cur, e, h1, _, _⟩ := hfr.2 ad had
    simp at h1
    rw [e]; simp only; omega
  have hR3 : ∀ o ∈ L, 0 ≤ o.tx ∧ o.tx ≤ 3 := fun o ho => by
    rw [← hL] at ho
    exact validS_tx3 HV.out (List.mem_filter.1 ho).1
  have h16 : L.length ≤ 16 := by
    rw [← hL]
    refine Nat.le_trans (List.length_filter_le _ _) ?_
    have := HV.out
    unfold validS at this
    simp only [Bool.and_eq_true, decide_eq_true_eq] at this
    exact this.1
  have HST : Hid (GrInv w w.heap.size C L.length L (grTo L 0) 0 w1) := by
    refine ⟨HB0.out.trans (hb1.mono HB0.out.size), ⟨_, ownsMap_block HM0.out (hb1.block w.heap.size (by simp)), MapIs.empty⟩, ?_⟩
    rw [← hL]; exact hfr.1
  have HCB := Lib.hid hCb
  have HR3 := Lib.hid hR3
  have HGI : Hid (grI (committed s) = grTo L L.length) := by show _ = _; rw [hL]; rfl
  rw [hL] at hcc ⊢
  obtain ⟨m, hm⟩ : ∃ m, L.length = m := ⟨_, rfl⟩
  rw [hm] at HST HGI hcc h16 ⊢
  have HLEN := Lib.hid hm
  clear hfr hb1 hCb hR3 hL HC HM0 hm
  go_wp2_with fail
  go_loopw [16] (fun i wr => ∃ k : Nat, k ≤ m ∧ i = .int .i64 k ∧ GrInv w w.heap.size C m L (grTo L k) (16 * k) wr) (fun i _ => m - (intOf i).toNat)
  case atStart => exact ⟨0, Nat.zero_le _, rfl, HST.out⟩
  case round =>
    clear HST
    obtain ⟨wo, rfl⟩ : ∃ wo : World, wo = wr := ⟨_, rfl⟩
    obtain ⟨k, hk, rfl, hinv⟩ := hrel
    have HINV := Lib.hid hinv
    by_cases hlt : k < m
    · obtain ⟨b, off, a, hCe, hbl, ho, c0, c1, c2⟩ := HINV.out.list.at_ hlt
      subst hCe
      have har := HR3.out a (List.mem_of_getElem? ho)
      have HGS := Lib.hid (grTo_succ ho)
      obtain ⟨at_, ak, ai⟩ := a
      simp only at c0 c1 c2 har
      obtain ⟨M, hM⟩ : ∃ M : Nat, M = m - (k + 1) := ⟨_, rfl⟩
      have hMi : (m : Int) - ((k : Int) + 1) = (M : Int) := by omega
      have hjw : IntKind.i64.wrap ((k : Int) + 1) = (k : Int) + 1 := IntWalk.i64_in _ (by omega)
      have hjt : ((k : Int) + 1).toNat = k + 1 := by omega
      have HHO := Lib.hid ho
      have HHM := Lib.hid hM
      clear hinv ho hM
      by_cases hkc : k + 1 = cc
      · obtain rfl : m = k + 1 := by omega
        subst hkc
        have hfin : ∀ W, Below wo.heap.size wo W → GrInv w w.heap.size (some ⟨b, off, none⟩) (k + 1) L (grTo L (k + 1)) (16 * (k + 1)) W := fun W hW => by
          rw [HGS.out, HLEN.out, Nat.sub_self, grRow_zero]
          exact (HINV.out.later hW).more (by omega)
        have HN := Lib.hid hfin
        clear hfin
        go_wp2_with fail
        have hba : Below wo.heap.size wo (wo.alloc (.cells #[.int .i64 at_, .int .i64 ak, .int .i64 ai] 32)) := (Below.refl _ _).alloc (Nat.le_refl _) _
        go_loopw [26] (fun i wr2 => i = .int .i64 0 ∧ Below wo.heap.size wo wr2) (fun _ _ => 0)
        case atStart => exact ⟨rfl, hba⟩
        case round =>
          obtain ⟨rfl, hb2⟩ := hrel
          go_wp2_with fail
          go_roundw
          case rel => exact ⟨k + 1, by omega, by go_num, HN.out _ hb2⟩
          case measure => simp [intOf] <;> omega
      · have hjc2 : ¬ ((k : Int) + 1 = (cc : Int)) := by omega
        have hjc3 : ¬ (cc ≤ k + 1) := by omega
        have hjm : k + 1 ≤ m := by omega
        go_wp2_with fail
        have hwas : (wo.alloc (.cells #[.int .i64 at_, .int .i64 ak, .int .i64 ai] 32)).heap.size = wo.heap.size + 1 := by simp
        have hbox : ∀ i v, (#[Value.int .i64 at_, .int .i64 ak, .int .i64 ai] : Array Value)[i]? = some v → (wo.alloc (.cells #[.int .i64 at_, .int .i64 ak, .int .i64 ai] 32)).cell? ⟨wo.heap.size, i, none⟩ = some v := fun i v h => box_at _ _ _ _ _ h
        have hlt0 := HINV.out.lt
        have HW1 : Hid (GrInv w w.heap.size (some ⟨b, off, none⟩) m L (grTo L k) (16 * k) (wo.alloc (.cells #[.int .i64 at_, .int .i64 ak, .int .i64 ai] 32))) := HINV.out.later ((Below.refl _ _).alloc (Nat.le_refl _) _)
        obtain ⟨wa, hwa⟩ : ∃ wa, wo.alloc (.cells #[.int .i64 at_, .int .i64 ak, .int .i64 ai] 32) = wa := ⟨_, rfl⟩
        rw [hwa] at hwas hbox HW1 ⊢
        have a0 := hbox 0 _ rfl
        have a1 := hbox 1 _ rfl
        have a2 := hbox 2 _ rfl
        clear hbox hwa c0 c1 c2
        go_loopw [26] (fun i wr2 => ∃ q : Nat, q ≤ m - (k + 1) ∧ i = .int .i64 q ∧ wa.grownBy wr2 (some w.heap.size) ∧ GrInv w w.heap.size (some ⟨b, off, none⟩) m L (grRow L k ⟨at_, ak, ai⟩ (grTo L k) q) (16 * k + q) wr2) (fun i _ => m - (k + 1) - (intOf i).toNat)
        case atStart => exact ⟨0, Nat.zero_le _, rfl, World.grownBy.refl _ _, HW1.out⟩
        case round =>
          clear HW1
          obtain ⟨wi, rfl⟩ : ∃ wi : World, wi = wr := ⟨_, rfl⟩
          obtain ⟨q, hq, rfl, hgr, hinv2⟩ := hrel
          have HI2 := Lib.hid hinv2
          have HGR := Lib.hid hgr
          by_cases hlq : q < m - (k + 1)
          · obtain ⟨b', off', p, hCe, hbl2, hp, d0, d1, d2⟩ := hinv2.list.at_ (k := k + 1 + q) (by omega)
            injection hCe with hCe
            injection hCe with q1 q2 _
            subst q1; subst q2
            have hpr := HR3.out p (List.mem_of_getElem? hp)
            have HGR2 := Lib.hid (grRow_succ (a := ⟨at_, ak, ai⟩) (rows := grTo L k) hp)
            obtain ⟨pt, pk, pit⟩ := p
            simp only at d0 d1 d2 hpr
            have eo : off + (k + 1 + q) * 3 = off + (k + 1) * 3 + q * 3 := by omega
            rw [eo] at d0 d1 d2
            have e0 := (cell_grown hgr (p := ⟨wo.heap.size, 0, none⟩) (by simp; omega) (by simp; omega)).trans a0
            have e1 := (cell_grown hgr (p := ⟨wo.heap.size, 1, none⟩) (by simp; omega) (by simp; omega)).trans a1
            have e2 := (cell_grown hgr (p := ⟨wo.heap.size, 2, none⟩) (by simp; omega) (by simp; omega)).trans a2
            have hbI := hinv2.lt
            obtain ⟨wb, hwb⟩ : ∃ wb, wi.alloc (.cells #[.int .i64 pt, .int .i64 pk, .int .i64 pit] 32) = wb := ⟨_, rfl⟩
            have hbb : Below wi.heap.size wi wb := by rw [← hwb]; exact (Below.refl _ _).alloc (Nat.le_refl _) _
            have hb0x : ∀ i v, (#[Value.int .i64 pt, .int .i64 pk, .int .i64 pit] : Array Value)[i]? = some v → wb.cell? ⟨wi.heap.size, i, none⟩ = some v := fun i v h => by rw [← hwb]; exact box_at _ _ _ _ _ h
            have hwbs : wb.heap.size = wi.heap.size + 1 := by rw [← hwb]; simp
            have p0 := hb0x 0 _ rfl
            have p1 := hb0x 1 _ rfl
            have p2 := hb0x 2 _ rfl
            have hwoi : wo.heap.size < wi.heap.size := by have := World.grownBy.size hgr; omega
            have f0 := (hbb.cell (p := ⟨wo.heap.size, 0, none⟩) hwoi).trans e0
            have f1 := (hbb.cell (p := ⟨wo.heap.size, 1, none⟩) hwoi).trans e1
            have f2 := (hbb.cell (p := ⟨wo.heap.size, 2, none⟩) hwoi).trans e2
            obtain ⟨cb, hcb⟩ : ∃ cb, confB ⟨at_, ak, ai⟩ ⟨pt, pk, pit⟩ = cb := ⟨_, rfl⟩
            have hcf : Calls Try.prog 88 #[.agg #[.int .i64 at_, .int .i64 ak, .int .i64 ai], .agg #[.int .i64 pt, .int .i64 pk, .int .i64 pit]] wb fun e w' => e = .returned (.bool cb) ∧ Below wb.heap.size wb w' := by
              have := conflicts_any ⟨at_, ak, ai⟩ ⟨pt, pk, pit⟩ wb; rw [hcb] at this; exact this
            have HCF := Lib.hid hcf
            have hst : grRow L k ⟨at_, ak, ai⟩ (grTo L k) (q + 1) = if cb then rowSet (grRow L k ⟨at_, ak, ai⟩ (grTo L k) q) at_ pt else grRow L k ⟨at_, ak, ai⟩ (grTo L k) q := by
              rw [HGR2.out]; unfold grStep; rw [hcb]
            have HST := Lib.hid hst
            have HOK : Hid (Rows4 (grRow L k ⟨at_, ak, ai⟩ (grTo L k) q)) := grRow_ok HR3.out (grTo_ok HR3.out k) q
            have HWB := Lib.hid hwb
            have HBB := Lib.hid hbb
            clear hinv2 hgr hp hb0x hcb hcf hst HGR2 hwb eo
            have lq : (q : Int) < ((m - (k + 1) : Nat) : Int) := by omega
            go_wp2_with fail
            rw [HWB.out]
            clear d0 d1 d2 e0 e1 e2
            refine HCF.out.mono ?_
            rintro e w3 ⟨rfl, hb3⟩
            have hb03 : Below wi.heap.size wi w3 := HBB.out.trans (hb3.mono HBB.out.size)
            have HI3 := Lib.hid (HI2.out.later hb03)
            have HG3 : Hid (wa.grownBy w3 (some w.heap.size)) := HGR.out.trans (grown_below hb03)
            cases cb
            · clear f0 f1 f2 p0 p1 p2
              go_wp2_with fail
              go_roundw
              case rel => exact ⟨q + 1, by omega, by go_num, HG3.out, by rw [HST.out, if_neg (by simp)]; exact HI3.out.more (by omega)⟩
              case measure => simp [intOf]; omega
            · have g0 := (hb3.cell (p := ⟨wo.heap.size, 0, none⟩) (by simp; omega)).trans f0
              have g1 := (hb3.cell (p := ⟨wi.heap.size, 0, none⟩) (by simp; omega)).trans p0
              obtain ⟨D3, hown3, hmi3⟩ := HI3.out.map
              clear f0 f1 f2 p0 p1 p2
              go_wp2_with (at_mapUpdate; refine wpList_mapUpdate_own _ rfl _ _ _ 93 rfl 95 4 gpkeyed Try.underlying93 (plainElem (H := Unit) Try.prog 4) w.heap.size (16 * k + q) D3 rfl hown3 (by unfold maxLen; omega) _ _ (gplit at_ pt) rfl rfl (gpkey (wf_small har) (wf_small hpr)) (.lit (.bool true)) [] (plainElem_bool Try.underlying4 true) ?_; intro w4 hown4 hg4)
              have hn : GrInv w w.heap.size (some ⟨b, off, none⟩) m L (grRow L k ⟨at_, ak, ai⟩ (grTo L k) (q + 1)) (16 * k + (q + 1)) w4 := by
                refine ⟨HI3.out.below.grown hg4 HI3.out.below.size (fun k e => by cases e; exact Nat.le_refl _), ⟨_, hown4, ?_⟩, HI3.out.list.grown_ hg4 HCB.out⟩
                rw [HST.out, if_pos (by trivial)]
                exact hmi3.put HOK.out har hpr _
              have HN := Lib.hid hn
              have HG4 := Lib.hid (HG3.out.trans hg4)
              clear hn hown3 hmi3 hown4 hg4 g0 g1
              go_wp2_with fail
              go_roundw
              case rel => exact ⟨q + 1, by omega, by go_num, HG4.out, HN.out⟩
              case measure => simp [intOf]; omega
          · have hfin : GrInv w w.heap.size (some ⟨b, off, none⟩) m L (grTo L (k + 1)) (16 * (k + 1)) wi := by
              rw [HGS.out, HLEN.out]
              have : q = m - (k + 1) := by omega
              subst this
              exact HI2.out.more (by omega)
            have HN := Lib.hid hfin
            clear hfin hinv2 hgr
            go_wp2_with fail
            go_roundw
            case rel => exact ⟨k + 1, by omega, by go_num, HN.out⟩
            case measure => simp [intOf]; omega
    · obtain rfl : k = m := by omega
      obtain ⟨D, hown, hmi⟩ := HINV.out.map
      have HMI := Lib.hid hmi
      have hbs := HINV.out.below.size
      have hlt0 := HINV.out.lt
      go_wp2_with (first | (at_make; refine wpList_make_full _ rfl _ _ 40 rfl wo.heap.size 3 i0 _ 1 Try.underlying40 hi hz0 hz1 .i64 .i64 _ _ 4 rfl rfl rfl rfl (by rw [hz2]; omega) (by unfold maxLen; omega) (Nat.le_refl _) ?_; intro w2 hown2 hg2) | (at_range; refine wpList_range_own _ rfl _ 93 rfl 95 4 gpkeyed Try.underlying93 (plainElem (H := Unit) Try.prog 4) w.heap.size (16 * k) D rfl (ownsMap_block hown (hg2.block w.heap.size hlt0 (by simp))) ?_; intro w0 hrg0 hg0 hs0))
      have hbw2 : Below wo.heap.size wo w2 := ⟨hg2.os, hg2.tape, hg2.output, hg2.size, fun k hk => hg2.block k hk (by simp)⟩
      have hrow : RowIs w2 wo.heap.size 3 (intCells (rowsI [0, 0, 0, 0]) ++ []) := by
        rcases hown2.2 with ⟨h1, _⟩ | ⟨g, cap, cur, h1, h2, h3, h4, h5, h6, h7⟩
        · cases h1
        · injection h1 with ha hb hc
          injection ha with ha
          injection ha with ha
          subst ha; subst hc
          unfold RowIs
          rw [h3]
          congr 2
          apply Array.ext'
          rw [List.take_of_length_le (by simpa using Nat.le_of_eq h6)] at h7
          rw [h7, made_ints]
          rfl
      have hown2m := ownsMap_block hown (hbw2.block w.heap.size hlt0)
      have HROW := Lib.hid hrow
      have HB2 := Lib.hid (HINV.out.below.trans (hbw2.mono HINV.out.below.size))
      have hz2 := hbw2.size
      have hgl := hrow.lt
      clear hown2 hg2 hbw2 hrow hown HINV
      try go_frame
      have hb20 : Below w2.heap.size w2 w0 := ⟨hg0.os, hg0.tape, hg0.output, hg0.size, fun k hk => hg0.block k hk (by simp)⟩
      have HST : Hid (GrFill w w.heap.size w2.heap.size wo.heap.size (16 * k) (grTo L k) (Maps.has D) (Maps.size D) w0) := by
        refine ⟨HB2.out.trans (hb20.mono HB2.out.size), ⟨D, hrg0, HMI.out, fun _ h => h⟩, ⟨[0, 0, 0, 0], zero4, HROW.out.below hb20 (Nat.le_refl _), fun t u ht hu => ?_⟩, by omega, by omega, hbs, by omega⟩
        have h1 := HMI.out.has t u (wf_small (by omega)) (wf_small (by omega))
        rw [Int.toNat_natCast, Int.toNat_natCast] at h1
        have h0 : (([0, 0, 0, 0] : List Nat).getD t 0).testBit u = false := by
          rcases (by omega : t = 0 ∨ t = 1 ∨ t = 2 ∨ t = 3) with rfl | rfl | rfl | rfl <;> simp
        rw [h0]
        cases hbt : ((grTo L k).getD t 0).testBit u
        · rfl
        · rw [h1.2 ⟨by omega, by omega, by omega, by omega, hbt⟩]; rfl
      clear hrg0 hg0 hs0 hb20 HROW HB2 HMI
      go_loopw [10] (fun _ wr' => ∃ left cnt, GrFill w w.heap.size w2.heap.size wo.heap.size (16 * k) (grTo L k) left cnt wr') (fun _ wr' => wr'.rangeLeft w.heap.size w2.heap.size)
      case atStart => exact ⟨_, _, HST.out⟩
      case round =>
        obtain ⟨left, cnt, hF⟩ := hrel
        obtain ⟨wi, rfl⟩ : ∃ z : World, z = wr := ⟨_, rfl⟩
        have HF := Lib.hid hF
        obtain ⟨hbi, ⟨D', hrg, hmi, hlh⟩, ⟨O, h4O, hrow, hbit⟩, hne⟩ := hF
        have HRG := Lib.hid hrg
        have HMI := Lib.hid hmi
        have HLH := Lib.hid hlh
        have HROW := Lib.hid hrow
        have HBIT := Lib.hid hbit
        have H4O := Lib.hid h4O
        have hok := grTo_ok HR3.out k
        have HOK := Lib.hid hok
        clear hrg hmi hlh hrow hbit h4O hok HST
        go_wp2_with (at_next; refine gpbool_next rfl _ rfl _ _ _ D' left cnt rfl HRG.out (fun hc0 hl0 => ?_) (fun t u c w1 cnt1 hwt hwu hlx hat hrg1 hlt1 hg1 hs1 hen1 => ?_))
        · have hOR : O = grTo L k := rows_ext H4O.out HOK.out fun t u ht hu => by rw [HBIT.out t u ht hu, hl0]; simp
          have hrw := HROW.out
          rw [hOR] at hrw
          have hl4 : (rowsI (grTo L k)).length = 4 := by simp [rowsI, HOK.out.1]
          have HO : Hid (RetInts w (rowsI (grI (committed s))) (.returned (.slice (some ⟨wo.heap.size, 0, none⟩) 4 4)) wi) := by
            show RetInts _ _ _ _
            rw [HGI.out]
            refine RetInts.mk hl4 (Nat.le_refl _) ⟨hrw.ints hl4 (by omega), fun ad had => ?_⟩ hbi
            injection had with had
            subst had
            exact ⟨_, _, rfl, hne.2.2.1, hrw, by simp [intCells, hl4]⟩
          clear hOR hrw hl0 HF HRG
          go_ret
          exact HO.out
        · obtain ⟨ht0, ht3, hu0, hu3, hbt⟩ := (HMI.out.has t u hwt hwu).1 (HLH.out _ hlx)
          obtain ⟨T, rfl⟩ := Int.eq_ofNat_of_zero_le ht0
          obtain ⟨U, rfl⟩ := Int.eq_ofNat_of_zero_le hu0
          rw [Int.toNat_natCast, Int.toNat_natCast] at hbt
          have hT4 : T < 4 := by omega
          have hU4 : U < 4 := by omega
          obtain ⟨V, hV⟩ : ∃ V : World, V = w1.alloc (.cells #[.int .i64 (T : Int), .int .i64 (U : Int)] 95) := ⟨_, rfl⟩
          have hbV : Below w1.heap.size w1 V := by rw [hV]; exact (Below.refl _ _).alloc (Nat.le_refl _) _
          have HSET : Hid (∀ v : Int, v = ((O.getD T 0 ||| 1 <<< U : Nat) : Int) → GrFill w w.heap.size w2.heap.size wo.heap.size (16 * k) (grTo L k) (fun z => left z && !z.sameKey (gplit T U)) cnt1 (V.drew.setCell ⟨wo.heap.size, T, none⟩ (.int .i64 v))) := fun v hv =>
            GrFill.step hbi HMI.out HLH.out H4O.out HROW.out HBIT.out hne hT4 hU4 hbt hrg1 hg1 hbV.drew v hv
          have HMS : Hid (cnt1 < cnt ∧ wi.rangeLeft w.heap.size w2.heap.size = cnt) := ⟨hlt1, HRG.out.left_eq⟩
          have v0 : V.cell? ⟨w1.heap.size, 0, none⟩ = some (.int .i64 (T : Int)) := by rw [hV]; exact box_at _ _ _ _ _ rfl
          have v1 : V.cell? ⟨w1.heap.size, 1, none⟩ = some (.int .i64 (U : Int)) := by rw [hV]; exact box_at _ _ _ _ _ rfl
          have hrowV : RowIs V wo.heap.size 3 (intCells (rowsI O) ++ []) := RowIs.below ((hg1.block wo.heap.size HROW.out.lt (by intro e; injection e with e; exact hne.1 e.symm)).trans HROW.out) hbV (Nat.le_refl _)
          have hr16 := (rowsI_at H4O.out (T := T) (by omega)).2
          have hcr : V.cell? ⟨wo.heap.size, T, none⟩ = some (.int .i64 ((O.getD T 0 : Nat) : Int)) := by
            refine hrowV.cell ?_
            rw [List.append_nil]
            exact (rowsI_at H4O.out (T := T) (by omega)).1
          have hfz := hrowV.frozen T
          generalize O.getD T 0 = x at *
          have hVV := Lib.hid hV
          have e1 : bits .or .i64 (x : Int) 1 = ((x ||| 1 : Nat) : Int) := or_nat x 1 (by omega) (by omega)
          have e2 : bits .or .i64 (x : Int) 2 = ((x ||| 2 : Nat) : Int) := or_nat x 2 (by omega) (by omega)
          have e4 : bits .or .i64 (x : Int) 4 = ((x ||| 4 : Nat) : Int) := or_nat x 4 (by omega) (by omega)
          have e8 : bits .or .i64 (x : Int) 8 = ((x ||| 8 : Nat) : Int) := or_nat x 8 (by omega) (by omega)
          have l1 : (T : Int) < 4 := by omega
          have l2 : (0 : Int) ≤ (T : Int) := by omega
          rw [hs1] at v0 v1
          obtain ⟨wd, hwd⟩ : ∃ wd : World, wd = V.drew := ⟨_, rfl⟩
          rw [← hwd] at HSET
          have hcr2 : wd.cell? ⟨wo.heap.size, T, none⟩ = some (.int .i64 (x : Int)) := by rw [hwd]; exact hcr
          have hfz2 : wd.frozen? ⟨wo.heap.size, T, none⟩ = false := by rw [hwd]; exact hfz
          clear hrg1 hg1 hlx hat hV hbV hrowV hwt hwu hbt HF HRG
          rw [← hVV.out]
          rcases (by omega : U = 0 ∨ U = 1 ∨ U = 2 ∨ U = 3) with rfl | rfl | rfl | rfl
          all_goals
            refine wp_region_still_tail 10 (by kernel_rfl) (by kernel_rfl) ?_
            simp only [List.take_succ_cons, List.take_zero, List.drop_succ_cons, List.drop_zero]
            repeat (first | still_step | fail)
            refine wpStill_nil ?_
            change wpList _ _ _ _ _ V.drew
            rw [← hwd]
            go_wp2_with fail
            go_roundw
            case rel =>
              first | rw [e1] | rw [e2] | rw [e4] | rw [e8]
              have h := HSET.out _ rfl
              rw [hwd] at h
              exact ⟨_, _, h⟩
            case measure =>
              first | rw [e1] | rw [e2] | rw [e4] | rw [e8]
              have h := HSET.out _ rfl
              rw [hwd] at h
              obtain ⟨D9, hr9, _⟩ := h.rng
              have h1 := hr9.left_eq
              exact Nat.lt_of_lt_of_le (Nat.lt_of_le_of_lt (Nat.le_of_eq h1) HMS.out.1) (Nat.le_of_eq HMS.out.2.symm)
end Go.Proofs.Ytkbclcgdkbhgdaa
namespace Go.Proofs.Ytkbclcgdkbhgdaa
open Go.RowKit Go.BigFrame
set_option linter.unusedVariables false

end Go.Proofs.Ytkbclcgdkbhgdaa
namespace Go.Proofs.Ytkbclcgdkbhgdaa
open Go.RowKit Go.BigFrame
set_option linter.unusedVariables false


set_option maxRecDepth 100000 in
set_option maxHeartbeats 2000000 in
theorem StampsOf_any (A : Option Addr) (n c : Nat) (s : List OpV) (w : World) (hx : ROps w A n s) (hnc : n ≤ c) :
    Calls Try.prog 46 #[.slice A n c] w (RetInts w (orNil (validS s) (stI s))) := by
  have hn := hx.2.1
  have hl := hx.1
  have HX := Lib.hid hx
  clear hx
  obtain ⟨i0, hi, hz0, hz1, hz2⟩ := info_parts intInfo
  go_enter Try.func46, Try.ntmps46
  go_wp2_with fail
  refine (ValidSchedule_any A n c s w HX.out hnc).mono ?_
  rintro e w1 ⟨rfl, hb1⟩
  cases hv : validS s
  · have HV := Lib.hid hv
    clear hv
    go_wp2_with fail
    go_ret
    rw [HV.out]
    exact RetInts.nil hb1
  · have HV := Lib.hid hv
    clear hv
    have hsz1 := hb1.size
    go_wp2_with (at_make; refine wpList_make_own _ rfl _ _ 40 rfl w.heap.size 3 i0 _ 1 Try.underlying40 hi hz0 hz1 .i64 .i64 _ 4 rfl rfl rfl (by rw [hz2]; omega) (by unfold maxLen; omega) hsz1 ?_; intro w2 hown2 hg2)
    have hb2 : Below w.heap.size w w2 := hb1.grown hg2 hsz1 (by simp)
    have HST := Lib.hid (And.intro hown2 hb2)
    clear hown2 hg2 hi hz0 hz1 hz2 hb1 hb2
    go_loopw [3, 12] (fun ov i wr => ∃ (k m : Nat), k ≤ n ∧ m ≤ k ∧ i = .int .i64 k ∧ Below w.heap.size w wr ∧ wr.ownsRow w.heap.size 3 1 ov m (intCells (stTo s k))) (fun _ i _ => n - (intOf i).toNat)
    case atStart => exact ⟨0, 0, Nat.zero_le _, Nat.le_refl _, rfl, HST.out.2, HST.out.1⟩
    case round =>
      clear HST
      obtain ⟨k, m, hk, hmk, rfl, hb, hown⟩ := hrel
      obtain ⟨Ao, co, rfl, hmc⟩ := own_form2 hown
      by_cases hlt : k < n
      · obtain ⟨b, off, o, rfl, hbl, ho, c0, c1, c2⟩ := (HX.out.below hb (Nat.le_refl _)).at_ hlt
        have hs := hb.size
        have hstep := stTo_succ ho
        obtain ⟨tx, kd, it⟩ := o
        simp only at hstep c0 c1 c2
        obtain ⟨bc, hbc⟩ : ∃ bc, ((stTo s k).any fun y => y == tx) = bc := ⟨_, rfl⟩
        rw [hbc] at hstep
        have HS := Lib.hid hstep
        obtain ⟨W, hW⟩ : ∃ W : World, W = wr.alloc (.cells #[.int .i64 tx, .int .i64 kd, .int .i64 it] 32) := ⟨_, rfl⟩
        have hownW : W.ownsRow w.heap.size 3 1 (.slice Ao m co) m (intCells (stTo s k)) := by rw [hW]; exact hown.alloc _
        obtain ⟨L0, L1, L2, hbW, hWs⟩ := op_box hW
        have hC : Calls Try.prog 94 #[.slice Ao m co, .int .i64 tx] W fun e w' => e = .returned (.bool bc) ∧ Below W.heap.size W w' := by
          have := ContainsS_any Ao m co (stTo s k) tx W (RInts.of_own hownW (by omega)); rw [hbc] at this; exact this
        have HC := Lib.hid hC
        have x0 := L0 ⟨W, Below.refl _ _⟩
        simp only at x0
        have HW := Lib.hid hW
        clear ho hown hstep hbc hC hW L1 L2
        go_wp2_with fail
        rw [← HW.out]
        go_wp2_with fail
        refine HC.out.mono ?_
        rintro e w4 ⟨rfl, hb4⟩
        have hown4 := own_below hownW hb4
        have hb14 := hbW.trans (hb4.mono hbW.size)
        have hbw4 := hb.trans (hb14.mono hs)
        have hsz4 := hbw4.size
        have y0 := L0 ⟨w4, hb4⟩
        simp only at y0
        clear hb4 hb14 hownW x0 HW
        cases bc
        · go_wp2_with (at_builtin; refine app_ints (.tmp 21) (.tmp 24) (hown4.alloc _) (by simp; omega) (lit1 rfl _) (by omega) rfl rfl rfl rfl ?_; intro v5 w5 hown5 hg5 hat5)
          have hg5' := World.grownBy.trans (World.grownBy_alloc w4 _ _) hg5
          have hb5 := Below.own hbw4 hown4 (Nat.le_refl _) hg5'
          go_roundw
          case rel => exact ⟨k + 1, m + 1, by omega, by omega, by go_num, hb5, by rw [HS.out, if_neg (by simp)]; exact hown5⟩
          case measure => simp [intOf]; omega
        · go_wp2_with fail
          go_roundw
          case rel => exact ⟨k + 1, m, by omega, by omega, by go_num, hbw4, by rw [HS.out, if_pos (by first | rfl | trivial)]; exact hown4⟩
          case measure => simp [intOf]; omega
      · have e : stTo s k = stI s := by unfold stI; have : k = s.length := by omega
                                        rw [this]
        rw [e] at hown
        have HO := Lib.hid (RetInts.mk (c := m) (own_lenInts hown) (Nat.le_refl _) (FreshInts.of_own hown (Nat.le_refl _) (by omega)) hb)
        clear hown e
        go_wp2_with fail
        go_ret
        rw [HV.out]
        exact HO.out
end Go.Proofs.Ytkbclcgdkbhgdaa
namespace Go.Proofs.Ytkbclcgdkbhgdaa
open Go.RowKit Go.BigFrame
set_option linter.unusedVariables false

theorem opsOf_snoc {s : List OpV} {k : Nat} {o : OpV} {t : Int} (h : s[k]? = some o) : opsOf (s.take (k + 1)) t = opsOf (s.take k) t ++ if o.tx = t then [o] else [] := by
  unfold opsOf
  rw [take_snoc h, List.filter_append]
  by_cases e : o.tx = t <;> simp [e]
theorem hasTx_snoc {s : List OpV} {k : Nat} {o : OpV} {t : Int} (h : s[k]? = some o) : hasTx (s.take (k + 1)) t = (hasTx (s.take k) t || o.tx == t) := by
  unfold hasTx
  rw [take_snoc h, List.any_append]; simp
theorem hasTx_of_take {s : List OpV} {k : Nat} {t : Int} (h : hasTx (s.take k) t = true) : hasTx s t = true := by
  unfold hasTx at *
  rw [List.any_eq_true] at *
  obtain ⟨o, ho, e⟩ := h
  exact ⟨o, List.mem_of_mem_take ho, e⟩

set_option maxRecDepth 100000 in
set_option maxHeartbeats 1000000 in
theorem sopsOf_any (A : Option Addr) (n c : Nat) (s : List OpV) (t : Int) (w : World) (hx : ROps w A n s) :
    Calls Try.prog 131 #[.slice A n c, .int .i64 t] w (RetOps w (opsOf s t)) := by
  have hn := hx.2.1
  have hl := hx.1
  have HX := Lib.hid hx
  clear hx
  have HST : Hid ((w.alloc (.cells #[] 32)).ownsRow w.heap.size 32 3 (.slice (some ⟨w.heap.size, 0, none⟩) 0 0) 0 (opCells (opsOf (s.take 0) t))) :=
    World.ownsRow_made w #[] 0 (Nat.le_refl _) (by decide) rfl
  go_enter Try.func131, Try.ntmps131
  go_wp2_with fail
  go_loopw [5, 6] (fun ov i wr => ∃ (k m : Nat), k ≤ n ∧ m ≤ k ∧ i = .int .i64 k ∧ Below w.heap.size w wr ∧ wr.ownsRow w.heap.size 32 3 ov m (opCells (opsOf (s.take k) t))) (fun _ i _ => n - (intOf i).toNat)
  case atStart => exact ⟨0, 0, Nat.zero_le _, Nat.le_refl _, rfl, (Below.refl _ _).alloc (Nat.le_refl _) _, HST.out⟩
  case round =>
    clear HST
    obtain ⟨k, m, hk, hmk, rfl, hb, hown⟩ := hrel
    obtain ⟨Ao, co, rfl, hmc⟩ := own_form2 hown
    by_cases hlt : k < n
    · obtain ⟨b, off, o, rfl, hbl, ho, c0, c1, c2⟩ := (HX.out.below hb (Nat.le_refl _)).at_ hlt
      have hs := hb.size
      have HT := Lib.hid (opsOf_snoc (t := t) ho)
      clear ho
      obtain ⟨tx, kd, it⟩ := o
      simp only at HT c0 c1 c2
      by_cases h1 : tx = t
      · rw [if_pos h1] at HT
        subst h1
        go_wp2_with (at_builtin; refine app_ops (.tmp 21) (.tmp 26) (hown.alloc _) (by simp; omega) (ROps.lit1 _ ⟨_, _, _⟩ _) (by omega) rfl rfl rfl rfl ?_; intro v3 w3 hown3 hg3 hat3)
        have hb3 := Below.own hb hown (Nat.le_refl _) (World.grownBy.trans (World.grownBy_alloc wr _ _) hg3)
        go_wp2_with fail
        go_roundw
        case rel => exact ⟨k + 1, m + 1, by omega, by omega, by go_num, hb3, by rw [HT.out]; simpa using hown3⟩
        case measure => simp [intOf]; omega
      · rw [if_neg h1, List.append_nil] at HT
        go_wp2_with fail
        go_roundw
        case rel => exact ⟨k + 1, m, by omega, by omega, by go_num, hb, by rw [HT.out]; exact hown⟩
        case measure => simp [intOf]; omega
    · have e : s.take k = s := List.take_of_length_le (by omega)
      rw [e] at hown
      have HO := Lib.hid (RetOps.mk (c := co) (own_lenOps hown) hmc (FreshOps.of_own hown (Nat.le_refl _) (by omega)) hb)
      clear hown e
      go_wp2_with fail
      go_ret
      exact HO.out

set_option maxRecDepth 100000 in
set_option maxHeartbeats 1000000 in
theorem stxs_any (A : Option Addr) (n c : Nat) (s : List OpV) (w : World) (hx : ROps w A n s) :
    Calls Try.prog 72 #[.slice A n c] w (RetInts w (txsOf s)) := by
  have hn := hx.2.1
  have hl := hx.1
  have HX := Lib.hid hx
  clear hx
  have HST : Hid ((w.alloc (.cells #[] 3)).ownsRow w.heap.size 3 1 (.slice (some ⟨w.heap.size, 0, none⟩) 0 0) 0 (intCells (txsTo s 0))) :=
    World.ownsRow_made w #[] 0 (Nat.le_refl _) (by decide) rfl
  go_enter Try.func72, Try.ntmps72
  go_wp2_with fail
  go_loopw [3, 4] (fun ov i wr => ∃ (k m : Nat), k ≤ 4 ∧ m ≤ k ∧ i = .int .i64 k ∧ Below w.heap.size w wr ∧ wr.ownsRow w.heap.size 3 1 ov m (intCells (txsTo s k))) (fun _ i _ => 4 - (intOf i).toNat)
  case atStart => exact ⟨0, 0, Nat.zero_le _, Nat.le_refl _, rfl, (Below.refl _ _).alloc (Nat.le_refl _) _, HST.out⟩
  case round =>
    clear HST
    obtain ⟨wo, rfl⟩ : ∃ wo : World, wo = wr := ⟨_, rfl⟩
    obtain ⟨k, m, hk, hmk, rfl, hb, hown⟩ := hrel
    obtain ⟨Ao, co, rfl, hmc⟩ := own_form2 hown
    by_cases hlt : k < 4
    · have HT := Lib.hid (txsTo_succ s k)
      have hk4 : (k : Int) < 4 := by omega
      go_wp2_with fail
      go_loopw [3, 5] (fun ov' i' wr' => ∃ j : Nat, j ≤ n ∧ i' = .int .i64 j ∧ hasTx (s.take j) (k : Int) = false ∧ Hid (wo = wr' ∧ Value.slice Ao m co = ov')) (fun _ i' _ => n - (intOf i').toNat)
      case atStart => exact ⟨0, Nat.zero_le _, rfl, rfl, Lib.hid (And.intro rfl rfl)⟩
      case round =>
        obtain ⟨j, hj, rfl, hno, hw⟩ := hrel
        obtain ⟨e1, e2⟩ := hw.out
        subst e1; subst e2
        clear hw
        by_cases hlt2 : j < n
        · obtain ⟨b, off, o, rfl, hbl, ho, c0, c1, c2⟩ := (HX.out.below hb (Nat.le_refl _)).at_ hlt2
          have HS := Lib.hid (hasTx_snoc (t := (k : Int)) ho)
          rw [hno, Bool.false_or] at HS
          clear ho hno
          obtain ⟨tx, kd, it⟩ := o
          simp only at HS c0 c1 c2
          have hs := hb.size
          by_cases h1 : tx = (k : Int)
          · have ht := hasTx_of_take (t := (k : Int)) (by rw [HS.out]; simpa using h1)
            rw [ht, if_pos rfl] at HT
            clear ht HS
            go_wp2_with (at_builtin; refine app_ints (.tmp 24) (.tmp 26) (hown.alloc _) (by simp; omega) (lit1 rfl _) (by omega) rfl rfl rfl rfl ?_; intro v5 w5 hown5 hg5 hat5)
            have hb5 := Below.own hb hown (Nat.le_refl _) (World.grownBy.trans (World.grownBy_alloc wo _ _) hg5)
            go_wp2_with fail
            go_roundw
            case rel => exact ⟨k + 1, m + 1, by omega, by omega, by go_num, hb5, by rw [HT.out]; exact hown5⟩
            case measure => simp [intOf]; omega
          · have h1' : (tx == (k : Int)) = false := by simpa using h1
            rw [h1'] at HS
            go_wp2_with fail
            go_roundw
            case rel => exact ⟨j + 1, by omega, by go_num, HS.out, by first | trivial | exact Lib.hid (And.intro rfl rfl) | exact Lib.hid (And.intro rfl trivial) | simp⟩
            case measure => simp [intOf]; omega
        · have e : s.take j = s := List.take_of_length_le (by omega)
          rw [e] at hno
          rw [hno, if_neg (by simp), List.append_nil] at HT
          clear hno e
          go_wp2_with fail
          go_roundw
          case rel => exact ⟨k + 1, m, by omega, by omega, by go_num, hb, by rw [HT.out]; exact hown⟩
          case measure => simp [intOf]; omega
    · obtain rfl : k = 4 := by omega
      rw [txsTo_four] at hown
      have HO := Lib.hid (RetInts.mk (c := co) (own_lenInts hown) hmc (FreshInts.of_own hown (Nat.le_refl _) (by omega)) hb)
      clear hown
      go_wp2_with fail
      go_ret
      exact HO.out

set_option maxRecDepth 100000 in
set_option maxHeartbeats 1000000 in
theorem sserial_any (A B : Option Addr) (n c m d : Nat) (s : List OpV) (ts : List Int) (w : World) (hx : ROps w A n s) (hy : RInts w B m ts) (hn16 : n ≤ 16) (hm16 : m ≤ 16) :
    Calls Try.prog 100 #[.slice A n c, .slice B m d] w (RetOps w (serialI s ts)) := by
  have hn := hx.2.1
  have hl := hx.1
  have hml := hy.1
  have HX := Lib.hid hx
  have HY := Lib.hid hy
  clear hx hy
  have HST : Hid ((w.alloc (.cells #[] 32)).ownsRow w.heap.size 32 3 (.slice (some ⟨w.heap.size, 0, none⟩) 0 0) 0 (opCells (serialI s (ts.take 0)))) :=
    World.ownsRow_made w #[] 0 (Nat.le_refl _) (by decide) rfl
  go_enter Try.func100, Try.ntmps100
  go_wp2_with fail
  go_loopw [5, 6] (fun ov i wr => ∃ (k j : Nat), k ≤ m ∧ j ≤ k * 16 ∧ i = .int .i64 k ∧ Below w.heap.size w wr ∧ wr.ownsRow w.heap.size 32 3 ov j (opCells (serialI s (ts.take k)))) (fun _ i _ => m - (intOf i).toNat)
  case atStart => exact ⟨0, 0, Nat.zero_le _, by omega, rfl, (Below.refl _ _).alloc (Nat.le_refl _) _, HST.out⟩
  case round =>
    clear HST
    obtain ⟨k, j, hk, hj, rfl, hb, hown⟩ := hrel
    obtain ⟨Ao, co, rfl, hjc⟩ := own_form2 hown
    by_cases hlt : k < m
    · obtain ⟨b, off, t, rfl, hbl, ht, c0⟩ := (HY.out.below hb (Nat.le_refl _)).at_ hlt
      have hs := hb.size
      have HT := Lib.hid (serialI_snoc (s := s) ht)
      have HC := Lib.hid (sopsOf_any A n c s t wr (HX.out.below hb (Nat.le_refl _)))
      have hol : (opsOf s t).length ≤ n := by rw [← hl]; exact opsOf_len s t
      have HOWN := Lib.hid hown
      clear ht hown
      go_wp2_with fail
      refine HC.out.mono ?_
      rintro e w2 ⟨A', c', rfl, hc', ⟨hro, hfo⟩, hb2⟩
      have hown2 := own_below HOWN.out hb2
      clear hfo HC
      generalize opsOf s t = os at *
      have hsz2 := hb2.size
      go_wp2_with (at_builtin; refine app_ops (.tmp 14) (.tmp 20) hown2 (by omega) hro (by omega) rfl rfl rfl rfl ?_; intro v3 w3 hown3 hg3 hat3)
      have hb3 := Below.own (hb.trans (hb2.mono hs)) hown2 (Nat.le_refl _) hg3
      go_roundw
      case rel => exact ⟨k + 1, j + os.length, by omega, by omega, by go_num, hb3, by rw [HT.out]; exact hown3⟩
      case measure => simp [intOf]; omega
    · have e : ts.take k = ts := List.take_of_length_le (by omega)
      rw [e] at hown
      have HO := Lib.hid (RetOps.mk (c := co) (own_lenOps hown) hjc (FreshOps.of_own hown (Nat.le_refl _) (by omega)) hb)
      clear hown e
      go_wp2_with fail
      go_ret
      exact HO.out
end Go.Proofs.Ytkbclcgdkbhgdaa
namespace Go.Proofs.Ytkbclcgdkbhgdaa
open Go.RowKit Go.BigFrame
set_option linter.unusedVariables false


/-- From whom a read of item x at place i reads, as far as the places below k go. -/
def rfB (s : List OpV) (i : Nat) (x : Int) (q : OpV) : Bool := q.kind == 1 && q.item == x && endOf (s.take i) q.tx != 3
def rfTo (s : List OpV) (i : Nat) (x : Int) : Nat → Int
  | 0 => -1
  | k + 1 => match s[k]? with | some q => if rfB s i x q then q.tx else rfTo s i x k | none => rfTo s i x k
theorem rfTo_succ {s : List OpV} {i : Nat} {x : Int} {k : Nat} {q : OpV} (h : s[k]? = some q) : rfTo s i x (k + 1) = if rfB s i x q then q.tx else rfTo s i x k := by simp only [rfTo, h]

set_option maxRecDepth 100000 in
set_option maxHeartbeats 2000000 in
theorem readFrom_any (A : Option Addr) (n c k : Nat) (s : List OpV) (o : OpV) (w : World) (hx : ROps w A n s) (ho : s[k]? = some o) (hnc : n ≤ c) :
    Calls Try.prog 144 #[.slice A n c, .int .i64 (k : Int)] w fun e w' => e = .returned (.int .i64 (rfTo s k o.item k)) ∧ Below w.heap.size w w' := by
  have hn := hx.2.1
  have hl := hx.1
  have hk : k < n := by have := (List.getElem?_eq_some_iff.1 ho).1; omega
  have HX := Lib.hid hx
  have HO := Lib.hid ho
  clear hx ho
  have hkc : (k : Int) ≤ (c : Int) := by omega
  have hkn : (k : Int) < (n : Int) := by omega
  have hk0 : (0 : Int) ≤ (k : Int) := by omega
  go_enter Try.func144, Try.ntmps144
  go_wp2_with fail
  go_loopw [5] (fun i wr => ∃ j : Nat, j ≤ k ∧ i = .int .i64 ((j : Int) - 1) ∧ Below w.heap.size w wr ∧ rfTo s k o.item k = rfTo s k o.item j) (fun i _ => (intOf i + 1).toNat)
  case atStart => exact ⟨k, Nat.le_refl _, by go_num, Below.refl _ _, rfl⟩
  case round =>
    obtain ⟨j, hj, rfl, hb, he⟩ := hrel
    by_cases hz : 0 < j
    · obtain ⟨q, rfl⟩ : ∃ q, j = q + 1 := ⟨j - 1, by omega⟩
      have e1 : (((q + 1 : Nat) : Int) - 1) = (q : Int) := by omega
      rw [e1]
      have hxr := HX.out.below hb (Nat.le_refl _)
      obtain ⟨b, off, p, hA, hbl, hp, c0, c1, c2⟩ := hxr.at_ (k := q) (by omega)
      obtain ⟨b', off', o', hA', _, ho', d0, d1, d2⟩ := hxr.at_ hk
      subst hA
      injection hA' with hA'; injection hA' with q1 q2 _; subst q1; subst q2
      rw [HO.out] at ho'
      injection ho' with ho'
      subst ho'
      obtain ⟨E, hE⟩ : ∃ E, endOf (s.take k) p.tx = E := ⟨_, rfl⟩
      have hC : ∀ u : Later wr, Calls Try.prog 67 #[.slice (some ⟨b, off, none⟩) k c, .int .i64 p.tx] u.1 fun e w' => e = .returned (.int .i64 E) ∧ Below u.1.heap.size u.1 w' := fun u => by
        have := endOf_any (some ⟨b, off, none⟩) k c (s.take k) p.tx u.1 ((hxr.take (by omega)).later u); rw [hE] at this; exact this
      have hrs := rfTo_succ (i := k) (x := o.item) hp
      unfold rfB at hrs
      rw [hE] at hrs
      obtain ⟨ptx, pk, pit⟩ := p
      simp only at c0 c1 c2 hC hrs
      obtain ⟨b1, hb1⟩ : ∃ z, (pk == 1) = z := ⟨_, rfl⟩
      obtain ⟨b2, hb2⟩ : ∃ z, (pit == o.item) = z := ⟨_, rfl⟩
      obtain ⟨b3, hb3⟩ : ∃ z, (E != 3) = z := ⟨_, rfl⟩
      rw [hb1, hb2, hb3] at hrs
      have HC := Lib.hid hC
      have HRS := Lib.hid hrs
      have HE := Lib.hid he
      have L0 := Later.cell c0
      have L1 := Later.cell c1
      have L2 := Later.cell c2
      have M2 := Later.cell d2
      have hqn : (q : Int) < (n : Int) := by omega
      have hq0 : (0 : Int) ≤ (q : Int) := by omega
      clear hC hrs he hp c0 c1 c2 d0 d1 d2 hxr e1 hE
      cases b1
      · go_wp2_with fail
        refine region_later (by kernel_rfl) (by kernel_rfl) ?_
        repeat (go_big_quiet_step ((go_at_call 67; exact later_call _ (HC.out _))))
        refine wpQuiet_nil ?_
        rintro _ ⟨u, rfl⟩
        have hbu := hb.trans (u.2.mono hb.size)
        go_wp2_with fail
        go_roundw
        case rel => exact ⟨q, by omega, by go_num, hbu, by rw [HE.out, HRS.out]; rfl⟩
        case measure => simp [intOf] <;> omega
      · cases b2
        · go_wp2_with fail
          refine region_later (by kernel_rfl) (by kernel_rfl) ?_
          repeat (go_big_quiet_step ((go_at_call 67; exact later_call _ (HC.out _))))
          refine wpQuiet_nil ?_
          rintro _ ⟨u, rfl⟩
          have hbu := hb.trans (u.2.mono hb.size)
          go_wp2_with fail
          go_roundw
          case rel => exact ⟨q, by omega, by go_num, hbu, by rw [HE.out, HRS.out]; rfl⟩
          case measure => simp [intOf] <;> omega
        · cases b3
          · go_wp2_with fail
            refine region_later (by kernel_rfl) (by kernel_rfl) ?_
            repeat (go_big_quiet_step ((go_at_call 67; exact later_call _ (HC.out _))))
            refine wpQuiet_nil ?_
            rintro _ ⟨u, rfl⟩
            have hbu := hb.trans (u.2.mono hb.size)
            go_wp2_with fail
            go_roundw
            case rel => exact ⟨q, by omega, by go_num, hbu, by rw [HE.out, HRS.out]; rfl⟩
            case measure => simp [intOf] <;> omega
          · go_wp2_with fail
            refine region_later (by kernel_rfl) (by kernel_rfl) ?_
            repeat (go_big_quiet_step ((go_at_call 67; exact later_call _ (HC.out _))))
            refine wpQuiet_nil ?_
            rintro _ ⟨u, rfl⟩
            have hbu := hb.trans (u.2.mono hb.size)
            have l0 := L0 u
            go_wp2_with fail
            go_ret
            exact ⟨ret_int (by rw [HE.out, HRS.out]; rfl), hbu⟩
    · obtain rfl : j = 0 := by omega
      have HE := Lib.hid he
      clear he
      go_wp2_with fail
      go_ret
      exact ⟨ret_int (by rw [HE.out]; rfl), hb⟩
end Go.Proofs.Ytkbclcgdkbhgdaa
namespace Go.Proofs.Ytkbclcgdkbhgdaa
open Go.RowKit Go.BigFrame
set_option linter.unusedVariables false

def abB (s : List OpV) (t : Int) (i : Nat) : Bool := (s.take i).any fun o => o.tx == t && o.kind == 3
theorem abB_snoc {s : List OpV} {t : Int} {k : Nat} {o : OpV} (h : s[k]? = some o) : abB s t (k + 1) = (abB s t k || (o.tx == t && o.kind == 3)) := by
  unfold abB
  rw [take_snoc h, List.any_append]; simp
theorem abB_le {s : List OpV} {t : Int} {k i : Nat} (hk : k ≤ i) (h : abB s t k = true) : abB s t i = true := by
  unfold abB at *
  rw [List.any_eq_true] at *
  obtain ⟨o, ho, e⟩ := h
  refine ⟨o, ?_, e⟩
  have : s.take k = (s.take i).take k := by rw [List.take_take, Nat.min_eq_left hk]
  rw [this] at ho
  exact List.mem_of_mem_take ho

set_option maxHeartbeats 1000000 in
theorem abortedAt_any (A : Option Addr) (n c : Nat) (s : List OpV) (t : Int) (i : Nat) (w : World) (hx : ROps w A n s) (hi : i ≤ n) :
    Calls Try.prog 142 #[.slice A n c, .int .i64 t, .int .i64 (i : Int)] w fun e w' => e = .returned (.bool (abB s t i)) ∧ Below w.heap.size w w' := by
  have hn := hx.2.1
  have hl := hx.1
  have HX := Lib.hid hx
  clear hx
  go_enter Try.func142, Try.ntmps142
  go_wp2_with fail
  go_loopw [7] (fun x wr => ∃ k : Nat, k ≤ i ∧ x = .int .i64 k ∧ abB s t k = false ∧ Below w.heap.size w wr) (fun x _ => i - (intOf x).toNat)
  case atStart => exact ⟨0, Nat.zero_le _, rfl, by simp [abB], Below.refl _ _⟩
  case round =>
    obtain ⟨k, hk, rfl, hno, hb⟩ := hrel
    by_cases hlt : k < i
    · obtain ⟨b, off, o, rfl, hbl, ho, c0, c1, c2⟩ := (HX.out.below hb (Nat.le_refl _)).at_ (k := k) (by omega)
      have HS := Lib.hid (abB_snoc (t := t) ho)
      rw [hno, Bool.false_or] at HS
      have HT : Hid (abB s t (k + 1) = true → abB s t i = true) := fun h => abB_le (by omega) h
      clear hno ho
      obtain ⟨tx, kd, it⟩ := o
      simp only at HS c0 c1 c2
      have hki : (k : Int) < (i : Int) := by omega
      have hkn : (k : Int) < (n : Int) := by omega
      have L0 := Later.cell c0
      have L1 := Later.cell c1
      by_cases h1 : tx = t
      · by_cases h2 : kd = 3
        · have hs := Lib.hid (HT.out (by rw [HS.out]; simp [h1, h2]))
          subst h1
          subst h2
          go_wp2_with fail
          go_ret
          exact ⟨ret_bool hs.out.symm, hb⟩
        · have h2' : (kd == 3) = false := by simpa using h2
          rw [h2', Bool.and_false] at HS
          subst h1
          go_wp2_with fail
          go_roundw
          case rel => exact ⟨k + 1, by omega, by go_num, HS.out, hb⟩
          case measure => simp [intOf]; omega
      · have h1' : (tx == t) = false := by simpa using h1
        rw [h1', Bool.false_and] at HS
        go_wp2_with fail
        go_roundw
        case rel => exact ⟨k + 1, by omega, by go_num, HS.out, hb⟩
        case measure => simp [intOf]; omega
    · obtain rfl : k = i := by omega
      have HN := Lib.hid hno
      clear hno
      go_wp2_with fail
      go_ret
      exact ⟨ret_bool HN.out.symm, hb⟩
end Go.Proofs.Ytkbclcgdkbhgdaa
namespace Go.Proofs.Ytkbclcgdkbhgdaa
open Go.RowKit Go.BigFrame
set_option linter.unusedVariables false

def sfB (s : List OpV) (i : Nat) (x : Int) (q : OpV) : Bool := q.kind == 1 && q.item == x && !abB s q.tx i
def sfTo (s : List OpV) (i : Nat) (x : Int) : Nat → Int
  | 0 => -1
  | k + 1 => match s[k]? with | some q => if sfB s i x q then q.tx else sfTo s i x k | none => sfTo s i x k
theorem sfTo_succ {s : List OpV} {i : Nat} {x : Int} {k : Nat} {q : OpV} (h : s[k]? = some q) : sfTo s i x (k + 1) = if sfB s i x q then q.tx else sfTo s i x k := by simp only [sfTo, h]
/-- In a schedule one aborts exactly if one ends with an abort. -/
theorem abB_end {s : List OpV} (hv : validS s = true) (t : Int) (i : Nat) : abB s t i = (endOf (s.take i) t == 3) := by
  have hvt : validS (s.take i) = true := validS_sub hv (List.take_sublist i s)
  cases h : abB s t i
  · symm
    rw [beq_eq_false_iff_ne]
    intro he
    unfold endOf at he
    cases hf : (s.take i).find? (fun o => o.tx == t && isEnd o) with
    | none => rw [hf] at he; simp at he
    | some o =>
      rw [hf] at he
      have h1 := List.find?_some hf
      simp only [Bool.and_eq_true, beq_iff_eq] at h1
      unfold abB at h
      rw [List.any_eq_false] at h
      refine h o (List.mem_of_find?_eq_some hf) ?_
      simp only [Bool.and_eq_true, beq_iff_eq]
      exact ⟨h1.1, by simpa using he⟩
  · symm
    unfold abB at h
    rw [List.any_eq_true] at h
    obtain ⟨o, ho, h⟩ := h
    simp only [Bool.and_eq_true, beq_iff_eq] at h
    obtain ⟨k, hk⟩ := List.mem_iff_getElem?.1 ho
    rw [← h.1]
    have := endOf_hit (s.take i) o.tx k o hk (fun j hj q hq => by
      cases hq2 : (q.tx == o.tx && isEnd q)
      · rfl
      · simp only [Bool.and_eq_true, beq_iff_eq] at hq2
        have := validS_after hvt hq hk hq2.2 hq2.1
        omega) (by simp [isEnd, h.2])
    rw [this, h.2]; rfl
theorem sf_eq {s : List OpV} (hv : validS s = true) (i : Nat) (x : Int) (k : Nat) : sfTo s i x k = rfTo s i x k := by
  induction k with
  | zero => rfl
  | succ k ih =>
    cases e : s[k]? with
    | none => simp only [sfTo, rfTo, e]; exact ih
    | some q =>
      rw [sfTo_succ e, rfTo_succ e, ih]
      unfold sfB rfB
      rw [abB_end hv]
      rfl

set_option maxRecDepth 100000 in
set_option maxHeartbeats 2000000 in
theorem source_any (A : Option Addr) (n c k : Nat) (s : List OpV) (o : OpV) (w : World) (hx : ROps w A n s) (ho : s[k]? = some o) :
    Calls Try.prog 106 #[.slice A n c, .int .i64 (k : Int)] w fun e w' => e = .returned (.int .i64 (sfTo s k o.item k)) ∧ Below w.heap.size w w' := by
  have hn := hx.2.1
  have hl := hx.1
  have hk : k < n := by have := (List.getElem?_eq_some_iff.1 ho).1; omega
  have HX := Lib.hid hx
  have HO := Lib.hid ho
  clear hx ho
  have hkn : (k : Int) < (n : Int) := by omega
  have hk0 : (0 : Int) ≤ (k : Int) := by omega
  go_enter Try.func106, Try.ntmps106
  go_wp2_with fail
  go_loopw [5] (fun i wr => ∃ j : Nat, j ≤ k ∧ i = .int .i64 ((j : Int) - 1) ∧ Below w.heap.size w wr ∧ sfTo s k o.item k = sfTo s k o.item j) (fun i _ => (intOf i + 1).toNat)
  case atStart => exact ⟨k, Nat.le_refl _, by go_num, Below.refl _ _, rfl⟩
  case round =>
    obtain ⟨j, hj, rfl, hb, he⟩ := hrel
    by_cases hz : 0 < j
    · obtain ⟨q, rfl⟩ : ∃ q, j = q + 1 := ⟨j - 1, by omega⟩
      have e1 : (((q + 1 : Nat) : Int) - 1) = (q : Int) := by omega
      rw [e1]
      have hxr := HX.out.below hb (Nat.le_refl _)
      obtain ⟨b, off, p, hA, hbl, hp, c0, c1, c2⟩ := hxr.at_ (k := q) (by omega)
      obtain ⟨b', off', o', hA', _, ho', d0, d1, d2⟩ := hxr.at_ hk
      subst hA
      injection hA' with hA'; injection hA' with q1 q2 _; subst q1; subst q2
      rw [HO.out] at ho'
      injection ho' with ho'
      subst ho'
      obtain ⟨E, hE⟩ : ∃ E, abB s p.tx k = E := ⟨_, rfl⟩
      have hC : ∀ u : Later wr, Calls Try.prog 142 #[.slice (some ⟨b, off, none⟩) n c, .int .i64 p.tx, .int .i64 (k : Int)] u.1 fun e w' => e = .returned (.bool E) ∧ Below u.1.heap.size u.1 w' := fun u => by
        have := abortedAt_any (some ⟨b, off, none⟩) n c s p.tx k u.1 (hxr.later u) (by omega); rw [hE] at this; exact this
      have hrs := sfTo_succ (i := k) (x := o.item) hp
      unfold sfB at hrs
      rw [hE] at hrs
      obtain ⟨ptx, pk, pit⟩ := p
      simp only at c0 c1 c2 hC hrs
      obtain ⟨b1, hb1⟩ : ∃ z, (pk == 1) = z := ⟨_, rfl⟩
      obtain ⟨b2, hb2⟩ : ∃ z, (pit == o.item) = z := ⟨_, rfl⟩
      obtain ⟨b3, rfl⟩ : ∃ z, E = z := ⟨_, rfl⟩
      rw [hb1, hb2] at hrs
      have HC := Lib.hid hC
      have HRS := Lib.hid hrs
      have HE := Lib.hid he
      have L0 := Later.cell c0
      have L1 := Later.cell c1
      have L2 := Later.cell c2
      have M2 := Later.cell d2
      have hqn : (q : Int) < (n : Int) := by omega
      have hq0 : (0 : Int) ≤ (q : Int) := by omega
      clear hC hrs he hp c0 c1 c2 d0 d1 d2 hxr e1 hE
      cases b1
      · go_wp2_with fail
        refine region_later (by kernel_rfl) (by kernel_rfl) ?_
        repeat (go_big_quiet_step ((go_at_call 142; exact later_call _ (HC.out _))))
        refine wpQuiet_nil ?_
        rintro _ ⟨u, rfl⟩
        have hbu := hb.trans (u.2.mono hb.size)
        go_wp2_with fail
        go_roundw
        case rel => exact ⟨q, by omega, by go_num, hbu, by rw [HE.out, HRS.out]; rfl⟩
        case measure => simp [intOf] <;> omega
      · cases b2
        · go_wp2_with fail
          refine region_later (by kernel_rfl) (by kernel_rfl) ?_
          repeat (go_big_quiet_step ((go_at_call 142; exact later_call _ (HC.out _))))
          refine wpQuiet_nil ?_
          rintro _ ⟨u, rfl⟩
          have hbu := hb.trans (u.2.mono hb.size)
          go_wp2_with fail
          go_roundw
          case rel => exact ⟨q, by omega, by go_num, hbu, by rw [HE.out, HRS.out]; rfl⟩
          case measure => simp [intOf] <;> omega
        · cases E
          · go_wp2_with fail
            refine region_later (by kernel_rfl) (by kernel_rfl) ?_
            repeat (go_big_quiet_step ((go_at_call 142; exact later_call _ (HC.out _))))
            refine wpQuiet_nil ?_
            rintro _ ⟨u, rfl⟩
            have hbu := hb.trans (u.2.mono hb.size)
            have l0 := L0 u
            go_wp2_with fail
            go_ret
            exact ⟨ret_int (by rw [HE.out, HRS.out]; rfl), hbu⟩
          · go_wp2_with fail
            refine region_later (by kernel_rfl) (by kernel_rfl) ?_
            repeat (go_big_quiet_step ((go_at_call 142; exact later_call _ (HC.out _))))
            refine wpQuiet_nil ?_
            rintro _ ⟨u, rfl⟩
            have hbu := hb.trans (u.2.mono hb.size)
            go_wp2_with fail
            go_roundw
            case rel => exact ⟨q, by omega, by go_num, hbu, by rw [HE.out, HRS.out]; rfl⟩
            case measure => simp [intOf] <;> omega
    · obtain rfl : j = 0 := by omega
      have HE := Lib.hid he
      clear he
      go_wp2_with fail
      go_ret
      exact ⟨ret_int (by rw [HE.out]; rfl), hb⟩

set_option maxHeartbeats 1000000 in
theorem sendOf_any (A : Option Addr) (n c : Nat) (s : List OpV) (t : Int) (w : World) (hx : ROps w A n s) :
    Calls Try.prog 108 #[.slice A n c, .int .i64 t] w fun e w' => e = .returned (.int .i64 (endOf s t)) ∧ Below w.heap.size w w' := by
  have hn := hx.2.1
  have hl := hx.1
  have HX := Lib.hid hx
  clear hx
  go_enter Try.func108, Try.ntmps108
  go_wp2_with fail
  go_loopw [5] (fun x wr => ∃ k : Nat, k ≤ n ∧ x = .int .i64 k ∧ (∀ j, j < k → ∀ o, s[j]? = some o → (o.tx == t && isEnd o) = false) ∧ Below w.heap.size w wr) (fun x _ => n - (intOf x).toNat)
  case atStart => exact ⟨0, Nat.zero_le _, rfl, by omega, Below.refl _ _⟩
  case round =>
    obtain ⟨k, hk, rfl, hno, hb⟩ := hrel
    by_cases hlt : k < n
    · obtain ⟨b, off, o, rfl, hbl, ho, c0, c1, c2⟩ := (HX.out.below hb (Nat.le_refl _)).at_ hlt
      have HN : Hid ((o.tx == t && isEnd o) = false → ∀ j, j < k + 1 → ∀ o, s[j]? = some o → (o.tx == t && isEnd o) = false) := fun h => no_snoc (p := fun o => o.tx == t && isEnd o) ho hno h
      have HT : Hid ((o.tx == t && isEnd o) = true → endOf s t = o.kind) := fun h => endOf_hit s t k o ho hno h
      clear hno ho
      obtain ⟨be, hbe⟩ : ∃ be, isEnd o = be := ⟨_, rfl⟩
      have hC : ∀ W : World, Calls Try.prog 105 #[o.val] W fun e w' => e = .returned (.bool be) ∧ Below W.heap.size W w' := fun W => by
        have := sends_any o W; rw [hbe] at this; exact this
      rw [hbe] at HN HT
      clear hbe
      obtain ⟨tx, kd, it⟩ := o
      unfold OpV.val at hC
      have HC := Lib.hid hC
      clear hC
      simp only at HN HT c0 c1 c2
      have L1 := Later.cell c1
      have hs := hb.size
      by_cases h1 : tx = t
      · subst h1
        rw [beq_self_eq_true, Bool.true_and] at HN HT
        go_wp2_with fail
        refine (HC.out _).mono ?_
        rintro e w2 ⟨rfl, hb2⟩
        have hbw := hb.trans (hb2.mono hs)
        have l1 := L1 ⟨w2, hb2⟩
        simp only at l1
        clear hb2
        cases be
        · have hz := Lib.hid (HN.out (by first | rfl | trivial))
          go_wp2_with fail
          go_roundw
          case rel => exact ⟨k + 1, by omega, by go_num, hz.out, hbw⟩
          case measure => simp [intOf]; omega
        · have hz := Lib.hid (HT.out (by first | rfl | trivial))
          go_wp2_with fail
          go_ret
          exact ⟨ret_int (by rw [hz.out]), hbw⟩
      · have h1' : (tx == t) = false := by simpa using h1
        have hz := Lib.hid (HN.out (by rw [h1']; rfl))
        go_wp2_with fail
        go_roundw
        case rel => exact ⟨k + 1, by omega, by go_num, hz.out, hb⟩
        case measure => simp [intOf]; omega
    · have hz : Hid (endOf s t = -1) := endOf_none s t (fun j hj => hno j (by omega))
      clear hno
      go_wp2_with fail
      go_ret
      exact ⟨ret_int (by rw [hz.out]), hb⟩
end Go.Proofs.Ytkbclcgdkbhgdaa
namespace Go.Proofs.Ytkbclcgdkbhgdaa
open Go.RowKit Go.BigFrame
set_option linter.unusedVariables false

def sconfB (a b : OpV) : Bool := a.tx != b.tx && !isEnd a && !isEnd b && a.item == b.item && (a.kind == 1 || b.kind == 1)
theorem acc_end {o : OpV} (h : validOp o = true) : (!isEnd o) = isAcc o := by
  unfold validOp at h
  simp only [Bool.and_eq_true, Bool.or_eq_true] at h
  unfold isEnd isAcc at *
  rcases h.2 with ⟨h1, _⟩ | ⟨h1, _⟩
  · simp only [Bool.or_eq_true, beq_iff_eq] at h1
    rcases h1 with h1 | h1 <;> rw [h1] <;> rfl
  · simp only [Bool.or_eq_true, beq_iff_eq] at h1
    rcases h1 with h1 | h1 <;> rw [h1] <;> rfl
theorem sconf_eq {a b : OpV} (ha : validOp a = true) (hb : validOp b = true) : sconfB a b = confB a b := by
  unfold sconfB confB
  rw [acc_end ha, acc_end hb]

set_option maxRecDepth 100000 in
set_option maxHeartbeats 2000000 in
theorem sconflict_any (a b : OpV) (w : World) :
    Calls Try.prog 90 #[a.val, b.val] w fun e w' => e = .returned (.bool (sconfB a b)) ∧ Below w.heap.size w w' := by
  obtain ⟨at_, ak, ai⟩ := a
  obtain ⟨bt, bk, bi⟩ := b
  obtain ⟨r1, h1⟩ : ∃ z, (at_ != bt) = z := ⟨_, rfl⟩
  obtain ⟨r2, h2⟩ : ∃ z, isEnd ⟨at_, ak, ai⟩ = z := ⟨_, rfl⟩
  obtain ⟨r3, h3⟩ : ∃ z, isEnd ⟨bt, bk, bi⟩ = z := ⟨_, rfl⟩
  obtain ⟨r4, h4⟩ : ∃ z, (ai == bi) = z := ⟨_, rfl⟩
  obtain ⟨r5, h5⟩ : ∃ z, (ak == 1) = z := ⟨_, rfl⟩
  obtain ⟨r6, h6⟩ : ∃ z, (bk == 1) = z := ⟨_, rfl⟩
  have HR : Hid (sconfB ⟨at_, ak, ai⟩ ⟨bt, bk, bi⟩ = (r1 && !r2 && !r3 && r4 && (r5 || r6))) := by
    show _ = _
    unfold sconfB
    simp only
    rw [h1, h2, h3, h4, h5, h6]
  have hA : ∀ W : World, Calls Try.prog 105 #[.agg #[.int .i64 at_, .int .i64 ak, .int .i64 ai]] W fun e w' => e = .returned (.bool r2) ∧ Below W.heap.size W w' := fun W => by
    have := sends_any ⟨at_, ak, ai⟩ W; rw [h2] at this; exact this
  have hB : ∀ W : World, Calls Try.prog 105 #[.agg #[.int .i64 bt, .int .i64 bk, .int .i64 bi]] W fun e w' => e = .returned (.bool r3) ∧ Below W.heap.size W w' := fun W => by
    have := sends_any ⟨bt, bk, bi⟩ W; rw [h3] at this; exact this
  have HA := Lib.hid hA
  have HB := Lib.hid hB
  obtain ⟨W, hW⟩ : ∃ W : World, W = (w.alloc (.cells #[.int .i64 at_, .int .i64 ak, .int .i64 ai] 32)).alloc (.cells #[.int .i64 bt, .int .i64 bk, .int .i64 bi] 32) := ⟨_, rfl⟩
  obtain ⟨W1, hW1⟩ : ∃ W : World, W = w.alloc (.cells #[.int .i64 at_, .int .i64 ak, .int .i64 ai] 32) := ⟨_, rfl⟩
  obtain ⟨L0, L1, L2, hbW1, hs1⟩ := op_box hW1
  rw [← hW1] at hW
  obtain ⟨M0, M1, M2, hbW, hs2⟩ := op_box hW
  have hsz : W1.heap.size = w.heap.size + 1 := by rw [hW1]; simp
  rw [hsz] at M0 M1 M2
  have hbb := hbW1.trans (hbW.mono hbW1.size)
  have l0 : ∀ u : Later W, u.1.cell? ⟨w.heap.size, 0, none⟩ = some (.int .i64 at_) := fun u => L0 ⟨u.1, hbW.trans (u.2.mono hbW.size)⟩
  have l1 : ∀ u : Later W, u.1.cell? ⟨w.heap.size, 1, none⟩ = some (.int .i64 ak) := fun u => L1 ⟨u.1, hbW.trans (u.2.mono hbW.size)⟩
  have l2 : ∀ u : Later W, u.1.cell? ⟨w.heap.size, 2, none⟩ = some (.int .i64 ai) := fun u => L2 ⟨u.1, hbW.trans (u.2.mono hbW.size)⟩
  have HW : Hid ((w.alloc (.cells #[.int .i64 at_, .int .i64 ak, .int .i64 ai] 32)).alloc (.cells #[.int .i64 bt, .int .i64 bk, .int .i64 bi] 32) = W) := by show _ = _; rw [hW, hW1]
  unfold OpV.val
  clear hA hB hW hW1 L0 L1 L2 h2 h3
  cases r1
  · go_enter Try.func90, Try.ntmps90
    go_wp2_with fail
    go_ret
    rw [HW.out]
    exact ⟨ret_bool (by rw [HR.out]; rfl), hbb⟩
  · go_enter Try.func90, Try.ntmps90
    go_wp2_with fail
    rw [HW.out]
    refine (HA.out W).mono ?_
    rintro e w1 ⟨rfl, hb1⟩
    have x0 := l0 ⟨w1, hb1⟩
    have x2 := l2 ⟨w1, hb1⟩
    have x1 := l1 ⟨w1, hb1⟩
    have y0 := M0 ⟨w1, hb1⟩
    have y1 := M1 ⟨w1, hb1⟩
    have y2 := M2 ⟨w1, hb1⟩
    simp only at x0 x1 x2 y0 y1 y2
    have hbw1 := hbb.trans (hb1.mono hbb.size)
    cases r2
    · go_wp2_with fail
      refine (HB.out w1).mono ?_
      rintro e w2 ⟨rfl, hb2⟩
      have hbW2 := hb1.trans (hb2.mono hb1.size)
      have z1 := l1 ⟨w2, hbW2⟩
      have z2 := l2 ⟨w2, hbW2⟩
      have v1 := M1 ⟨w2, hbW2⟩
      have v2 := M2 ⟨w2, hbW2⟩
      simp only at z1 z2 v1 v2
      have hbw2 := hbb.trans (hbW2.mono hbb.size)
      clear x0 x1 x2 y0 y1 y2 HA HB
      cases r3
      · cases r4
        · go_wp2_with fail
          go_ret
          exact ⟨ret_bool (by rw [HR.out]; rfl), hbw2⟩
        · cases r5
          · cases r6
            · go_wp2_with fail
              go_ret
              exact ⟨ret_bool (by rw [HR.out]; rfl), hbw2⟩
            · go_wp2_with fail
              go_ret
              exact ⟨ret_bool (by rw [HR.out]; rfl), hbw2⟩
          · go_wp2_with fail
            go_ret
            exact ⟨ret_bool (by rw [HR.out]; rfl), hbw2⟩
      · go_wp2_with fail
        go_ret
        exact ⟨ret_bool (by rw [HR.out]; rfl), hbw2⟩
    · go_wp2_with fail
      go_ret
      exact ⟨ret_bool (by rw [HR.out]; rfl), hbw1⟩

theorem committedTo_snoc {s : List OpV} {k : Nat} {o : OpV} (h : s[k]? = some o) : (s.take (k + 1)).filter (fun o => endOf s o.tx == 2) = (s.take k).filter (fun o => endOf s o.tx == 2) ++ if endOf s o.tx = 2 then [o] else [] := by
  rw [take_snoc h, List.filter_append]
  by_cases e : endOf s o.tx = 2 <;> simp [e]
set_option maxRecDepth 100000 in
set_option maxHeartbeats 1000000 in
theorem scommitted_any (A : Option Addr) (n c : Nat) (s : List OpV) (w : World) (hx : ROps w A n s) :
    Calls Try.prog 58 #[.slice A n c] w (RetOps w (committed s)) := by
  have hn := hx.2.1
  have hl := hx.1
  have HX := Lib.hid hx
  clear hx
  have HST : Hid ((w.alloc (.cells #[] 32)).ownsRow w.heap.size 32 3 (.slice (some ⟨w.heap.size, 0, none⟩) 0 0) 0 (opCells ((s.take 0).filter (fun o => endOf s o.tx == 2)))) :=
    World.ownsRow_made w #[] 0 (Nat.le_refl _) (by decide) rfl
  go_enter Try.func58, Try.ntmps58
  go_wp2_with fail
  go_loopw [3, 4] (fun ov i wr => ∃ (k m : Nat), k ≤ n ∧ m ≤ k ∧ i = .int .i64 k ∧ Below w.heap.size w wr ∧ wr.ownsRow w.heap.size 32 3 ov m (opCells ((s.take k).filter (fun o => endOf s o.tx == 2)))) (fun _ i _ => n - (intOf i).toNat)
  case atStart => exact ⟨0, 0, Nat.zero_le _, Nat.le_refl _, rfl, (Below.refl _ _).alloc (Nat.le_refl _) _, HST.out⟩
  case round =>
    clear HST
    obtain ⟨k, m, hk, hmk, rfl, hb, hown⟩ := hrel
    obtain ⟨Ao, co, rfl, hmc⟩ := own_form2 hown
    by_cases hlt : k < n
    · have hxr := HX.out.below hb (Nat.le_refl _)
      obtain ⟨b, off, o, rfl, hbl, ho, c0, c1, c2⟩ := hxr.at_ hlt
      have hs := hb.size
      have HT := Lib.hid (committedTo_snoc ho)
      have hE := sendOf_any (some ⟨b, off, none⟩) n c s o.tx wr hxr
      obtain ⟨E, hEE⟩ : ∃ E, endOf s o.tx = E := ⟨_, rfl⟩
      rw [hEE] at hE HT
      have HE := Lib.hid hE
      have HOWN := Lib.hid hown
      clear ho hE hEE hxr hown
      obtain ⟨tx, kd, it⟩ := o
      simp only at HT c0 c1 c2 HE
      have L0 := Later.cell c0
      have L1 := Later.cell c1
      have L2 := Later.cell c2
      have hki : (k : Int) < (n : Int) := by omega
      go_wp2_with fail
      refine HE.out.mono ?_
      rintro e w2 ⟨rfl, hb2⟩
      have hown2 := own_below HOWN.out hb2
      have hbw2 := hb.trans (hb2.mono hs)
      have x0 := L0 ⟨w2, hb2⟩
      have x1 := L1 ⟨w2, hb2⟩
      have x2 := L2 ⟨w2, hb2⟩
      simp only at x0 x1 x2
      have hs2 := hbw2.size
      by_cases h1 : E = 2
      · rw [if_pos h1] at HT
        subst h1
        go_wp2_with (at_builtin; refine app_ops (.tmp 20) (.tmp 25) (hown2.alloc _) (by simp; omega) (ROps.lit1 _ ⟨_, _, _⟩ _) (by omega) rfl rfl rfl rfl ?_; intro v3 w3 hown3 hg3 hat3)
        have hb3 := Below.own hbw2 hown2 (Nat.le_refl _) (World.grownBy.trans (World.grownBy_alloc w2 _ _) hg3)
        go_wp2_with fail
        go_roundw
        case rel => exact ⟨k + 1, m + 1, by omega, by omega, by go_num, hb3, by rw [HT.out]; simpa using hown3⟩
        case measure => simp [intOf]; omega
      · rw [if_neg h1, List.append_nil] at HT
        go_wp2_with fail
        go_roundw
        case rel => exact ⟨k + 1, m, by omega, by omega, by go_num, hbw2, by rw [HT.out]; exact hown2⟩
        case measure => simp [intOf]; omega
    · have e : s.take k = s := List.take_of_length_le (by omega)
      rw [e] at hown
      have HO : Hid (RetOps w (committed s) (.returned (.slice Ao m co)) wr) := RetOps.mk (c := co) (own_lenOps hown) hmc (FreshOps.of_own hown (Nat.le_refl _) (by omega)) hb
      clear hown e
      go_wp2_with fail
      go_ret
      exact HO.out
end Go.Proofs.Ytkbclcgdkbhgdaa
namespace Go.Proofs.Ytkbclcgdkbhgdaa
open Go.RowKit Go.BigFrame
set_option linter.unusedVariables false

structure SgInv (w : World) (g : Nat) (rows : List Nat) (wr : World) : Prop where
  below : Below w.heap.size w wr
  row : RowIs wr g 3 (intCells (rowsI rows) ++ [])
theorem SgInv.later {w wr W : World} {g : Nat} {rows : List Nat} (h : SgInv w g rows wr) (hb : Below wr.heap.size wr W) : SgInv w g rows W :=
  ⟨h.below.trans (hb.mono h.below.size), h.row.below hb (Nat.le_refl _)⟩
theorem SgInv.drew {w wr : World} {g : Nat} {rows : List Nat} (h : SgInv w g rows wr) : SgInv w g rows wr.drew := ⟨h.below.drew, h.row⟩
theorem SgInv.set {w wr : World} {g : Nat} {rows : List Nat} {T : Nat} {u : Int} (h : SgInv w g rows wr) (hge : w.heap.size ≤ g) (hT : T ≤ 3) (h4 : Rows4 rows) {v : Int}
    (hv : v = ((rows.getD T 0 ||| (1 <<< u.toNat) : Nat) : Int)) : SgInv w g (rowSet rows T u) (wr.setCell ⟨g, T, none⟩ (.int .i64 v)) := by
  subst hv
  refine ⟨h.below.setCell (by simpa using hge) _, ?_⟩
  rw [rowsI_set]
  exact row_setInt h.row (by simp [rowsI, h4.1]; omega)
theorem SgInv.at_ {w wr : World} {g : Nat} {rows : List Nat} (h : SgInv w g rows wr) (h4 : Rows4 rows) {T : Nat} (hT : T ≤ 3) : wr.cell? ⟨g, T, none⟩ = some (.int .i64 ((rows.getD T 0 : Nat) : Int)) ∧ wr.frozen? ⟨g, T, none⟩ = false ∧ rows.getD T 0 < 16 := by
  obtain ⟨h1, h2⟩ := rowsI_at h4 hT
  refine ⟨h.row.cell ?_, h.row.frozen T, h2⟩
  rw [List.append_nil]
  exact h1

set_option maxRecDepth 100000 in
set_option maxHeartbeats 4000000 in
theorem sgraph_any (A : Option Addr) (n c : Nat) (s : List OpV) (w : World) (hx : ROps w A n s) (hv : ∀ o ∈ s, validOp o = true) :
    Calls Try.prog 73 #[.slice A n c] w (RetInts w (rowsI (grI s))) := by
  have hn := hx.2.1
  have hl := hx.1
  obtain ⟨i0, hi, hz0, hz1, hz2⟩ := info_parts intInfo
  have HX := Lib.hid hx
  have HV := Lib.hid hv
  have htx3 : ∀ o ∈ s, 0 ≤ o.tx ∧ o.tx ≤ 3 := fun o ho => by
    have := hv o ho
    simp [validOp, inR] at this
    omega
  have HR3 := Lib.hid htx3
  have HGI : Hid (grI s = grTo s n) := by show _ = _; unfold grI; rw [hl]
  clear hx hv htx3
  go_enter Try.func73, Try.ntmps73
  go_wp2_with (at_make; refine wpList_make_full _ rfl _ _ 40 rfl w.heap.size 3 i0 _ 1 Try.underlying40 hi hz0 hz1 .i64 .i64 _ _ 4 rfl rfl rfl rfl (by rw [hz2]; omega) (by unfold maxLen; omega) (Nat.le_refl _) ?_; intro w1 hown1 hg1)
  have hb1 : Below w.heap.size w w1 := ⟨hg1.os, hg1.tape, hg1.output, hg1.size, fun k hk => hg1.block k hk (by simp)⟩
  have hrow : RowIs w1 w.heap.size 3 (intCells (rowsI [0, 0, 0, 0]) ++ []) := by
    rcases hown1.2 with ⟨h1, _⟩ | ⟨g, cap, cur, h1, h2, h3, h4, h5, h6, h7⟩
    · cases h1
    · injection h1 with ha hb hc
      injection ha with ha
      injection ha with ha
      subst ha; subst hc
      unfold RowIs
      rw [h3]
      congr 2
      apply Array.ext'
      rw [List.take_of_length_le (by simpa using Nat.le_of_eq h6)] at h7
      rw [h7, made_ints]
      rfl
  have HST : Hid (SgInv w w.heap.size (grTo s 0) w1) := ⟨hb1, hrow⟩
  clear hown1 hb1 hg1 hrow hi hz0 hz1 hz2
  go_loopw [4] (fun i wr => ∃ k : Nat, k ≤ n ∧ i = .int .i64 k ∧ SgInv w w.heap.size (grTo s k) wr) (fun i _ => n - (intOf i).toNat)
  case atStart => exact ⟨0, Nat.zero_le _, rfl, HST.out⟩
  case round =>
    clear HST
    obtain ⟨wo, rfl⟩ : ∃ wo : World, wo = wr := ⟨_, rfl⟩
    obtain ⟨k, hk, rfl, hI⟩ := hrel
    have HI := Lib.hid hI
    by_cases hlt : k < n
    · have hxo := HX.out.below hI.below (Nat.le_refl _)
      obtain ⟨b, off, a, hA, hbl, ha, c0, c1, c2⟩ := hxo.at_ hlt
      subst hA
      have hatx := HR3.out a (List.mem_of_getElem? ha)
      have hav := HV.out a (List.mem_of_getElem? ha)
      have HGS := Lib.hid (grTo_succ ha)
      have hokK := grTo_ok HR3.out k
      have HOK := Lib.hid hokK
      generalize hRR : grTo s k = RO at *
      have HRR := Lib.hid hRR
      have HAV := Lib.hid hav
      have HXO := Lib.hid hxo
      have hki : (k : Int) < (n : Int) := by omega
      have hk0 : (0 : Int) ≤ (k : Int) := by omega
      have HA := Lib.hid ha
      clear hI ha hokK hRR hav hxo c0 c1 c2
      obtain ⟨atx, ak, ai⟩ := a
      simp only at hatx
      obtain ⟨T, rfl⟩ := Int.eq_ofNat_of_zero_le hatx.1
      have hT3 : T ≤ 3 := by omega
      go_wp2_with fail
      go_loopw [5] (fun i wr => ∃ q : Nat, k + 1 + q ≤ n ∧ i = .int .i64 ((k + 1 + q : Nat) : Int) ∧ SgInv w w.heap.size (grRow s k ⟨(T : Int), ak, ai⟩ RO q) wr) (fun i _ => n - (intOf i).toNat)
      case atStart => exact ⟨0, by omega, by go_num, HI.out⟩
      case round =>
        clear HI
        obtain ⟨wi, rfl⟩ : ∃ wi : World, wi = wr := ⟨_, rfl⟩
        obtain ⟨q, hq, rfl, hJ⟩ := hrel
        have HJ := Lib.hid hJ
        have hJb := hJ.below
        obtain ⟨K, hK⟩ : ∃ K : Nat, k + 1 + q = K := ⟨_, rfl⟩
        by_cases hltk : k + 1 + q < n
        · have hxi := HX.out.below hJb (Nat.le_refl _)
          obtain ⟨b1, off1, a1, hA1, hbl1, ha1, c0, c1, c2⟩ := hxi.at_ hlt
          injection hA1 with hA1; injection hA1 with q1 q2 _; subst q1; subst q2
          rw [HA.out] at ha1
          injection ha1 with ha1
          subst ha1
          obtain ⟨b2, off2, p, hA2, hbl2, hp, d0, d1, d2⟩ := hxi.at_ hltk
          injection hA2 with hA2; injection hA2 with q1 q2 _; subst q1; subst q2
          have hptx := HR3.out p (List.mem_of_getElem? hp)
          have hpv := HV.out p (List.mem_of_getElem? hp)
          have hsn := grRow_succ (a := ⟨(T : Int), ak, ai⟩) (rows := RO) hp
          have hok2 : Rows4 (grRow s k ⟨(T : Int), ak, ai⟩ RO q) := grRow_ok HR3.out HOK.out q
          obtain ⟨ptx, pk, pi⟩ := p
          simp only at hptx d0 d1 d2 c0 c1 c2
          obtain ⟨U, rfl⟩ := Int.eq_ofNat_of_zero_le hptx.1
          have hU3 : U ≤ 3 := by omega
          obtain ⟨cb, hcb⟩ : ∃ cb, confB ⟨(T : Int), ak, ai⟩ ⟨(U : Int), pk, pi⟩ = cb := ⟨_, rfl⟩
          have hcf : ∀ u : Later wi, Calls Try.prog 90 #[.agg #[.int .i64 (T : Int), .int .i64 ak, .int .i64 ai], .agg #[.int .i64 (U : Int), .int .i64 pk, .int .i64 pi]] u.1 fun e w' => e = .returned (.bool cb) ∧ Below u.1.heap.size u.1 w' := fun u => by
            have := sconflict_any ⟨(T : Int), ak, ai⟩ ⟨(U : Int), pk, pi⟩ u.1; rw [sconf_eq HAV.out hpv, hcb] at this; exact this
          unfold grStep at hsn
          rw [hcb] at hsn
          have HSN := Lib.hid hsn
          have HOK2 := Lib.hid hok2
          have HCF := Lib.hid hcf
          rw [hK] at d0 d1 d2 hltk ⊢
          have L0 := Later.cell c0
          have L1 := Later.cell c1
          have L2 := Later.cell c2
          have M0 := Later.cell d0
          have M1 := Later.cell d1
          have M2 := Later.cell d2
          have hKi : (K : Int) < (n : Int) := by omega
          have hK0 : (0 : Int) ≤ (K : Int) := by omega
          have HKK := Lib.hid hK
          clear hcf hcb hsn hok2 hp hxi hJ hpv d0 d1 d2 c0 c1 c2 hK
          go_wp2_with fail
          refine region_later (by kernel_rfl) (by kernel_rfl) ?_
          repeat (go_big_quiet_step ((go_at_call 90; exact later_call _ (HCF.out _))))
          refine wpQuiet_nil ?_
          rintro _ ⟨u, rfl⟩
          have HJU := Lib.hid (HJ.out.later u.2)
          cases cb
          · have hn2 : Hid (SgInv w w.heap.size (grRow s k ⟨(T : Int), ak, ai⟩ RO (q + 1)) u.1) := by show SgInv _ _ _ _; rw [HSN.out]; exact HJU.out
            clear HSN HCF
            go_wp2_with fail
            go_roundw
            case rel => exact ⟨q + 1, by have := HKK.out; omega, by have := HKK.out; go_num, hn2.out⟩
            case measure => have := HKK.out; simp [intOf]; omega
          · obtain ⟨hcr, hfz, hr16⟩ := HJU.out.at_ HOK2.out hT3
            have n0 := L0 u
            have m0 := M0 u
            obtain ⟨uj, huj⟩ : ∃ uj : World, u.1 = uj := ⟨_, rfl⟩
            rw [huj] at HJU hcr hfz n0 m0
            rw [huj]
            obtain ⟨r, hr⟩ : ∃ r, (grRow s k ⟨(T : Int), ak, ai⟩ RO q).getD T 0 = r := ⟨_, rfl⟩
            obtain ⟨wd, hwd⟩ : ∃ wd : World, wd = uj.drew := ⟨_, rfl⟩
            have hP2 : (2 ^ U : Nat) < 16 := by
              rcases (by omega : U = 0 ∨ U = 1 ∨ U = 2 ∨ U = 3) with e | e | e | e <;> rw [e] <;> decide
            have HSET : Hid (∀ v : Int, v = ((r ||| 2 ^ U : Nat) : Int) → SgInv w w.heap.size (grRow s k ⟨(T : Int), ak, ai⟩ RO (q + 1)) (wd.setCell ⟨w.heap.size, T, none⟩ (.int .i64 v))) := by
              intro v hv
              rw [HSN.out, if_pos rfl, hwd]
              exact HJU.out.drew.set (Nat.le_refl _) hT3 HOK2.out (by rw [hr, hv, Int.toNat_natCast, Nat.one_shiftLeft])
            rw [hr] at hcr hr16
            have hor := or_nat r (2 ^ U) (by omega) (by omega)
            have hPW : ∀ W : World, Calls Try.prog 82 #[.int .i64 (U : Int)] W fun e w' => e = .returned (.int .i64 ((2 ^ U : Nat) : Int)) ∧ w' = W := fun W => (spower_any U W (by omega)).mono fun e w' h => ⟨h.1, h.2.symm⟩
            generalize hPP : 2 ^ U = p2 at *
            have HPW := Lib.hid hPW
            have hT4 : (T : Int) < 4 := by omega
            have hT0 : (0 : Int) ≤ (T : Int) := by omega
            have hcr2 : wd.cell? ⟨w.heap.size, T, none⟩ = some (.int .i64 (r : Int)) := by rw [hwd]; exact hcr
            have hfz2 : wd.frozen? ⟨w.heap.size, T, none⟩ = false := by rw [hwd]; exact hfz
            have HHS := Lib.hid hP2
            clear hr huj HCF L0 L1 L2 M0 M1 M2 HSN hPP hPW hP2
            go_wp2_with fail
            refine wp_region_still_tail 22 (by kernel_rfl) (by kernel_rfl) ?_
            simp only [List.take_succ_cons, List.take_zero, List.drop_succ_cons, List.drop_zero]
            repeat (first | still_step | still_call (HPW.out _))
            refine wpStill_nil ?_
            change wpList _ _ _ _ _ uj.drew
            rw [← hwd]
            go_wp2_with fail
            go_roundw
            case rel => exact ⟨q + 1, by have := HKK.out; omega, by have := HKK.out; go_num, by first | exact HSET.out _ rfl | (have h := HSET.out _ rfl; rw [hwd] at h; exact h)⟩
            case measure => have := HKK.out; simp [intOf]; omega
        · have hfin : Hid (SgInv w w.heap.size (grTo s (k + 1)) wi) := by
            show SgInv _ _ _ _
            rw [HGS.out]
            have : s.length - (k + 1) = q := by omega
            rw [this]
            exact HJ.out
          rw [hK] at hltk ⊢
          have hKi : ¬ (K : Int) < (n : Int) := by omega
          have HKK := Lib.hid hK
          clear hJ hK
          go_wp2_with fail
          go_roundw
          case rel => exact ⟨k + 1, by omega, by go_num, hfin.out⟩
          case measure => simp [intOf]; omega
    · obtain rfl : k = n := by omega
      have hok := grTo_ok HR3.out k
      have hl4 : (rowsI (grTo s k)).length = 4 := by simp [rowsI, hok.1]
      have HO : Hid (RetInts w (rowsI (grI s)) (.returned (.slice (some ⟨w.heap.size, 0, none⟩) 4 4)) wo) := by
        show RetInts _ _ _ _
        rw [HGI.out]
        refine RetInts.mk hl4 (Nat.le_refl _) ⟨hI.row.ints hl4 (by omega), fun ad had => ?_⟩ hI.below
        injection had with had
        subst had
        exact ⟨_, _, rfl, Nat.le_refl _, hI.row, by simp [intCells, hl4]⟩
      clear hI hok
      go_wp2_with fail
      go_ret
      exact HO.out
end Go.Proofs.Ytkbclcgdkbhgdaa
namespace Go.Proofs.Ytkbclcgdkbhgdaa
open Go.RowKit Go.BigFrame Go.Shelf
set_option linter.unusedVariables false

attribute [local go_sem] Oper.semAt_some

theorem run_mkInts (n : Nat) (hn : n ≤ 1000000) (w : World) : ∃ cs : Array Value, cs.size = n ∧
    (Instr.makeSlice 40 (.int .i64 0) (.int .i64 (n : Int))).run Try.prog w = .ok (.slice (some ⟨w.heap.size, 0, none⟩) 0 n) (w.alloc (.cells cs 3)) := by
  obtain ⟨i0, hi, hz0, hz1, hz2⟩ := info_parts intInfo
  have := run_makeSlice (P := Try.prog) (w := w) 40 3 i0 _ Try.underlying40 hi hz0 .i64 .i64 0 (n : Int) (Int.le_refl _) (by omega) (by rw [hz1]; omega) (by rw [hz2]; omega) (by omega)
  simp only [Int.toNat_zero, Int.toNat_natCast, hz1] at this
  exact ⟨_, by rw [size_madeCells]; omega, this⟩

set_option maxHeartbeats 1000000 in
/-- 'permutations(list)': a closure over the list's box. -/
theorem permutations_any (A : Option Addr) (n c : Nat) (w : World) :
    Calls Try.prog 96 #[.slice A n c] w fun e w' => e = .returned (.func (.func 134) #[] #[.pointer (some ⟨w.heap.size, 0, none⟩)]) ∧ w' = w.alloc (.cells #[.slice A n c] 40) := by
  go_enter Try.func96, Try.ntmps96
  go_wp2_with fail
  go_ret
  exact ⟨rfl, rfl⟩

/-- What lies where the recursion begins. -/
theorem iter_start {bx l n c : Nat} {A : Option Addr} {list : List Int} {W : World} {cs : Array Value} (hcs : cs.size = n) (hb : W.cell? ⟨bx, 0, none⟩ = some (.slice A n c)) (hl : RInts W A n list) (hn : n ≤ 4) :
    Iter W.heap.size bx l n c A list [] ((((W.alloc (.cells #[.func (.yield l) #[] #[]] 102)).alloc (.cells cs 3)).alloc (.cells #[.slice (some ⟨W.heap.size + 1, 0, none⟩) 0 n] 40)).alloc (.cells #[.func (.func 135) #[] #[.pointer (some ⟨W.heap.size + 2, 0, none⟩), .pointer (some ⟨bx, 0, none⟩), .pointer (some ⟨W.heap.size, 0, none⟩), .pointer (some ⟨W.heap.size + 3, 0, none⟩)]] 57)) := by
  obtain ⟨W1, h1⟩ : ∃ W1, W.alloc (.cells #[.func (.yield l) #[] #[]] 102) = W1 := ⟨_, rfl⟩
  obtain ⟨W2, h2⟩ : ∃ W2, W1.alloc (.cells cs 3) = W2 := ⟨_, rfl⟩
  obtain ⟨W3, h3⟩ : ∃ W3, W2.alloc (.cells #[.slice (some ⟨W.heap.size + 1, 0, none⟩) 0 n] 40) = W3 := ⟨_, rfl⟩
  obtain ⟨W4, h4⟩ : ∃ W4, W3.alloc (.cells #[.func (.func 135) #[] #[.pointer (some ⟨W.heap.size + 2, 0, none⟩), .pointer (some ⟨bx, 0, none⟩), .pointer (some ⟨W.heap.size, 0, none⟩), .pointer (some ⟨W.heap.size + 3, 0, none⟩)]] 57) = W4 := ⟨_, rfl⟩
  rw [h1, h2, h3, h4]
  have s1 : W1.heap.size = W.heap.size + 1 := by rw [← h1]; simp
  have s2 : W2.heap.size = W.heap.size + 2 := by rw [← h2]; simp; omega
  have s3 : W3.heap.size = W.heap.size + 3 := by rw [← h3]; simp; omega
  have b4 : Below W3.heap.size W3 W4 := by rw [← h4]; exact (Below.refl _ _).alloc (Nat.le_refl _) _
  have b3 : Below W2.heap.size W2 W4 := by
    refine Below.trans ?_ (b4.mono (by omega))
    rw [← h3]; exact (Below.refl _ _).alloc (Nat.le_refl _) _
  have b2 : Below W1.heap.size W1 W4 := by
    refine Below.trans ?_ (b3.mono (by omega))
    rw [← h2]; exact (Below.refl _ _).alloc (Nat.le_refl _) _
  have b1 : Below W.heap.size W W4 := by
    refine Below.trans ?_ (b2.mono (by omega))
    rw [← h1]; exact (Below.refl _ _).alloc (Nat.le_refl _) _
  have k1 : W1.heap[W.heap.size]? = some (.cells #[.func (.yield l) #[] #[]] 102 (0, 0)) := by rw [← h1]; exact heap_alloc_new W _
  have k2 : W2.ownsRow W.heap.size 3 1 (.slice (some ⟨W.heap.size + 1, 0, none⟩) 0 n) 0 (intCells []) := by
    have := World.ownsRow_made (base := W.heap.size) (e := 3) (size := 1) W1 cs n (by omega) (by unfold maxLen; omega) (by omega)
    rw [s1, h2] at this
    exact this
  have k3 : W3.heap[W.heap.size + 2]? = some (.cells #[.slice (some ⟨W.heap.size + 1, 0, none⟩) 0 n] 40 (0, 0)) := by
    have := heap_alloc_new W2 (.cells #[.slice (some ⟨W.heap.size + 1, 0, none⟩) 0 n] 40)
    rw [h3, s2] at this; exact this
  have k4 := heap_alloc_new W3 (.cells #[.func (.func 135) #[] #[.pointer (some ⟨W.heap.size + 2, 0, none⟩), .pointer (some ⟨bx, 0, none⟩), .pointer (some ⟨W.heap.size, 0, none⟩), .pointer (some ⟨W.heap.size + 3, 0, none⟩)]] 57)
  rw [h4, s3] at k4
  exact ⟨(b2.block _ (by omega)).trans k1, own_below k2 b3, (b4.block _ (by omega)).trans k3, k4, (b1.cell (p := ⟨bx, 0, none⟩) (block_lt_of_cell hb)).trans hb, hl.below b1 (Nat.le_refl _)⟩

set_option maxRecDepth 100000 in
set_option maxHeartbeats 2000000 in
/-- The closure, called with what takes the orders: all of them come, in order. -/
theorem perms_any (bx n0 l n c : Nat) (A : Option Addr) (list : List Int) (J : List (List Int) → World → Prop) (W : World) (hP : PermCtx W.heap.size bx n0 l n list J)
    (hb : W.cell? ⟨bx, 0, none⟩ = some (.slice A n c)) (hl : RInts W A n list) (hA : ∀ ad, A = some ad → ad.block < n0) (hn0 : n0 ≤ W.heap.size) (hn4 : n ≤ 4) (h0 : J [] W) :
    Calls Try.prog 134 #[.func (.yield l) #[] #[], .pointer (some ⟨bx, 0, none⟩)] W fun e W' => (∃ v, e = .returned v) ∧ J (permF list n []) W' := by
  obtain ⟨cs, hcs, hmk⟩ := run_mkInts n (by omega) (W.alloc (.cells #[.func (.yield l) #[] #[]] 102))
  have hbx : bx < W.heap.size := by have := block_lt_of_cell hb; simpa using this
  have HX := Lib.hid (And.intro hl (And.intro h0 hP))
  have HA := Lib.hid hA
  have HCS := Lib.hid hcs
  clear hl h0 hP hA hcs
  go_enter Try.func134, Try.ntmps134
  go_wp2_with fail
  refine (from_any W.heap.size bx n0 l n c A list J HX.out.2.2 hbx HA.out hn0 n [] [] _ (iter_start HCS.out hb HX.out.1 hn4) (HX.out.2.2.abide _ _ _ HX.out.2.1 ?hst) (by simp) (by simp)).mono ?_
  case hst => exact ItStep.of_below ((((Below.refl _ W).alloc (Nat.le_refl _) _).alloc (by simp) _).alloc (by simp; omega) _ |>.alloc (by simp; omega) _)
  rintro e w5 ⟨rfl, _, hJ5⟩
  have HJ5 := Lib.hid hJ5
  clear hJ5
  go_wp2_with fail
  go_end0
  exact ⟨⟨_, rfl⟩, by have := HJ5.out; simpa using this⟩
end Go.Proofs.Ytkbclcgdkbhgdaa
namespace Go.Proofs.Ytkbclcgdkbhgdaa
open Go.RowKit Go.BigFrame Go.Shelf
set_option linter.unusedVariables false

/-- Six blocks more: what is made behind them is made since. -/
def six (w : World) : World := (((((w.alloc (.cells #[] 3)).alloc (.cells #[] 3)).alloc (.cells #[] 3)).alloc (.cells #[] 3)).alloc (.cells #[] 3)).alloc (.cells #[] 3)
theorem six_size (w : World) : (six w).heap.size = w.heap.size + 6 := by simp [six]

/-- A step of the loop's statement and of the iterator, as the body's own things see it. -/
structure LpStep (b : Nat) (V W : World) : Prop where
  os : W.os = V.os
  tape : W.tape = V.tape
  output : W.output = V.output
  size : V.heap.size ≤ W.heap.size
  block : ∀ k, k < V.heap.size → ¬ (b ≤ k ∧ k < b + 6) → W.heap[k]? = V.heap[k]?
theorem LpStep.refl (b : Nat) (V : World) : LpStep b V V := ⟨rfl, rfl, rfl, Nat.le_refl _, fun _ _ _ => rfl⟩
theorem LpStep.trans {b : Nat} {U V W : World} (h : LpStep b U V) (k : LpStep b V W) : LpStep b U W :=
  ⟨k.os.trans h.os, k.tape.trans h.tape, k.output.trans h.output, Nat.le_trans h.size k.size, fun i hi hn => (k.block i (Nat.lt_of_lt_of_le hi h.size) hn).trans (h.block i hi hn)⟩
theorem LpStep.of_below {b : Nat} {V W : World} (h : Below V.heap.size V W) : LpStep b V W := ⟨h.os, h.tape, h.output, h.size, fun k hk _ => h.block k hk⟩
theorem LpStep.of_it {b : Nat} {V W : World} (h : ItStep (b + 2) V W) : LpStep b V W := ⟨h.os, h.tape, h.output, h.size, fun k hk hn => h.block k hk (fun e => hn (by omega))⟩
theorem LpStep.put {b : Nat} (V : World) {l : Nat} (o : Obj) (hl : b ≤ l ∧ l < b + 6) : LpStep b V (V.putObj l o) :=
  ⟨rfl, rfl, rfl, by simp, fun k hk hn => World.putObj_heap_other (by rintro rfl; exact hn hl)⟩
/-- What a round's body keeps. -/
structure BdKeep (b bx n0 : Nat) (V W : World) : Prop where
  size : V.heap.size ≤ W.heap.size
  block : ∀ k, k < V.heap.size → (k < n0 ∨ k = bx ∨ (b ≤ k ∧ k < b + 6)) → W.heap[k]? = V.heap[k]?
theorem BdKeep.trans {b bx n0 : Nat} {U V W : World} (h : BdKeep b bx n0 U V) (k : BdKeep b bx n0 V W) : BdKeep b bx n0 U W :=
  ⟨Nat.le_trans h.size k.size, fun i hi hn => (k.block i (Nat.lt_of_lt_of_le hi h.size) hn).trans (h.block i hi hn)⟩
theorem BdKeep.of_below {b bx n0 : Nat} {V W : World} (h : Below V.heap.size V W) : BdKeep b bx n0 V W := ⟨h.size, fun k hk _ => h.block k hk⟩

def permPost (b bx n0 : Nat) (I : List (List Int) → World → Prop) (xs : List (List Int)) (W : World) : Exit → Act → World → Prop
  | .normal, _, W' => BdKeep b bx n0 W W' ∧ I xs W'
  | _, _, _ => False

theorem wpIn_rangePerm {g : Operand} {ps : Array Tmp} {assign body : Code} {Q : Exit → Act → World → Prop} {a : Act} {w : World} {N : Nat} (bx n0 n c : Nat) (A : Option Addr) (list : List Int)
    (hg : a.eval g = .func (.func 134) #[] #[.pointer (some ⟨bx, 0, none⟩)]) (hps : ps.size = 1)
    (hb : w.cell? ⟨bx, 0, none⟩ = some (.slice A n c)) (hl : RInts w A n list) (hA : ∀ ad, A = some ad → ad.block < n0) (hn0 : n0 ≤ w.heap.size) (hn4 : n ≤ 4)
    (I : List (List Int) → World → Prop) (hI : ∀ s V W, I s V → LpStep w.heap.size V W → I s W) (h0 : I [] w) (a₁ : Value → Act)
    (hassign : ∀ (l m : Nat) (v : Value) (W : World) (K : Act → World → Prop), K (a₁ v) W →
      assign.wpIn (Fence.wide.inRound l) m Try.prog (Exit.then K (fun _ _ _ => False)) { tmps := (ps.zip #[v]).foldl (fun t (p, v) => t.setIfInBounds p v) a.tmps, defers := [] } W)
    (hbody : ∀ (l m : Nat) (pre : List (List Int)) (x : List Int) (V W : World) (A' : Option Addr) (c' : Nat), I pre V → LpStep w.heap.size V W → w.heap.size + 6 ≤ V.heap.size → FreshInts V W A' n x → n ≤ c' → (pre ++ [x]) <+: permF list n [] →
      body.wpIn (Fence.wide.inRound l) m Try.prog (permPost w.heap.size bx n0 I (pre ++ [x]) W) (a₁ (.slice A' n c')) W)
    (hdone : ∀ W : World, I (permF list n []) W → w.heap.size < W.heap.size → W.heap[w.heap.size]? = some (.deferred (some [])) → Q .normal { a with defers := { target := .collected w.heap.size, args := #[] } :: a.defers } W) :
    (Code.rangeFunc g ps assign body).wpIn Fence.wide N Try.prog Q a w := by
  refine wpIn_rangeFunc ?_
  intro fn hfn
  rw [Fence.wide_round]
  obtain ⟨rec, hrec⟩ : ∃ rec : LoopState → Loop, rec = fun st => { state := st, pending := none, fn, tmps := a.tmps, params := ps, assign, body, defers := w.heap.size } := ⟨_, rfl⟩
  obtain ⟨W1, hW1⟩ : ∃ W1, (w.alloc (.deferred (some []))).alloc (.loop (rec .ready)) = W1 := ⟨_, rfl⟩
  have hL1 : W1.heap[w.heap.size + 1]? = some (.loop (rec .ready)) := by
    rw [← hW1]; have := World.alloc_heap_new (w.alloc (.deferred (some []))) (.loop (rec .ready)); rwa [World.size_alloc] at this
  have hK1 : W1.heap[w.heap.size]? = some (.deferred (some [])) := by
    rw [← hW1]; exact (Below.heap_alloc _ _ _ (by simp)).trans (World.alloc_heap_new w _)
  have hb1 : Below w.heap.size w W1 := by
    rw [← hW1]; exact (((Below.refl _ w).alloc (Nat.le_refl _) _).alloc (by simp) _)
  have hs1 : W1.heap.size = w.heap.size + 2 := by rw [← hW1]; simp
  have hI1 : I [] W1 := hI _ _ _ h0 (LpStep.of_below hb1)
  have hbx : bx < w.heap.size := block_lt_of_cell hb
  refine ⟨w.heap.size + 1, [{ target := .collected w.heap.size, args := #[] }], W1, { target := .fn (.func 134) #[.pointer (some ⟨bx, 0, none⟩)], args := #[.func (.yield (w.heap.size + 1)) #[] #[]] }, W1, 134,
    #[.func (.yield (w.heap.size + 1)) #[] #[], .pointer (some ⟨bx, 0, none⟩)], W1, ?_, ?_, fun f' hf' => trivial, ?_, fun h => by simp [Fence.wide] at h, ?_⟩
  · rw [← hW1, hrec]; exact run_enterLoop_outer _ _ _ _ _
  · simp only [resolve, hg]
    simp [go_sem]
  · have eg : ∀ args w, (callFunc 134 args).run Try.prog w = .ok (.enter 134 args) w := enters_of Try.func134 (by kernel_rfl) rfl
    simp [invoke, go_sem, eg]
  · refine callsIn_wide.2 ((perms_any bx n0 (w.heap.size + 1) n c A list
      (fun pre V => I pre V ∧ V.heap[w.heap.size + 1]? = some (.loop (rec .ready)) ∧ V.heap[w.heap.size]? = some (.deferred (some []))) W1 ?_
      ((hb1.cell (p := ⟨bx, 0, none⟩) hbx).trans hb) (hl.below hb1 (Nat.le_refl _)) hA (by omega) hn4 ⟨hI1, hL1, hK1⟩).mono ?_)
    · rw [hs1]
      refine ⟨fun s V W hs hst => ?_, fun acc x V W A' c' m hj hst hsz hf hc' hpre => ?_⟩
      · obtain ⟨hi, hlp, hdf⟩ := hs
        exact ⟨hI _ _ _ hi (LpStep.of_it hst), (hst.block _ (Array.getElem?_eq_some_iff.1 hlp).1 (by omega)).trans hlp, (hst.block _ (Array.getElem?_eq_some_iff.1 hdf).1 (by omega)).trans hdf⟩
      · obtain ⟨hi0, hl0, hk0⟩ := hj
        have hi : I acc W := hI _ _ _ hi0 (LpStep.of_it hst)
        have hlp : W.heap[w.heap.size + 1]? = some (.loop (rec .ready)) := (hst.block _ (Array.getElem?_eq_some_iff.1 hl0).1 (by omega)).trans hl0
        have hk : W.heap[w.heap.size]? = some (.deferred (some [])) := (hst.block _ (Array.getElem?_eq_some_iff.1 hk0).1 (by omega)).trans hk0
        have hlt : w.heap.size + 1 < W.heap.size := (Array.getElem?_eq_some_iff.1 hlp).1
        have hy := run_yield (P := Try.prog) (args := #[.slice A' n c']) hlp (by rw [hrec]; simp [hps])
        rw [hrec] at hy
        refine ⟨fn, _, assign, body, hy, roundIn_of_wpIn hfn (hassign _ m (.slice A' n c') W _ ⟨_, run_beginRound hlp (by rw [hrec]), ?_⟩)⟩
        have hl2 : (W.putObj (w.heap.size + 1) (.loop { rec .ready with state := .busy })).heap[w.heap.size + 1]? = some (.loop { rec .ready with state := .busy }) := World.putObj_heap_same hlt
        have hk2 : (W.putObj (w.heap.size + 1) (.loop { rec .ready with state := .busy })).heap[w.heap.size]? = some (.deferred (some [])) := (World.putObj_heap_other (by omega)).trans hk
        have hf2 : FreshInts V (W.putObj (w.heap.size + 1) (.loop { rec .ready with state := .busy })) A' n x := by
          refine (hf.grownT (grownBy_putObj' W (w.heap.size + 1) _) ?_)
          intro g hg' cur hcur
          injection hg' with hg'
          subst hg'
          rw [hlp] at hcur
          cases hcur
        refine wpIn_mono (hbody _ m acc x V _ A' c' hi0 ((LpStep.of_it hst).trans (LpStep.put _ _ (by omega))) (by omega) hf2 hc' hpre) ?_
        rintro e a3 W3 hp
        cases e with
        | normal =>
          obtain ⟨hk3, hi3⟩ := hp
          have hl3 : W3.heap[w.heap.size + 1]? = some (.loop { rec .ready with state := .busy }) := (hk3.block _ (by simp; omega) (.inr (.inr (by omega)))).trans hl2
          have hd3 : W3.heap[w.heap.size]? = some (.deferred (some [])) := (hk3.block _ (by simp; omega) (.inr (.inr (by omega)))).trans hk2
          have hr := run_endRound (P := Try.prog) none hl3
          rw [hrec] at hr
          refine ⟨_, _, hr, rfl, ⟨hI _ _ _ hi3 (LpStep.put _ _ (by omega)), ?_, (World.putObj_heap_other (by omega)).trans hd3⟩, ?_, ?_⟩
          · rw [hrec]; exact World.putObj_heap_same (Array.getElem?_eq_some_iff.1 hl3).1
          · have := hk3.size; simp at this ⊢; exact this
          · intro k hkk hc
            have hne : k ≠ w.heap.size + 1 := by omega
            refine (World.putObj_heap_other hne).trans ((hk3.block k (by simpa using hkk) ?_).trans (World.putObj_heap_other hne))
            rcases hc with h | h | h
            · exact .inl h
            · exact .inr (.inl h)
            · exact .inr (.inr (by omega))
        | ret => exact hp.elim
        | exit id => exact hp.elim
        | goto t => exact hp.elim
        | panic ch => exact hp.elim
        | outgrown => exact hp.elim
    · rintro e W2 ⟨⟨v, rfl⟩, hi, hlp, hdf⟩
      have := run_endLoop (P := Try.prog) hlp (by rw [hrec]; simp)
      rw [hrec] at this
      exact ⟨none, _, this, hdone _ (hI _ _ _ hi (LpStep.put _ _ (by omega))) (by simpa using (Array.getElem?_eq_some_iff.1 hdf).1) ((World.putObj_heap_other (by omega)).trans hdf)⟩
#print axioms wpIn_rangePerm
end Go.Proofs.Ytkbclcgdkbhgdaa
namespace Go.Proofs.Ytkbclcgdkbhgdaa
open Go.RowKit Go.BigFrame
set_option linter.unusedVariables false

/-- The literal slice of one number and the empty one, as they lie when the orders begin. -/
theorem lit1_own (w : World) : (w.alloc (.cells #[] 3)).ownsRow w.heap.size 3 1 (.slice (some ⟨w.heap.size, 0, none⟩) 0 0) 0 (intCells []) := World.ownsRow_made w #[] 0 (Nat.le_refl _) (by decide) rfl
theorem RInts.grownAt {w w' : World} {g n : Nat} {xs : List Int} {row : Option Nat} (h : RInts w (some ⟨g, 0, none⟩) n xs) (hg : w.grownBy w' row) (hlt : g < w.heap.size) (hne : row ≠ some g) : RInts w' (some ⟨g, 0, none⟩) n xs := by
  have hk := hg.block g hlt hne.symm
  refine ⟨h.1, h.2.1, fun hn => ?_⟩
  obtain ⟨b, off, hA, hl, hc⟩ := h.2.2 hn
  injection hA with hA
  injection hA with e1 e2 _
  subst e1; subst e2
  have hs := World.grownBy.size hg
  exact ⟨g, 0, rfl, by omega, fun i x hx => (World.cell?_of_block (w := w) (a := ⟨g, 0 + i, none⟩) hk).trans (hc i x hx)⟩
/-- The first append of a call's argument, however the region draws. -/
structure Arg1 (wi Wa : World) (ob lb : Nat) (t : Int) : Prop where
  row : Wa.ownsRow wi.heap.size 3 1 (.slice (some ⟨ob, 0, none⟩) 0 0) 0 (intCells [])
  lit : RInts Wa (some ⟨lb, 0, none⟩) 1 [t]
  ne : some ob ≠ some lb
  lt : lb < Wa.heap.size
  below : Below wi.heap.size wi Wa
theorem arg1_b (wi : World) (t : Int) : Arg1 wi ((wi.alloc (.cells #[] 3)).alloc (.cells #[.int .i64 t] 3)).drew wi.heap.size (wi.heap.size + 1) t := by
  refine ⟨((lit1_own wi).alloc _).drew, ?_, by simp, by simp, (((Below.refl _ wi).alloc (Nat.le_refl _) _).alloc (by simp) _).drew⟩
  have h := lit1 (w := wi.alloc (.cells #[] 3)) (H := wi.heap.size + 1) (by simp) t
  exact h
theorem arg1_c (wi : World) (t : Int) : Arg1 wi ((wi.alloc (.cells #[.int .i64 t] 3)).alloc (.cells #[] 3)).drew (wi.heap.size + 1) wi.heap.size t := by
  refine ⟨?_, ?_, by simp, by simp; omega, (((Below.refl _ wi).alloc (Nat.le_refl _) _).alloc (by simp) _).drew⟩
  · have h := World.ownsRow_made (base := wi.heap.size) (e := 3) (size := 1) (wi.alloc (.cells #[.int .i64 t] 3)) #[] 0 (by simp) (by decide) rfl
    rw [World.size_alloc] at h
    exact h.drew
  · have h := (lit1 (w := wi) rfl t).below ((Below.refl _ (wi.alloc (.cells #[.int .i64 t] 3))).alloc (Nat.le_refl _) (.cells #[] 3)) (Nat.le_refl _)
    exact h
end Go.Proofs.Ytkbclcgdkbhgdaa
namespace Go.Proofs.Ytkbclcgdkbhgdaa
open Go.RowKit Go.BigFrame
set_option linter.unusedVariables false

theorem topF_len {list : List Int} {rows : List Nat} (h4 : list.length ≤ 4) (m : Nat) : ∀ pre, (topF list rows m pre).length ≤ 4 ^ m := by
  induction m with
  | zero => intro pre; simp [topF]
  | succ m ih =>
    intro pre
    simp only [topF]
    have : ∀ (l : List Int) (f : Int → List (List Int)), (∀ t, (f t).length ≤ 4 ^ m) → (l.flatMap f).length ≤ l.length * 4 ^ m := by
      intro l f hf
      induction l with
      | nil => simp
      | cons x r ihl =>
        rw [List.flatMap_cons, List.length_append, List.length_cons, Nat.add_mul, Nat.one_mul]
        have := hf x
        omega
    refine Nat.le_trans (this list _ fun t => ?_) ?_
    · split
      · exact ih _
      · simp
    · rw [Nat.pow_succ, Nat.mul_comm]
      exact Nat.mul_le_mul_left _ h4
theorem flat_len {f : Int → List (List Int)} {M : Nat} (hf : ∀ t, (f t).length ≤ M) (l : List Int) : (l.flatMap f).length ≤ l.length * M := by
  induction l with
  | nil => simp
  | cons x r ihl =>
    rw [List.flatMap_cons, List.length_append, List.length_cons, Nat.add_mul, Nat.one_mul]
    have := hf x
    omega
theorem flat_snoc {f : Int → List (List Int)} {list : List Int} {k : Nat} {t : Int} (h : list[k]? = some t) : (list.take (k + 1)).flatMap f = (list.take k).flatMap f ++ f t := by
  rw [take_snoc h, List.flatMap_append]; simp
/-- Whether t may come next, as far as the first q of the list tell. -/
def topOk (list : List Int) (rows : List Nat) (pre : List Int) (t : Int) (q : Nat) : Bool := !(pre.any fun y => y == t) && (list.take q).all (fun v => !edgeB rows v t || pre.any fun y => y == v)
theorem topOk_succ {list : List Int} {rows : List Nat} {pre : List Int} {t v : Int} {q : Nat} (h : list[q]? = some v) : topOk list rows pre t (q + 1) = (topOk list rows pre t q && (!edgeB rows v t || pre.any fun y => y == v)) := by
  unfold topOk
  rw [take_snoc h, List.all_append]
  simp [Bool.and_assoc]
theorem topOk_le {list : List Int} {rows : List Nat} {pre : List Int} {t : Int} {q : Nat} (h : topOk list rows pre t q = false) : topOk list rows pre t list.length = false := by
  cases h' : topOk list rows pre t list.length
  · rfl
  · exfalso
    have h2 : topOk list rows pre t q = true := by
      unfold topOk at h' ⊢
      rw [Bool.and_eq_true] at h' ⊢
      refine ⟨h'.1, List.all_eq_true.2 fun x hx => ?_⟩
      exact (List.all_eq_true.1 h'.2) x (by rw [List.take_length]; exact List.mem_of_mem_take hx)
    rw [h] at h2
    cases h2
/-- What the orders that go on with t are. -/
def topN (list : List Int) (rows : List Nat) (m : Nat) (pre : List Int) (t : Int) : List (List Int) := if topOk list rows pre t list.length then topF list rows m (pre ++ [t]) else []
theorem topF_succ {list : List Int} {rows : List Nat} {m : Nat} {pre : List Int} : topF list rows (m + 1) pre = list.flatMap (topN list rows m pre) := by
  simp only [topF]
  refine flat_congr fun t _ => ?_
  unfold topN topOk
  rw [List.take_length]
theorem topN_len {list : List Int} {rows : List Nat} (h4 : list.length ≤ 4) {m : Nat} (hm : m ≤ 4) {pre : List Int} (t : Int) : (topN list rows m pre t).length ≤ 256 := by
  have h1 : (4:Nat) ^ m ≤ 4 ^ 4 := Nat.pow_le_pow_right (by omega) hm
  unfold topN
  split
  · exact Nat.le_trans (topF_len h4 m _) (by simpa using h1)
  · simp

/-- What the inner loop knows. -/
structure TopAt (A B R : Option Addr) (n h : Nat) (list pre : List Int) (rows : List Nat) (w : World) : Prop where
  list : RInts w A n list
  pre : RInts w B h pre
  rows : RInts w R 4 (rowsI rows)
theorem TopAt.below {A B R : Option Addr} {n h : Nat} {list pre : List Int} {rows : List Nat} {w w' : World} (t : TopAt A B R n h list pre rows w) (hb : Below w.heap.size w w') : TopAt A B R n h list pre rows w' :=
  ⟨t.list.below hb (Nat.le_refl _), t.pre.below hb (Nat.le_refl _), t.rows.below hb (Nat.le_refl _)⟩

/-- What the recursive call is handed. -/
def Arg2 (wi w2 : World) (v2 : Value) (h : Nat) (xs : List Int) : Prop := ∃ B2 c2, v2 = .slice B2 h c2 ∧ RInts w2 B2 h xs ∧ Below wi.heap.size wi w2
theorem Arg2.of {wi Wa w2 : World} {v v2 : Value} {n h : Nat} {xs ys : List Int} (hb : Below wi.heap.size wi Wa) (hown : Wa.ownsRow wi.heap.size 3 1 v n (intCells xs)) (hg : Wa.grownBy w2 v.ownBlock) (h2 : w2.ownsRow wi.heap.size 3 1 v2 h (intCells ys)) (hh : h ≤ 100) : Arg2 wi w2 v2 h ys := by
  obtain ⟨B2, c2, rfl, hc2⟩ := own_form2 h2
  exact ⟨B2, c2, rfl, RInts.of_own h2 (by omega), Below.own hb hown (Nat.le_refl _) hg⟩

set_option maxRecDepth 100000 in
set_option maxHeartbeats 4000000 in
theorem top_any (m : Nat) : ∀ (A B R : Option Addr) (n c h ch rc : Nat) (list pre : List Int) (rows : List Nat) (w : World), TopAt A B R n h list pre rows w → Rows4 rows → (∀ t ∈ list, 0 ≤ t ∧ t ≤ 3) → n ≤ 4 → h + m = n →
    Calls Try.prog 71 #[.slice A n c, .slice R 4 rc, .slice B h ch] w (RetLists w (topF list rows m pre)) := by
  induction m with
  | zero =>
    intro A B R n c h ch rc list pre rows w ht h4 hr hn4 hh
    have hl := ht.list.1
    have hp := ht.pre.1
    obtain rfl : h = n := by omega
    have HP := Lib.hid ht.pre
    have HST : Hid ((w.alloc (.cells #[] 3)).ownsRow w.heap.size 3 1 (.slice (some ⟨w.heap.size, 0, none⟩) 0 0) 0 (intCells [])) :=
      World.ownsRow_made w #[] 0 (Nat.le_refl _) (by decide) rfl
    have HP1 : Hid (RInts (w.alloc (.cells #[] 3)) B h pre) := ht.pre.below ((Below.refl _ w).alloc (Nat.le_refl _) _) (Nat.le_refl _)
    have hT : Hid (topF list rows 0 pre = [pre]) := rfl
    clear ht h4 hr
    go_enter Try.func71, Try.ntmps71
    go_wp2_with (at_builtin; refine app_ints (.tmp 16) (.tmp 17) HST.out (by simp) HP1.out (by omega) rfl rfl rfl rfl ?_; intro v1 w1 hown1 hg1 hat1; rw [List.nil_append, Nat.zero_add] at hown1; obtain ⟨A1, c1, rfl, hc1⟩ := own_form2 hown1)
    have hb1 : Below w.heap.size w w1 := Below.own ((Below.refl _ w).alloc (Nat.le_refl _) _) HST.out (Nat.le_refl _) hg1
    have hri := FreshInts.of_own (w0 := w) hown1 (Nat.le_refl _) (by omega)
    have hs1 := hb1.size
    have HO : Hid (RetLists w [pre] (.returned (.slice (some ⟨w1.heap.size, 0, none⟩) 1 1)) (w1.alloc (.cells #[.slice A1 h c1] 40))) :=
      RetLists.lit1 hp hc1 hri hb1
    clear hown1 hg1 hat1 hri HST HP1
    go_ret
    rw [hT.out]
    exact HO.out
  | succ m ih =>
    intro A B R n c h ch rc list pre rows w ht h4 hr hn4 hh
    have hl := ht.list.1
    have hp := ht.pre.1
    have HT0 := Lib.hid ht
    have H4 := Lib.hid h4
    have HR := Lib.hid hr
    have HIH := Lib.hid ih
    have hhn : ¬ h = n := by omega
    have hdn : ((h : Int) == (n : Int)) = false := by simp; omega
    have HSUC : Hid (topF list rows (m + 1) pre = list.flatMap (topN list rows m pre)) := topF_succ
    have HLEN : Hid (∀ k, ((list.take k).flatMap (topN list rows m pre)).length ≤ 1024) := by
      intro k
      have h1 := flat_len (f := topN list rows m pre) (M := 256) (fun t => topN_len (by omega) (by omega) t) (list.take k)
      have : (list.take k).length ≤ 4 := by simp; omega
      have : (list.take k).length * 256 ≤ 4 * 256 := Nat.mul_le_mul_right _ this
      omega
    clear ht h4 hr ih
    generalize hF : topN list rows m pre = F at *
    have HF : Hid (∀ t, F t = if topOk list rows pre t list.length then topF list rows m (pre ++ [t]) else []) := by
      intro t; rw [← hF]; rfl
    clear hF
    have HST : Hid ((w.alloc (.cells #[] 40)).ownsRow w.heap.size 40 1 (.slice (some ⟨w.heap.size, 0, none⟩) 0 0) 0 []) :=
      World.ownsRow_made w #[] 0 (Nat.le_refl _) (by decide) rfl
    go_enter Try.func71, Try.ntmps71
    go_wp2_with fail
    go_loopw [7, 8] (fun ov i wr => ∃ (k : Nat), k ≤ n ∧ i = .int .i64 k ∧ RowsInv w wr ov ((list.take k).flatMap F)) (fun _ i _ => n - (intOf i).toNat)
    case atStart => exact ⟨0, Nat.zero_le _, rfl, 0, [], by omega, rfl, (Below.refl _ w).alloc (Nat.le_refl _) _, HST.out, by simpa using RowsR.nil⟩
    case round =>
      clear HST
      obtain ⟨k, hk, rfl, hinv⟩ := hrel
      have HINV := Lib.hid hinv
      obtain ⟨N, rv, hN, hNl, hb, hown, hrows⟩ := hinv
      obtain ⟨Ao, co, rfl, hco⟩ := own_form2 hown
      have HNL := Lib.hid hNl
      clear hNl
      by_cases hlt : k < n
      · have HT := Lib.hid (HT0.out.below hb)
        obtain ⟨b, off, t, rfl, hbl, ho, c0⟩ := HT.out.list.at_ hlt
        have htr := HR.out t (List.mem_of_getElem? ho)
        have HS := Lib.hid (flat_snoc (f := F) ho)
        have hcH : ∀ (W : World) (x : Int), Below wr.heap.size wr W → Calls Try.prog 120 #[.slice B h ch, .int .i64 x] W fun e w' => e = .returned (.bool (pre.any fun y => y == x)) ∧ Below W.heap.size W w' := fun W x hW =>
          hasInt_any B h ch pre x W (HT.out.pre.below hW (Nat.le_refl _))
        have HH := Lib.hid hcH
        have HOWN := Lib.hid hown
        have HROWS := Lib.hid hrows
        have HO := Lib.hid ho
        clear hcH hown hrows ho
        go_wp2_with fail
        refine (HH.out _ _ (Below.refl _ _)).mono ?_
        rintro e w1 ⟨rfl, hb1⟩
        go_wp2_with fail
        have HB1 : Hid (Below w.heap.size w w1) := hb.trans (hb1.mono hb.size)
        go_loopw [9, 10] (fun ok i wi => ∃ q : Nat, q ≤ n ∧ i = .int .i64 q ∧ ok = .bool (topOk list rows pre t q) ∧ Below wr.heap.size wr wi) (fun _ i _ => n - (intOf i).toNat)
        case atStart => exact ⟨0, Nat.zero_le _, rfl, by simp [topOk], hb1⟩
        case round =>
          clear hb1 HB1
          obtain ⟨wi, rfl⟩ : ∃ wi : World, wi = wr := ⟨_, rfl⟩
          obtain ⟨q, hq, rfl, rfl, hbi⟩ := hrel
          by_cases hlt2 : q < n
          · have HS2 : Hid (∀ v, list[q]? = some v → topOk list rows pre t (q + 1) = (topOk list rows pre t q && (!edgeB rows v t || pre.any fun y => y == v))) := fun v hv => topOk_succ hv
            have HFL : Hid (topOk list rows pre t q = false → F t = []) := fun h => by rw [HF.out, topOk_le h]; rfl
            generalize topOk list rows pre t q = ok at *
            have Hbi := Lib.hid hbi
            clear hbi
            cases ok
            · go_wp2_with fail
              go_roundw
              case rel => exact ⟨k + 1, by omega, by go_num, by rw [HS.out, HFL.out (by first | rfl | trivial), List.append_nil]; exact HINV.out.later Hbi.out⟩
              case measure => simp [intOf]; omega
            · have HTi := HT.out.below Hbi.out
              obtain ⟨b', off', v, hbo, hbl2, ho2, c2⟩ := HTi.list.at_ hlt2
              injection hbo with hbo
              injection hbo with e1 e2 _
              subst e1; subst e2
              have hvr := HR.out v (List.mem_of_getElem? ho2)
              obtain ⟨vn, rfl⟩ := Int.eq_ofNat_of_zero_le hvr.1
              obtain ⟨tn, rfl⟩ := Int.eq_ofNat_of_zero_le htr.1
              have hvn : vn < 4 := by omega
              have htn : tn < 4 := by omega
              obtain ⟨br, offr, rfl, hblr, c3, h16⟩ := rowsI_at3 H4.out HTi.rows hvn
              have hst := HS2.out _ ho2
              have hed : edgeB rows (vn : Int) (tn : Int) = (rows.getD vn 0).testBit tn := rfl
              rw [hed] at hst
              obtain ⟨eb, heb⟩ : ∃ eb, (rows.getD vn 0).testBit tn = eb := ⟨_, rfl⟩
              rw [heb] at hst
              have hcB : ∀ W : World, Calls Try.prog 121 #[.int .i64 ((rows.getD vn 0 : Nat) : Int), .int .i64 (tn : Int)] W fun e w' => e = .returned (.int .i64 (if eb then 1 else 0)) ∧ W = w' := fun W => by
                have := sbit_any (rows.getD vn 0) tn W (by omega) (by omega); rw [heb] at this; exact this
              have HCB := Lib.hid hcB
              have HST2 := Lib.hid hst
              have L1 := Later.cell c2
              have L2 := Later.cell c3
              have L3 := Later.cell ((Hbi.out.cell (p := ⟨b, off + k, none⟩) hbl).trans c0)
              have l1 : (vn : Int) < 4 := by omega
              have l2 : (0 : Int) ≤ (vn : Int) := by omega
              have l3 : (q : Int) < n := by omega
              have l4 : (k : Int) < n := by omega
              have l5 : (0 : Int) ≤ (q : Int) := by omega
              have l6 : (0 : Int) ≤ (k : Int) := by omega
              have hsi := Hbi.out.size
              clear HTi ho2 c2 c3 hst heb hcB hed HS2 HFL
              generalize rows.getD vn 0 = rk at *
              cases eb
              · go_wp2_with fail
                refine region_later (by kernel_rfl) (by kernel_rfl) ?_
                repeat (go_big_quiet_step ((go_at_call 121; exact later_same _ (HCB.out _))))
                refine wpQuiet_nil ?_
                rintro _ ⟨u, rfl⟩
                go_wp2_with fail
                go_roundw
                case rel => exact ⟨q + 1, by omega, by go_num, by rw [HST2.out]; rfl, Hbi.out.trans (u.2.mono hsi)⟩
                case measure => simp [intOf]; omega
              · obtain ⟨bc, hbc⟩ : ∃ bc, (pre.any fun y => y == (vn : Int)) = bc := ⟨_, rfl⟩
                have hcI : ∀ u : Later wi, Calls Try.prog 120 #[.slice B h ch, .int .i64 (vn : Int)] u.1 fun e w' => e = .returned (.bool bc) ∧ Below u.1.heap.size u.1 w' := fun u => by
                  have := HH.out u.1 (vn : Int) (Hbi.out.trans (u.2.mono hsi)); rw [hbc] at this; exact this
                have HCI := Lib.hid hcI
                have HST3 : Hid (topOk list rows pre (tn : Int) (q + 1) = bc) := by
                  show _ = _
                  rw [HST2.out, hbc]; simp
                clear hcI hbc HST2
                go_wp2_with fail
                refine region_later (by kernel_rfl) (by kernel_rfl) ?_
                repeat (go_big_quiet_step ((first | (go_at_call 121; exact later_same _ (HCB.out _)) | (go_at_call 120; exact later_call _ (HCI.out _)))))
                refine wpQuiet_nil ?_
                rintro _ ⟨u, rfl⟩
                go_wp2_with fail
                go_roundw
                case rel => exact ⟨q + 1, by omega, by go_num, by rw [HST3.out], Hbi.out.trans (u.2.mono hsi)⟩
                case measure => simp [intOf]; omega
          · have hqn : n = q := by omega
            subst hqn
            have HFT : Hid (F t = if topOk list rows pre t n = true then topF list rows m (pre ++ [t]) else []) := by
              have := HF.out t; rw [hl] at this; exact this
            obtain ⟨ok, hok⟩ : ∃ ok, topOk list rows pre t n = ok := ⟨_, rfl⟩
            rw [hok] at HFT ⊢
            have Hbi := Lib.hid hbi
            clear hbi hok
            cases ok
            · go_wp2_with fail
              go_roundw
              case rel => exact ⟨k + 1, by omega, by go_num, by rw [HS.out, HFT.out, if_neg (by simp), List.append_nil]; exact HINV.out.later Hbi.out⟩
              case measure => simp [intOf]; omega
            · have c0i := (Hbi.out.cell (p := ⟨b, off + k, none⟩) hbl).trans c0
              have HT2 := Lib.hid (HT.out.below Hbi.out)
              have HO2 := Lib.hid (own_below HOWN.out Hbi.out)
              have HR2 := Lib.hid (HROWS.out.below Hbi.out)
              have hbwi := hb.trans (Hbi.out.mono hb.size)
              have l4 : (k : Int) < n := by omega
              have l6 : (0 : Int) ≤ (k : Int) := by omega
              have HP2 : Hid (∀ W, Below wi.heap.size wi W → RInts W B h pre) := fun W hW => HT2.out.pre.below hW (Nat.le_refl _)
              have HBA : Hid (Below wi.heap.size wi (wi.alloc (.cells #[] 3)).drew) := ((Below.refl _ wi).alloc (Nat.le_refl _) _).drew
              have HEA : Hid ((wi.alloc (.cells #[] 3)).drew.ownsRow wi.heap.size 3 1 (.slice (some ⟨wi.heap.size, 0, none⟩) 0 0) 0 (intCells [])) := (lit1_own wi).drew
              have c0a : (wi.alloc (.cells #[] 3)).drew.cell? ⟨b, off + k, none⟩ = some (.int .i64 t) := (HBA.out.cell (p := ⟨b, off + k, none⟩) (Nat.lt_of_lt_of_le hbl Hbi.out.size)).trans c0i
              have HEB := Lib.hid (arg1_b wi t)
              have HEC := Lib.hid (arg1_c wi t)
              go_wp2_with fail
              have HFP : Hid (F t = topF list rows m (pre ++ [t])) := by
                show _ = _
                rw [HFT.out]; simp
              have HNM : Hid (∀ M, (topF list rows m (pre ++ [t])).length = M → N + M ≤ 1024) := by
                intro M hM
                have h1 := HLEN.out (k + 1)
                rw [HS.out, HFP.out, List.length_append, HNL.out, hM] at h1
                exact h1
              go_region_law (first
                | (refine step_ints (.tmp 68) (.tmp 69) (c := ch) (HEA.out) (HBA.out.size) (HP2.out _ HBA.out) ?_ ?_ ?_ ?_ ?_ ?_; (· omega); (· rfl); (· rfl); (· rfl); (· rfl); intro v1 w1' hown1 hg1 hat1; have hb1' := Below.own HBA.out HEA.out (Nat.le_refl _) hg1; have hcw := (hb1'.cell (p := ⟨b, off + k, none⟩) (Nat.lt_of_lt_of_le hbl Hbi.out.size)).trans c0i; have ha1' := hb1'.alloc hb1'.size (.cells #[.int .i64 t] 3 (0, 0)))
                | (refine step_ints (.tmp 68) (.tmp 69) (c := ch) (HEB.out.row) (HEB.out.below.size) (HP2.out _ HEB.out.below) ?_ ?_ ?_ ?_ ?_ ?_; (· omega); (· rfl); (· rfl); (· rfl); (· rfl); intro v1 w1' hown1 hg1 hat1; have hl1 := HEB.out.lit.grownAt hg1 HEB.out.lt HEB.out.ne; have hb1' := Below.own HEB.out.below HEB.out.row (Nat.le_refl _) hg1)
                | (refine step_ints (.tmp 68) (.tmp 69) (c := ch) (HEC.out.row) (HEC.out.below.size) (HP2.out _ HEC.out.below) ?_ ?_ ?_ ?_ ?_ ?_; (· omega); (· rfl); (· rfl); (· rfl); (· rfl); intro v1 w1' hown1 hg1 hat1; have hl1 := HEC.out.lit.grownAt hg1 HEC.out.lt HEC.out.ne; have hb1' := Below.own HEC.out.below HEC.out.row (Nat.le_refl _) hg1)
                | (refine step_ints (.tmp 70) (.tmp 75) (c := 1) (hown1.alloc _) (ha1'.size) (lit1 rfl t) ?_ ?_ ?_ ?_ ?_ ?_; (· omega); (· rfl); (· rfl); (· rfl); (· rfl); intro v2 w2' hown2 hg2 hat2; rw [List.nil_append, Nat.zero_add] at hown2; obtain ⟨B2, c2, rfl, hr2, hb2'⟩ := Arg2.of ha1' (hown1.alloc _) hg2 hown2 (by omega))
                | (refine step_ints (.tmp 70) (.tmp 75) (c := 1) (hown1) (hb1'.size) (hl1) ?_ ?_ ?_ ?_ ?_ ?_; (· omega); (· rfl); (· rfl); (· rfl); (· rfl); intro v2 w2' hown2 hg2 hat2; rw [List.nil_append, Nat.zero_add] at hown2; obtain ⟨B2, c2, rfl, hr2, hb2'⟩ := Arg2.of hb1' hown1 hg2 hown2 (by omega))
                | (go_simp; go_at_call 71; refine (HIH.out _ B2 R n c (h + 1) c2 rc list (pre ++ [t]) rows w2' ⟨HT2.out.list.below hb2' (Nat.le_refl _), hr2, HT2.out.rows.below hb2' (Nat.le_refl _)⟩ H4.out HR.out hn4 (by omega)).mono ?_; rintro e w3' hret; obtain ⟨A3, c3, M, rs, rfl, HM3, hc3, ho3, hr3, hb3'⟩ := hret.form; have hb23 := hb2'.trans (hb3'.mono hb2'.size); have hM := HNM.out M HM3.out; have own3 := own_below HO2.out hb23; have hbw3 := hbwi.trans (hb23.mono hbwi.size))
                | (refine step_rows (.tmp 65) (.tmp 77) (c := c3) (own3) (hbw3.size) (ho3.1) ?_ ?_ ?_ ?_ ?_ ?_; (· omega); (· rfl); (· rfl); (· rfl); (· rfl); intro v4 w4' hown4 hg4 hat4))
              all_goals
                have hinv : RowsInv w w4' v4 ((list.take (k + 1)).flatMap F) := by
                  rw [HS.out, HFP.out]
                  exact ⟨N + M, rv ++ rs, hM, by rw [List.length_append, HNL.out, HM3.out], Below.own hbw3 own3 (Nat.le_refl _) hg4, hown4,
                    ((HR2.out.below hb23).grown hg4 (own_noInt own3)).append ((hr3.since (Nat.le_trans hbwi.size hb2'.size)).grown hg4 (own_noInt own3))⟩
                have HINV4 := Lib.hid hinv
                clear hinv hown4 hg4 hat4 own3 hr3 ho3 hown2 hg2 hat2 hown1 hg1 hat1
                go_wp2_with fail
                go_roundw
                case rel => exact ⟨k + 1, by omega, by go_num, HINV4.out⟩
                case measure => simp [intOf]; omega
      · have e : list.take k = list := List.take_of_length_le (by omega)
        have hNl := HNL.out
        rw [e] at hrows hNl
        have HO : Hid (RetLists w (topF list rows (m + 1) pre) (.returned (.slice Ao N co)) wr) := by
          rw [HSUC.out]
          exact RetLists.of_own hNl hco hown (Nat.le_refl _) hrows hb
        clear hown hrows e hNl
        go_wp2_with fail
        go_ret
        exact HO.out
end Go.Proofs.Ytkbclcgdkbhgdaa
namespace Go.Proofs.Ytkbclcgdkbhgdaa
open Go.RowKit Go.BigFrame Go.Shelf
set_option linter.unusedVariables false

def goneN (pre : List Int) : Nat := pre.foldl (fun g t => g ||| 1 <<< t.toNat) 0
theorem goneN_snoc (pre : List Int) (t : Int) : goneN (pre ++ [t]) = goneN pre ||| 1 <<< t.toNat := by simp [goneN]
theorem gone_fold (i : Nat) : ∀ (pre : List Int) (g : Nat), (pre.foldl (fun g t => g ||| 1 <<< t.toNat) g).testBit i = (g.testBit i || pre.any fun u => u.toNat == i) := by
  intro pre
  induction pre with
  | nil => intro g; simp
  | cons t r ih =>
    intro g
    rw [List.foldl_cons, ih, List.any_cons, Nat.testBit_or, Bool.or_assoc]
    congr 1
    congr 1
    rw [Nat.one_shiftLeft, Nat.testBit_two_pow]
    by_cases h : t.toNat = i <;> simp [h]
theorem goneN_bit (pre : List Int) (i : Nat) : (goneN pre).testBit i = pre.any fun u => u.toNat == i := by
  unfold goneN; rw [gone_fold]; simp
theorem goneN_lt {pre : List Int} (h : ∀ t ∈ pre, 0 ≤ t ∧ t ≤ 3) : goneN pre < 16 := by
  refine Nat.lt_pow_two_of_testBit (n := 4) _ fun i hi => ?_
  rw [goneN_bit, List.any_eq_false]
  intro u hu
  have := h u hu
  simp
  omega
theorem gone_and {R : List Nat} {pre : List Int} {t : Int} : (R.getD t.toNat 0 &&& goneN pre = 0) ↔ (pre.any fun u => edgeB R t u) = false := by
  constructor
  · intro h
    rw [List.any_eq_false]
    intro u hu he
    have h1 : (R.getD t.toNat 0 &&& goneN pre).testBit u.toNat = false := by rw [h]; simp
    rw [Nat.testBit_and, goneN_bit] at h1
    unfold edgeB at he
    rw [he, Bool.true_and, List.any_eq_false] at h1
    exact h1 u hu (by simp)
  · intro h
    refine Nat.eq_of_testBit_eq fun i => ?_
    rw [Nat.testBit_and, goneN_bit, Nat.zero_testBit]
    cases hb : (pre.any fun u => u.toNat == i)
    · simp
    · rw [List.any_eq_true] at hb
      obtain ⟨u, hu, hui⟩ := hb
      have hui' : u.toNat = i := by simpa using hui
      rw [List.any_eq_false] at h
      have := h u hu
      unfold edgeB at this
      rw [hui'] at this
      simpa using this
/-- One more of an order that goes so far. -/
theorem acc_go {R : List Nat} {x : List Int} {k : Nat} {t : Int} (ht : x[k]? = some t) (ha : accB R [] (x.take k) = true) (h : R.getD t.toNat 0 &&& goneN (x.take k) = 0) : accB R [] (x.take (k + 1)) = true := by
  rw [take_snoc ht, accB_append, ha]
  simp only [accB, List.nil_append, Bool.true_and, Bool.and_true]
  rw [gone_and.1 h]; rfl
theorem acc_no {R : List Nat} {x : List Int} {k : Nat} {t : Int} (ht : x[k]? = some t) (h : ¬ (R.getD t.toNat 0 &&& goneN (x.take k) = 0)) : accB R [] x = false := by
  have e : x = x.take k ++ (t :: x.drop (k + 1)) := by
    rw [List.getElem?_eq_some_iff] at ht
    obtain ⟨hlt, hx⟩ := ht
    conv => lhs; rw [← List.take_append_drop k x]
    rw [List.drop_eq_getElem_cons hlt, hx]
  rw [e, accB_append]
  simp only [accB, List.nil_append]
  have : ((x.take k).any fun u => edgeB R t u) = true := by
    cases hb : ((x.take k).any fun u => edgeB R t u)
    · exact absurd (gone_and.2 hb) h
    · rfl
  rw [this]; simp
theorem gone_take {x : List Int} {k : Nat} {t : Int} (ht : x[k]? = some t) : goneN (x.take (k + 1)) = goneN (x.take k) ||| 1 <<< t.toNat := by
  rw [take_snoc ht, goneN_snoc]
theorem permF_len {list : List Int} (h4 : list.length ≤ 4) (m : Nat) : ∀ pre, (permF list m pre).length ≤ 4 ^ m := by
  induction m with
  | zero => intro pre; simp [permF]
  | succ m ih =>
    intro pre
    rw [permF_succ]
    refine Nat.le_trans (flat_len (M := 4 ^ m) (fun t => ?_) _) ?_
    · unfold permN
      split
      · simp
      · exact ih _
    · rw [Nat.pow_succ, Nat.mul_comm]; exact Nat.mul_le_mul_left _ h4
/-- What an order is made of. -/
theorem permF_sub {list : List Int} (m : Nat) : ∀ pre p, p ∈ permF list m pre → ∀ t ∈ p, t ∈ pre ∨ t ∈ list := by
  induction m with
  | zero => intro pre p hp t ht; simp only [permF, List.mem_singleton] at hp; subst hp; exact .inl ht
  | succ m ih =>
    intro pre p hp t ht
    rw [permF_succ, List.mem_flatMap] at hp
    obtain ⟨u, hu, hp⟩ := hp
    unfold permN at hp
    split at hp
    · cases hp
    · rcases ih _ _ hp t ht with h | h
      · rcases List.mem_append.1 h with h | h
        · exact .inl h
        · rw [List.mem_singleton] at h; subst h; exact .inr hu
      · exact .inr h
theorem permF_length {list : List Int} (m : Nat) : ∀ pre p, p ∈ permF list m pre → p.length = pre.length + m := by
  induction m with
  | zero => intro pre p hp; simp only [permF, List.mem_singleton] at hp; subst hp; simp
  | succ m ih =>
    intro pre p hp
    rw [permF_succ, List.mem_flatMap] at hp
    obtain ⟨u, hu, hp⟩ := hp
    unfold permN at hp
    split at hp
    · cases hp
    · have := ih _ _ hp; simp at this; omega

/-- No two of these slices lie in one block. -/
def ApartR (rv : List Value) : Prop := ∀ (i j : Nat) (a b : Addr) (n m c d : Nat), i ≠ j → rv[i]? = some (Value.slice (some a) n c) → rv[j]? = some (Value.slice (some b) m d) → a.block ≠ b.block
theorem ApartR.nil : ApartR [] := fun i j a b n m c d _ h => by simp at h
theorem ApartR.snoc {rv : List Value} {A : Option Addr} {n c : Nat} (h : ApartR rv) (hA : ∀ (i : Nat) (a : Addr) (m d : Nat) (b : Addr), A = some b → rv[i]? = some (Value.slice (some a) m d) → a.block ≠ b.block) : ApartR (rv ++ [Value.slice A n c]) := by
  intro i j a b n' m' c' d' hij hi hj
  have at2 : ∀ k a n'' c'', (rv ++ [Value.slice A n c])[k]? = some (.slice (some a) n'' c'') → rv[k]? = some (.slice (some a) n'' c'') ∨ (k = rv.length ∧ A = some a) := by
    intro k a n'' c'' hk
    rcases Nat.lt_or_ge k rv.length with h1 | h1
    · rw [List.getElem?_append_left h1] at hk; exact .inl hk
    · rw [List.getElem?_append_right h1] at hk
      rcases Nat.eq_zero_or_pos (k - rv.length) with h0 | h0
      · rw [h0] at hk
        simp only [List.getElem?_cons_zero, Option.some.injEq] at hk
        injection hk with e1 _ _
        exact .inr ⟨by omega, e1⟩
      · rw [List.getElem?_eq_none (by simp; omega)] at hk; cases hk
  rcases at2 i a _ _ hi with h1 | ⟨e1, h1⟩
  · rcases at2 j b _ _ hj with h2 | ⟨e2, h2⟩
    · exact h i j a b _ _ _ _ hij h1 h2
    · exact hA i a _ _ b h2 h1
  · rcases at2 j b _ _ hj with h2 | ⟨e2, h2⟩
    · exact fun e => hA j b _ _ a h1 h2 e.symm
    · omega
/-- The rows' blocks are there. -/
theorem RowsR.blocks {w0 w : World} {rv : List Value} {xss : List (List Int)} (h : RowsR w0 w rv xss) : ∀ (i : Nat) (a : Addr) (m d : Nat), rv[i]? = some (Value.slice (some a) m d) → a.block < w.heap.size := by
  intro i a m d hi
  have hl := (List.getElem?_eq_some_iff.1 hi).1
  obtain ⟨C, c, e, _, hr⟩ := h.2 i _ (List.getElem?_eq_getElem (by rw [← h.1]; exact hl))
  rw [hi] at e
  injection e with e
  injection e with e1 _ _
  obtain ⟨b, cur, e2, _, h2, _⟩ := hr.2 a e1.symm
  rw [e2]
  exact lt_of_block h2
/-- The call hands back these lists in new memory, each in a block of its own. -/
def RetListsA (w0 : World) (xss : List (List Int)) (e : Ending) (w : World) : Prop :=
  ∃ A c rv, e = .returned (.slice A xss.length c) ∧ xss.length ≤ c ∧ OuterR w0 w A xss.length rv ∧ RowsR w0 w rv xss ∧ ApartR rv ∧ Below w0.heap.size w0 w
theorem RetListsA.nil {w0 w : World} (h : Below w0.heap.size w0 w) : RetListsA w0 [] (.returned (.slice none 0 0)) w :=
  ⟨none, 0, [], rfl, Nat.le_refl _, ⟨⟨rfl, by simp, fun h => absurd h (by simp)⟩, fun ad h => by cases h⟩, RowsR.nil, ApartR.nil, h⟩
theorem RetListsA.lists {w0 w : World} {xss : List (List Int)} {e : Ending} (h : RetListsA w0 xss e w) : RetLists w0 xss e w := by
  obtain ⟨A, c, rv, h1, h2, h3, h4, _, h5⟩ := h
  exact ⟨A, c, rv, h1, h2, h3, h4, h5⟩

/-- What a loop over all orders has gathered in 'out', whose box lies at bo. -/
structure OutInv (w0 w : World) (bo q : Nat) (xss : List (List Int)) (V : World) : Prop where
  below : Below w0.heap.size w0 V
  frozen : V.frozen? ⟨bo, 0, none⟩ = false
  out : ∃ ov rv, V.cell? ⟨bo, 0, none⟩ = some ov ∧ V.ownsRow w0.heap.size 40 1 ov xss.length rv ∧ RowsR (six w) V rv xss ∧ ApartR rv ∧ ∀ g, ov.ownBlock = some g → g = q ∨ w.heap.size + 6 ≤ g
theorem own_turned {V W : World} {base : Nat} {e : TypeId} {size n : Nat} {v : Value} {xs : List Value} (h : V.ownsRow base e size v n xs) (hk : ∀ g, v.ownBlock = some g → W.heap[g]? = V.heap[g]?) : W.ownsRow base e size v n xs := by
  refine ⟨h.1, ?_⟩
  rcases h.2 with h1 | ⟨g, cap, cur, e1, h2, h3, h4⟩
  · exact .inl h1
  · exact .inr ⟨g, cap, cur, e1, h2, (hk g (by rw [e1]; simp [Value.ownBlock])).trans h3, h4⟩
theorem FreshInts.turned {w0 V W : World} {A : Option Addr} {n : Nat} {xs : List Int} (h : FreshInts w0 V A n xs) (hs : V.heap.size ≤ W.heap.size) (hk : ∀ g, w0.heap.size ≤ g → g < V.heap.size → (∃ cur, V.heap[g]? = some (.cells cur 3 (0, 0))) → W.heap[g]? = V.heap[g]?) : FreshInts w0 W A n xs := by
  have hblk : ∀ ad, A = some ad → ∃ b cur, ad = ⟨b, 0, none⟩ ∧ w0.heap.size ≤ b ∧ V.heap[b]? = some (.cells cur 3 (0, 0)) ∧ n ≤ cur.size ∧ W.heap[b]? = V.heap[b]? := fun ad had => by
    obtain ⟨b, cur, e, h1, h2, h3⟩ := h.2 ad had
    exact ⟨b, cur, e, h1, h2, h3, hk b h1 (lt_of_block h2) ⟨cur, h2⟩⟩
  refine ⟨⟨h.1.1, h.1.2.1, fun hn => ?_⟩, fun ad had => ?_⟩
  · obtain ⟨b, off, hA, hlt, hc⟩ := h.1.2.2 hn
    obtain ⟨b', cur, e, _, _, _, hkb⟩ := hblk _ hA
    injection e with e1 e2 _
    subst e1
    exact ⟨b, off, hA, by omega, fun i x hx => (World.cell?_of_block (w := V) (a := ⟨b, off + i, none⟩) hkb).trans (hc i x hx)⟩
  · obtain ⟨b, cur, e, h1, h2, h3, hkb⟩ := hblk ad had
    exact ⟨b, cur, e, h1, hkb.trans h2, h3⟩
theorem RowsR.turned {w0 V W : World} {rv : List Value} {xss : List (List Int)} (h : RowsR w0 V rv xss) (hs : V.heap.size ≤ W.heap.size) (hk : ∀ g, w0.heap.size ≤ g → g < V.heap.size → (∃ cur, V.heap[g]? = some (.cells cur 3 (0, 0))) → W.heap[g]? = V.heap[g]?) : RowsR w0 W rv xss :=
  ⟨h.1, fun i xs hi => by obtain ⟨C, c, e, hmc, hr⟩ := h.2 i xs hi; exact ⟨C, c, e, hmc, hr.turned hs hk⟩⟩
theorem OutInv.open_ {w0 w : World} {bo q : Nat} {xss : List (List Int)} {V W : World} (h : OutInv w0 w bo q xss V) (hq : q < w.heap.size) (hw : w0.heap.size ≤ w.heap.size) (hbo : bo < w.heap.size) (hst : LpStep w.heap.size V W) :
    Below w0.heap.size w0 W ∧ W.frozen? ⟨bo, 0, none⟩ = false ∧ ∃ ov rv, W.cell? ⟨bo, 0, none⟩ = some ov ∧ W.ownsRow w0.heap.size 40 1 ov xss.length rv ∧ RowsR (six w) W rv xss ∧ ApartR rv ∧ (∀ g, ov.ownBlock = some g → g = q ∨ w.heap.size + 6 ≤ g) ∧
      ∀ (i : Nat) (a : Addr) (m d : Nat), rv[i]? = some (Value.slice (some a) m d) → a.block < V.heap.size := by
  obtain ⟨hb, hf, ov, rv, hc, hown, hr, hap, hg⟩ := h
  have hbV : bo < V.heap.size := block_lt_of_cell hc
  have kb : W.heap[bo]? = V.heap[bo]? := hst.block bo hbV (by omega)
  refine ⟨⟨hst.os.trans hb.os, hst.tape.trans hb.tape, hst.output.trans hb.output, Nat.le_trans hb.size hst.size, fun k hk => (hst.block k (Nat.lt_of_lt_of_le hk hb.size) (by omega)).trans (hb.block k hk)⟩, ?_, ov, rv, (World.cell?_of_block (w := V) (a := ⟨bo, 0, none⟩) kb).trans hc, ?_, ?_, hap, hg, hr.blocks⟩
  · rw [World.frozen?_of_block (w := V) (a := ⟨bo, 0, none⟩) kb]; exact hf
  · refine own_turned hown fun g hge => hst.block g ?_ (by have := hg g hge; omega)
    rcases hown.2 with ⟨h1, _⟩ | ⟨g', cap, cur, e1, _, h3, _⟩
    · rw [h1] at hge; cases hge
    · rw [e1] at hge
      have : g' = g := by simpa [Value.ownBlock] using hge
      subst this
      exact lt_of_block h3
  · exact hr.turned hst.size fun g h6 hgV _ => hst.block g hgV (by rw [six_size] at h6; omega)
theorem OutInv.step {w0 w : World} {bo q : Nat} {xss : List (List Int)} {V W : World} (h : OutInv w0 w bo q xss V) (hq : q < w.heap.size) (hw : w0.heap.size ≤ w.heap.size) (hbo : bo < w.heap.size) (hst : LpStep w.heap.size V W) : OutInv w0 w bo q xss W := by
  obtain ⟨h1, h2, ov, rv, h3, h4, h5, h6, h7, _⟩ := h.open_ hq hw hbo hst
  exact ⟨h1, h2, ov, rv, h3, h4, h5, h6, h7⟩
theorem OutInv.start {w0 w : World} {bo q : Nat} (hb : Below w0.heap.size w0 w) (hc : w.cell? ⟨bo, 0, none⟩ = some (.slice (some ⟨q, 0, none⟩) 0 0)) (hf : w.frozen? ⟨bo, 0, none⟩ = false) (hown : w.ownsRow w0.heap.size 40 1 (.slice (some ⟨q, 0, none⟩) 0 0) 0 []) : OutInv w0 w bo q [] w :=
  ⟨hb, hf, _, [], hc, hown, RowsR.nil, ApartR.nil, fun g hg => .inl (by simpa [Value.ownBlock, eq_comm] using hg)⟩
/-- One order more in 'out': a list of the call's own, appended; the box of 'out' turned. -/
theorem OutInv.push {w0 w : World} {bo q : Nat} {xss : List (List Int)} {V V1 W : World} {ov ov' : Value} {rv : List Value} {A : Option Addr} {n : Nat} {x : List Int} (hw : w0.heap.size ≤ w.heap.size) (hbo : bo < w.heap.size) (hbo0 : w0.heap.size ≤ bo) (hq : q ≠ bo ∧ q < w.heap.size)
    (hb : Below w0.heap.size w0 V) (hf : V.frozen? ⟨bo, 0, none⟩ = false) (hc : V.cell? ⟨bo, 0, none⟩ = some ov) (hown : V.ownsRow w0.heap.size 40 1 ov xss.length rv) (hr : RowsR (six w) V rv xss) (hap : ApartR (rv ++ [.slice A n n])) (hg : ∀ g, ov.ownBlock = some g → g = q ∨ w.heap.size + 6 ≤ g)
    (hx : FreshInts (six w) V A n x) (hxl : x.length = n) (hb1 : Below V.heap.size V V1) (hlo : w.heap.size + 6 ≤ V.heap.size)
    (hown' : W.ownsRow w0.heap.size 40 1 ov' (xss.length + 1) (rv ++ [.slice A n n])) (hgr : V1.grownBy W ov.ownBlock) (hnew : ov'.ownBlock = ov.ownBlock ∨ ov'.ownBlock = some V1.heap.size) :
    OutInv w0 w bo q (xss ++ [x]) (W.setCell ⟨bo, 0, none⟩ ov') := by
  have hs1 := hb1.size
  have hgs := World.grownBy.size hgr
  have hboV : bo < V.heap.size := block_lt_of_cell hc
  have hown1 : V1.ownsRow w0.heap.size 40 1 ov xss.length rv := own_below hown hb1
  have hne : ov.ownBlock ≠ some bo := fun e => by have := hg bo e; omega
  have hWbo : W.heap[bo]? = V.heap[bo]? := (hgr.block bo (by omega) (fun e => hne e.symm)).trans (hb1.block bo hboV)
  have hbW : Below w0.heap.size w0 W := Below.own (hb.trans (hb1.mono hb.size)) hown1 (Nat.le_refl _) hgr
  have hint : ∀ g, ov.ownBlock = some g → ∀ cur, V1.heap[g]? ≠ some (.cells cur 3 (0, 0)) := own_noInt hown1
  have turn : ∀ g, V.heap.size > g → (∃ cur, V.heap[g]? = some (.cells cur 3 (0, 0))) → g ≠ bo → (W.setCell ⟨bo, 0, none⟩ ov').heap[g]? = V.heap[g]? := by
    intro g hgV ⟨cur, hcur⟩ hgb
    refine (Below.heap_setCell W _ _ g (by simpa using hgb)).trans ?_
    refine (hgr.block g (by omega) ?_).trans (hb1.block g hgV)
    intro e
    exact hint g e.symm cur ((hb1.block g hgV).trans hcur)
  refine ⟨hbW.setCell (by simpa using hbo0) _, ?_, ov', rv ++ [.slice A n n], World.cell?_setCell_same' _ _ _ ?_, ?_, ?_, hap, ?_⟩
  · rw [World.frozen?_setCell, World.frozen?_of_block (w := V) (a := ⟨bo, 0, none⟩) hWbo]; exact hf
  · rw [World.cell?_of_block (w := V) (a := ⟨bo, 0, none⟩) hWbo, hc]; rfl
  · rw [List.length_append, List.length_singleton]
    refine own_turned hown' fun g hge => Below.heap_setCell W _ _ g ?_
    intro e
    simp only at e
    subst e
    rcases hnew with h | h
    · rw [h] at hge; have := hg _ hge; omega
    · rw [h] at hge; injection hge with hge; omega
  · refine RowsR.append (hr.turned (by simp [World.setCell]; omega) fun g h6 hgV hcur => turn g hgV hcur (by rw [six_size] at h6; omega)) ?_
    exact RowsR.lit hxl (Nat.le_refl _) (hx.turned (by simp [World.setCell]; omega) fun g h6 hgV hcur => turn g hgV hcur (by rw [six_size] at h6; omega))
  · intro g hge
    rcases hnew with h | h
    · rw [h] at hge; exact hg g hge
    · rw [h] at hge; injection hge with hge; exact .inr (by omega)
/-- What such a push keeps of all else. -/
theorem push_keep {w : World} {bo q bx n0 : Nat} {V V1 W : World} {ov ov' : Value} (hbo : bo < w.heap.size) (hn0 : n0 ≤ bo ∧ n0 ≤ q) (hne : bx ≠ bo ∧ bx ≠ q ∧ bx < w.heap.size) (hq : q < w.heap.size)
    (hg : ∀ g, ov.ownBlock = some g → g = q ∨ w.heap.size + 6 ≤ g) (hn0w : n0 ≤ w.heap.size) (hb1 : Below V.heap.size V V1) (hgr : V1.grownBy W ov.ownBlock) :
    BdKeep w.heap.size bx n0 V (W.setCell ⟨bo, 0, none⟩ ov') := by
  have hs1 := hb1.size
  have hgs := World.grownBy.size hgr
  refine ⟨by simp [World.setCell]; omega, fun k hk hc => ?_⟩
  refine (Below.heap_setCell W _ _ k ?_).trans ((hgr.block k (by omega) ?_).trans (hb1.block k hk))
  · simp only; omega
  · intro e
    have := hg k e.symm
    omega
theorem push_cell {w : World} {bo q p : Nat} {V V1 W : World} {ov ov' v : Value} (hg : ∀ g, ov.ownBlock = some g → g = q ∨ w.heap.size + 6 ≤ g) (hp : p < w.heap.size) (hpq : p ≠ q) (hpb : p ≠ bo) (hb1 : Below V.heap.size V V1) (hgr : V1.grownBy W ov.ownBlock)
    (hc : V.cell? ⟨p, 0, none⟩ = some v) : (W.setCell ⟨bo, 0, none⟩ ov').cell? ⟨p, 0, none⟩ = some v := by
  have hpV : p < V.heap.size := block_lt_of_cell hc
  have hs1 := hb1.size
  refine (World.cell?_of_block (w := V) (a := ⟨p, 0, none⟩) ?_).trans hc
  refine (Below.heap_setCell W _ _ p (by simpa using hpb)).trans ((hgr.block p (by omega) ?_).trans (hb1.block p hpV))
  intro e
  have := hg p e.symm
  omega
end Go.Proofs.Ytkbclcgdkbhgdaa
