/-
  The reader that the generators draw from: newReader, pick and one return; pick stays in its range.
-/
import Derived.Test.YtddkjbibjjehjaaDoorBase
namespace Go.Proofs.YtddkjbibjjehjaaDoor
open Go.RowKit Go.BigFrame
set_option linter.unusedVariables false

/-- Block rb is a reader at position p, whose bytes lie in an older block. -/
def Rd (w : World) (rb : Nat) (p : Nat) : Prop :=
  ∃ (A : Option Addr) (m c : Nat), w.heap[rb]? = some (.cells #[.slice A m c, .int .i64 (p : Int)] 60 (0, 0)) ∧ m ≤ 2000 ∧
    (0 < m → ∃ (b off : Nat) (f : Nat → Int), A = some ⟨b, off, none⟩ ∧ b < rb ∧ ∀ i, i < m → 0 ≤ f i ∧ f i ≤ 255 ∧ w.cell? ⟨b, off + i, none⟩ = some (.int .u8 (f i)))

/-- Only block rb, and what is new, has turned. -/
def Only (rb : Nat) (w w' : World) : Prop := w.grownBy w' (some rb)

theorem Only.refl (rb : Nat) (w : World) : Only rb w w := ⟨rfl, rfl, rfl, Nat.le_refl _, fun _ _ _ => rfl⟩
theorem Only.trans {rb : Nat} {a b c : World} (h : Only rb a b) (k : Only rb b c) : Only rb a c := World.grownBy.trans h k
theorem Only.size {rb : Nat} {a b : World} (h : Only rb a b) : a.heap.size ≤ b.heap.size := World.grownBy.size h
theorem Only.of_below {rb : Nat} {a b : World} (h : Below a.heap.size a b) : Only rb a b := ⟨h.os, h.tape, h.output, h.size, fun i hi _ => h.block i hi⟩
theorem Only.cell {rb : Nat} {a w : World} (h : Only rb a w) {b o : Nat} (hb : b < a.heap.size) (hne : b ≠ rb) : w.cell? ⟨b, o, none⟩ = a.cell? ⟨b, o, none⟩ :=
  World.cell?_of_block (w := a) (a := ⟨b, o, none⟩) (h.block b hb (fun e => hne (by injection e)))
theorem Only.heap {rb : Nat} {a w : World} (h : Only rb a w) {b : Nat} (hb : b < a.heap.size) (hne : b ≠ rb) : w.heap[b]? = a.heap[b]? :=
  h.block b hb (fun e => hne (by injection e))
theorem Only.drewN {rb : Nat} {a w : World} (h : Only rb a w) (n : Nat) : Only rb a (w.drewN n) := ⟨h.os, h.tape, h.output, h.size, h.block⟩
theorem Only.alloc {rb : Nat} {a w : World} (h : Only rb a w) (o : Obj) : Only rb a (w.alloc o) :=
  ⟨h.os, h.tape, h.output, Nat.le_trans h.size (by simp), fun i hi hne => (Below.heap_alloc w o i (Nat.lt_of_lt_of_le hi h.size)).trans (h.block i hi hne)⟩
theorem Only.setCell {a w : World} {g : Nat} (h : Only g a w) {p : Addr} (hp : p.block = g ∨ a.heap.size ≤ p.block) (u : Value) : Only g a (w.setCell p u) :=
  ⟨h.os, h.tape, h.output, by simpa [World.setCell] using h.size, fun i hi hne => (Below.heap_setCell w p u i (by
    rintro rfl
    rcases hp with hp | hp
    · exact hne (by rw [hp])
    · omega)).trans (h.block i hi hne)⟩

theorem Rd.lt {w : World} {rb p : Nat} (h : Rd w rb p) : rb < w.heap.size := by
  obtain ⟨A, m, c, hh, _⟩ := h
  exact lt_of_block hh
theorem Rd.drewN {w : World} {rb p : Nat} (h : Rd w rb p) (n : Nat) : Rd (w.drewN n) rb p := h
/-- A reader is kept by whatever does not touch it. -/
theorem Rd.below {w w' : World} {rb p : Nat} (h : Rd w rb p) (hb : Below w.heap.size w w') : Rd w' rb p := by
  have hlt := h.lt
  obtain ⟨A, m, c, hh, hm, hc⟩ := h
  refine ⟨A, m, c, (hb.block rb hlt).trans hh, hm, fun h0 => ?_⟩
  obtain ⟨b, off, f, hA, hbl, hf⟩ := hc h0
  exact ⟨b, off, f, hA, hbl, fun i hi => ⟨(hf i hi).1, (hf i hi).2.1, (hb.cell (p := ⟨b, _, none⟩) (by simp; omega)).trans (hf i hi).2.2⟩⟩

theorem ofInt_i64 (a : Nat) (ha : a < 9223372036854775808) : (BitVec.ofInt 64 (a : Int)).toNat = a := by
  rw [BitVec.ofInt_natCast, BitVec.toNat_ofNat]; exact Nat.mod_eq_of_lt (by omega)
theorem xor_nat (a b : Nat) (ha : a < 9223372036854775808) (hb : b < 9223372036854775808) : bits .xor .i64 (a : Int) (b : Int) = ((a ^^^ b : Nat) : Int) := by
  have hx : a ^^^ b < 2 ^ 63 := Nat.xor_lt_two_pow (by omega) (by omega)
  show IntKind.i64.wrap ((BitVec.ofInt 64 (a : Int) ^^^ BitVec.ofInt 64 (b : Int)).toNat : Int) = _
  rw [BitVec.toNat_xor, ofInt_i64 a ha, ofInt_i64 b hb, IntKind.wrap_i64]
  omega
/-- The mixture is not below 0, so its remainder is in range. -/
theorem mix_rng (x n : Int) (h0 : 0 ≤ x) (h1 : x < 9223372036854775808) (hn : 1 ≤ n) : 0 ≤ (bits .xor .i64 x (x / 64)).tmod n ∧ (bits .xor .i64 x (x / 64)).tmod n < n := by
  obtain ⟨a, rfl⟩ := Int.eq_ofNat_of_zero_le h0
  have e : ((a : Int) / 64) = ((a / 64 : Nat) : Int) := by omega
  rw [e, xor_nat a (a / 64) (by omega) (by omega)]
  exact ⟨Int.tmod_nonneg _ (by omega), Int.tmod_lt_of_pos _ (by omega)⟩

def Picked (rb p : Nat) (n : Int) (w : World) (e : Ending) (w' : World) : Prop :=
  ∃ v : Int, e = .returned (.int .i64 v) ∧ Rd w' rb (p + 1) ∧ (n < 1 → v = 0) ∧ (1 ≤ n → 0 ≤ v ∧ v < n) ∧ Only rb w w'

set_option maxHeartbeats 400000 in
theorem pick_any (rb p : Nat) (n : Int) (w : World) (h : Rd w rb p) (hp : p ≤ 100000) (hn : n ≤ 1099511627776) :
    Calls Tryd.prog 31 #[.pointer (some ⟨rb, 0, none⟩), .int .i64 n] w (Picked rb p n w) := by
  have hlt := h.lt
  obtain ⟨A, m, c, hh, hm, hc⟩ := h
  have c0 : w.cell? ⟨rb, 0, none⟩ = some (.slice A m c) := by simp [World.cell?, hh]
  have c1 : w.cell? ⟨rb, 1, none⟩ = some (.int .i64 (p : Int)) := by simp [World.cell?, hh]
  have f1 : w.frozen? ⟨rb, 1, none⟩ = false := by simp [World.frozen?, hh]
  have HO : Hid (Only rb w (w.setCell ⟨rb, 1, none⟩ (.int .i64 ((p : Int) + 1)))) := (Only.refl rb w).setCell (.inl rfl) _
  have HR : Hid (Rd (w.setCell ⟨rb, 1, none⟩ (.int .i64 ((p : Int) + 1))) rb (p + 1)) := by
    refine ⟨A, m, c, by simp [World.setCell, Array.getElem?_modify, hh], hm, fun h0 => ?_⟩
    obtain ⟨b, off, f, hA, hbl, hf⟩ := hc h0
    refine ⟨b, off, f, hA, hbl, fun i hi => ⟨(hf i hi).1, (hf i hi).2.1, ?_⟩⟩
    rw [World.cell?_setCell_other _ _ _ _ (by simp; try omega)]
    exact (hf i hi).2.2
  clear hh
  by_cases hn1 : n < 1
  · clear hc
    go_enter Tryd.func31, Tryd.ntmps31
    go_wp2
    go_ret
    exact ⟨0, rfl, HR.out, fun _ => rfl, fun h => absurd h (by omega), HO.out⟩
  · by_cases hm0 : m = 0
    · subst hm0
      clear hc
      go_enter Tryd.func31, Tryd.ntmps31
      go_wp2
      go_ret
      exact ⟨0, rfl, HR.out, fun _ => rfl, fun h => ⟨by omega, by omega⟩, HO.out⟩
    · obtain ⟨b, off, f, rfl, hbl, hf⟩ := hc (by omega)
      have hbr : b ≠ rb := by omega
      by_cases hk : p < m
      · obtain ⟨g0, g1, g2⟩ := hf p hk
        clear hf
        go_enter Tryd.func31, Tryd.ntmps31
        go_wp2
        go_ret
        exact ⟨f p % n, rfl, HR.out, fun h => absurd h (by omega), fun _ => ⟨Int.emod_nonneg _ (by omega), Int.emod_lt_of_pos _ (by omega)⟩, HO.out⟩
      · have hmp : 0 < m := by omega
        have hq1 : p % m < m := Nat.mod_lt _ hmp
        have hq2 : (p * 7 + 3) % m < m := Nat.mod_lt _ hmp
        have hq3 : (p / m) ≤ p := Nat.div_le_self _ _
        obtain ⟨g0, g1, g2⟩ := hf (p % m) hq1
        obtain ⟨k0, k1, k2⟩ := hf ((p * 7 + 3) % m) hq2
        clear hf
        have e1 : 0 ≤ ((p : Int) % (m : Int)) := Int.emod_nonneg _ (by omega)
        have e2 : ((p : Int) % (m : Int)) < m := Int.emod_lt_of_pos _ (by omega)
        have e5 : 0 ≤ ((p : Int) / (m : Int)) := Int.ediv_nonneg (by omega) (by omega)
        have e6 : ((p : Int) / (m : Int)) ≤ 100000 := Int.le_trans (Int.ediv_le_self _ (by omega)) (by omega)
        have e3 : 0 ≤ (((p : Int) * 7 + 3) % (m : Int)) := Int.emod_nonneg _ (by omega)
        have e4 : (((p : Int) * 7 + 3) % (m : Int)) < m := Int.emod_lt_of_pos _ (by omega)
        go_enter Tryd.func31, Tryd.ntmps31
        go_wp2
        refine wp_region_quiet_lit (by kernel_rfl) (by kernel_rfl) ?_
        iterate 46 (go_big_quiet_want; go_big_quiet_op; go_big_quiet_on)
        refine wpQuiet_nil ?_
        intro _ hw'
        obtain ⟨nq, hw''⟩ := hw'
        subst hw''
        go_wp2
        go_ret
        exact ⟨_, rfl, HR.out.drewN nq, fun h => absurd h (by omega), fun _ => mix_rng _ _ (by omega) (by omega) (by omega), HO.out.drewN nq⟩

def OneOf (rb p : Nat) (xs : List Int) (w : World) (e : Ending) (w' : World) : Prop :=
  ∃ v : Int, e = .returned (.int .i64 v) ∧ v ∈ xs ∧ Rd w' rb (p + 1) ∧ Only rb w w'

set_option maxHeartbeats 400000 in
theorem one_any (rb p : Nat) (A : Option Addr) (k c : Nat) (xs : List Int) (w : World) (h : Rd w rb p) (hp : p ≤ 100000) (hx : RInts w A k xs) (hk : 0 < k)
    (hne : ∀ ad, A = some ad → ad.block ≠ rb) :
    Calls Tryd.prog 53 #[.pointer (some ⟨rb, 0, none⟩), .slice A k c] w (OneOf rb p xs w) := by
  have hkb := hx.2.1
  have hat : ∀ (v : Int) (w1 : World), Only rb w w1 → 0 ≤ v → v < k → ∃ b off x, A = some ⟨b, off, none⟩ ∧ x ∈ xs ∧ w1.cell? ⟨b, off + v.toNat, none⟩ = some (.int .i64 x) := by
    intro v w1 ho h0 h1
    obtain ⟨b, off, x, hA, hlt, hxx, hc⟩ := hx.at_ (k := v.toNat) (by omega)
    exact ⟨b, off, x, hA, List.mem_of_getElem? hxx, (ho.cell hlt (hne _ hA)).trans hc⟩
  have HA := Lib.hid hat
  clear hat hx hne
  go_enter Tryd.func53, Tryd.ntmps53
  go_wp2_with fail
  refine (pick_any rb p _ w h hp (by omega)).mono ?_
  rintro e w1 ⟨v, rfl, hr, _, hv, ho⟩
  obtain ⟨hv0, hv1⟩ := hv (by omega)
  obtain ⟨b, off, x, hA, hxm, hc⟩ := HA.out v w1 ho hv0 hv1
  subst hA
  go_wp2_with fail
  go_ret
  exact ⟨x, rfl, hxm, hr, ho⟩

def Made (w : World) (e : Ending) (w' : World) : Prop :=
  ∃ rb, e = .returned (.pointer (some ⟨rb, 0, none⟩)) ∧ w.heap.size ≤ rb ∧ Rd w' rb 0 ∧ Below w.heap.size w w'

set_option maxHeartbeats 400000 in
theorem newReader_any (A : Option Addr) (n c : Nat) (w : World) (hx : RBytes w A n) (hc : n ≤ c) :
    Calls Tryd.prog 23 #[.slice A n c] w (Made w) := by
  obtain ⟨hn, hx⟩ := hx
  have hin : ∀ m c', m ≤ n → m ≤ 2000 → Rd (w.alloc (.cells #[.slice A m c', .int .i64 0] 60)) w.heap.size 0 := by
    intro m c' hm h2
    refine ⟨A, m, c', heap_alloc_new w _, h2, fun h0 => ?_⟩
    obtain ⟨b, off, hA, hlt, hf⟩ := hx (by omega)
    have hch := fun i => if h : i < n then (hf i h).choose else (0 : Int)
    refine ⟨b, off, fun i => if h : i < n then (hf i h).choose else 0, hA, hlt, fun i hi => ?_⟩
    have hin : i < n := by omega
    simp only [hin, dif_pos]
    have hs := (hf i hin).choose_spec
    exact ⟨hs.1, hs.2.1, (World.cell?_alloc_lt w _ ⟨b, off + i, none⟩ (by simpa using hlt)).trans hs.2.2⟩
  have HI := Lib.hid hin
  clear hin hx
  by_cases h2 : 2000 < n
  · go_enter Tryd.func23, Tryd.ntmps23
    go_wp2
    go_ret
    exact ⟨_, rfl, Nat.le_refl _, HI.out 2000 _ (by omega) (by omega), (Below.refl _ _).alloc (Nat.le_refl _) _⟩
  · go_enter Tryd.func23, Tryd.ntmps23
    go_wp2
    go_ret
    exact ⟨_, rfl, Nat.le_refl _, HI.out n _ (by omega) (by omega), (Below.refl _ _).alloc (Nat.le_refl _) _⟩

end Go.Proofs.YtddkjbibjjehjaaDoor
