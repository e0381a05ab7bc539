/-
  Texts that the proofs rest on, joined: PkLkB.
-/
import Derived.Test.YtcakjhappchlmaaPkLkA
import Derived.Deep.LoopGhost
import Derived.StillTailTactics
import Derived.IntWalk
namespace Go.Proofs.Ytcakjhappchlmaa
open Go.RowKit Go.BigFrame
set_option linter.unusedVariables false

/-- Block rb is a reader at position p, whose bytes lie in an older block. -/
def Rd (w : World) (rb : Nat) (p : Nat) : Prop :=
  ∃ (A : Option Addr) (m c : Nat), w.heap[rb]? = some (.cells #[.slice A m c, .int .i64 (p : Int)] 118 (0, 0)) ∧ m ≤ 2000 ∧
    (0 < m → ∃ (b off : Nat) (f : Nat → Int), A = some ⟨b, off, none⟩ ∧ b < rb ∧ ∀ i, i < m → 0 ≤ f i ∧ f i ≤ 255 ∧ w.cell? ⟨b, off + i, none⟩ = some (.int .u8 (f i)))

/-- Only block rb, and what is new, has turned. -/
def Only (rb : Nat) (w w' : World) : Prop := w.grownBy w' (some rb)

theorem Only.refl (rb : Nat) (w : World) : Only rb w w := ⟨rfl, rfl, rfl, Nat.le_refl _, fun _ _ _ => rfl⟩
theorem Only.trans {rb : Nat} {a b c : World} (h : Only rb a b) (k : Only rb b c) : Only rb a c := World.grownBy.trans h k
theorem Only.size {rb : Nat} {a b : World} (h : Only rb a b) : a.heap.size ≤ b.heap.size := World.grownBy.size h
theorem Only.of_below {rb : Nat} {a b : World} (h : Below a.heap.size a b) : Only rb a b := ⟨h.os, h.tape, h.output, h.size, fun i hi _ => h.block i hi⟩
theorem Only.cell {rb : Nat} {a w : World} (h : Only rb a w) {b o : Nat} (hb : b < a.heap.size) (hne : b ≠ rb) : w.cell? ⟨b, o, none⟩ = a.cell? ⟨b, o, none⟩ :=
  World.cell?_of_block (w := a) (a := ⟨b, o, none⟩) (h.block b hb (fun e => hne (by injection e)))
theorem Only.heap {rb : Nat} {a w : World} (h : Only rb a w) {b : Nat} (hb : b < a.heap.size) (hne : b ≠ rb) : w.heap[b]? = a.heap[b]? :=
  h.block b hb (fun e => hne (by injection e))
theorem Only.drewN {rb : Nat} {a w : World} (h : Only rb a w) (n : Nat) : Only rb a (w.drewN n) := ⟨h.os, h.tape, h.output, h.size, h.block⟩
theorem Only.alloc {rb : Nat} {a w : World} (h : Only rb a w) (o : Obj) : Only rb a (w.alloc o) :=
  ⟨h.os, h.tape, h.output, Nat.le_trans h.size (by simp), fun i hi hne => (Below.heap_alloc w o i (Nat.lt_of_lt_of_le hi h.size)).trans (h.block i hi hne)⟩
theorem Only.setCell {a w : World} {g : Nat} (h : Only g a w) {p : Addr} (hp : p.block = g ∨ a.heap.size ≤ p.block) (u : Value) : Only g a (w.setCell p u) :=
  ⟨h.os, h.tape, h.output, by simpa [World.setCell] using h.size, fun i hi hne => (Below.heap_setCell w p u i (by
    rintro rfl
    rcases hp with hp | hp
    · exact hne (by rw [hp])
    · omega)).trans (h.block i hi hne)⟩

theorem Rd.lt {w : World} {rb p : Nat} (h : Rd w rb p) : rb < w.heap.size := by
  obtain ⟨A, m, c, hh, _⟩ := h
  exact lt_of_block hh
theorem Rd.drewN {w : World} {rb p : Nat} (h : Rd w rb p) (n : Nat) : Rd (w.drewN n) rb p := h
/-- A reader is kept by whatever does not touch it. -/
theorem Rd.below {w w' : World} {rb p : Nat} (h : Rd w rb p) (hb : Below w.heap.size w w') : Rd w' rb p := by
  have hlt := h.lt
  obtain ⟨A, m, c, hh, hm, hc⟩ := h
  refine ⟨A, m, c, (hb.block rb hlt).trans hh, hm, fun h0 => ?_⟩
  obtain ⟨b, off, f, hA, hbl, hf⟩ := hc h0
  exact ⟨b, off, f, hA, hbl, fun i hi => ⟨(hf i hi).1, (hf i hi).2.1, (hb.cell (p := ⟨b, _, none⟩) (by simp; omega)).trans (hf i hi).2.2⟩⟩

theorem ofInt_i64 (a : Nat) (ha : a < 9223372036854775808) : (BitVec.ofInt 64 (a : Int)).toNat = a := by
  rw [BitVec.ofInt_natCast, BitVec.toNat_ofNat]; exact Nat.mod_eq_of_lt (by omega)
theorem xor_nat (a b : Nat) (ha : a < 9223372036854775808) (hb : b < 9223372036854775808) : bits .xor .i64 (a : Int) (b : Int) = ((a ^^^ b : Nat) : Int) := by
  have hx : a ^^^ b < 2 ^ 63 := Nat.xor_lt_two_pow (by omega) (by omega)
  show IntKind.i64.wrap ((BitVec.ofInt 64 (a : Int) ^^^ BitVec.ofInt 64 (b : Int)).toNat : Int) = _
  rw [BitVec.toNat_xor, ofInt_i64 a ha, ofInt_i64 b hb, IntKind.wrap_i64]
  omega
/-- The mixture is not below 0, so its remainder is in range. -/
theorem mix_rng (x n : Int) (h0 : 0 ≤ x) (h1 : x < 9223372036854775808) (hn : 1 ≤ n) : 0 ≤ (bits .xor .i64 x (x / 64)).tmod n ∧ (bits .xor .i64 x (x / 64)).tmod n < n := by
  obtain ⟨a, rfl⟩ := Int.eq_ofNat_of_zero_le h0
  have e : ((a : Int) / 64) = ((a / 64 : Nat) : Int) := by omega
  rw [e, xor_nat a (a / 64) (by omega) (by omega)]
  exact ⟨Int.tmod_nonneg _ (by omega), Int.tmod_lt_of_pos _ (by omega)⟩

def Picked (rb p : Nat) (n : Int) (w : World) (e : Ending) (w' : World) : Prop :=
  ∃ v : Int, e = .returned (.int .i64 v) ∧ Rd w' rb (p + 1) ∧ (n < 1 → v = 0) ∧ (1 ≤ n → 0 ≤ v ∧ v < n) ∧ Only rb w w'

set_option maxHeartbeats 400000 in
theorem pick_any (rb p : Nat) (n : Int) (w : World) (h : Rd w rb p) (hp : p ≤ 100000) (hn : n ≤ 1099511627776) :
    Calls Try.prog 78 #[.pointer (some ⟨rb, 0, none⟩), .int .i64 n] w (Picked rb p n w) := by
  have hlt := h.lt
  obtain ⟨A, m, c, hh, hm, hc⟩ := h
  have c0 : w.cell? ⟨rb, 0, none⟩ = some (.slice A m c) := by simp [World.cell?, hh]
  have c1 : w.cell? ⟨rb, 1, none⟩ = some (.int .i64 (p : Int)) := by simp [World.cell?, hh]
  have f1 : w.frozen? ⟨rb, 1, none⟩ = false := by simp [World.frozen?, hh]
  have HO : Hid (Only rb w (w.setCell ⟨rb, 1, none⟩ (.int .i64 ((p : Int) + 1)))) := (Only.refl rb w).setCell (.inl rfl) _
  have HR : Hid (Rd (w.setCell ⟨rb, 1, none⟩ (.int .i64 ((p : Int) + 1))) rb (p + 1)) := by
    refine ⟨A, m, c, by simp [World.setCell, Array.getElem?_modify, hh], hm, fun h0 => ?_⟩
    obtain ⟨b, off, f, hA, hbl, hf⟩ := hc h0
    refine ⟨b, off, f, hA, hbl, fun i hi => ⟨(hf i hi).1, (hf i hi).2.1, ?_⟩⟩
    rw [World.cell?_setCell_other _ _ _ _ (by simp; try omega)]
    exact (hf i hi).2.2
  clear hh
  by_cases hn1 : n < 1
  · clear hc
    go_enter Try.func78, Try.ntmps78
    go_wp2
    go_ret
    exact ⟨0, rfl, HR.out, fun _ => rfl, fun h => absurd h (by omega), HO.out⟩
  · by_cases hm0 : m = 0
    · subst hm0
      clear hc
      go_enter Try.func78, Try.ntmps78
      go_wp2
      go_ret
      exact ⟨0, rfl, HR.out, fun _ => rfl, fun h => ⟨by omega, by omega⟩, HO.out⟩
    · obtain ⟨b, off, f, rfl, hbl, hf⟩ := hc (by omega)
      have hbr : b ≠ rb := by omega
      by_cases hk : p < m
      · obtain ⟨g0, g1, g2⟩ := hf p hk
        clear hf
        go_enter Try.func78, Try.ntmps78
        go_wp2
        go_ret
        exact ⟨f p % n, rfl, HR.out, fun h => absurd h (by omega), fun _ => ⟨Int.emod_nonneg _ (by omega), Int.emod_lt_of_pos _ (by omega)⟩, HO.out⟩
      · have hmp : 0 < m := by omega
        have hq1 : p % m < m := Nat.mod_lt _ hmp
        have hq2 : (p * 7 + 3) % m < m := Nat.mod_lt _ hmp
        have hq3 : (p / m) ≤ p := Nat.div_le_self _ _
        obtain ⟨g0, g1, g2⟩ := hf (p % m) hq1
        obtain ⟨k0, k1, k2⟩ := hf ((p * 7 + 3) % m) hq2
        clear hf
        have e1 : 0 ≤ ((p : Int) % (m : Int)) := Int.emod_nonneg _ (by omega)
        have e2 : ((p : Int) % (m : Int)) < m := Int.emod_lt_of_pos _ (by omega)
        have e5 : 0 ≤ ((p : Int) / (m : Int)) := Int.ediv_nonneg (by omega) (by omega)
        have e6 : ((p : Int) / (m : Int)) ≤ 100000 := Int.le_trans (Int.ediv_le_self _ (by omega)) (by omega)
        have e3 : 0 ≤ (((p : Int) * 7 + 3) % (m : Int)) := Int.emod_nonneg _ (by omega)
        have e4 : (((p : Int) * 7 + 3) % (m : Int)) < m := Int.emod_lt_of_pos _ (by omega)
        go_enter Try.func78, Try.ntmps78
        go_wp2
        refine wp_region_quiet_lit (by kernel_rfl) (by kernel_rfl) ?_
        iterate 46 (go_big_quiet_want; go_big_quiet_op; go_big_quiet_on)
        refine wpQuiet_nil ?_
        intro _ hw'
        obtain ⟨nq, hw''⟩ := hw'
        subst hw''
        go_wp2
        go_ret
        exact ⟨_, rfl, HR.out.drewN nq, fun h => absurd h (by omega), fun _ => mix_rng _ _ (by omega) (by omega) (by omega), HO.out.drewN nq⟩

def OneOf (rb p : Nat) (xs : List Int) (w : World) (e : Ending) (w' : World) : Prop :=
  ∃ v : Int, e = .returned (.int .i64 v) ∧ v ∈ xs ∧ Rd w' rb (p + 1) ∧ Only rb w w'

set_option maxHeartbeats 400000 in
theorem one_any (rb p : Nat) (A : Option Addr) (k c : Nat) (xs : List Int) (w : World) (h : Rd w rb p) (hp : p ≤ 100000) (hx : RInts w A k xs) (hk : 0 < k)
    (hne : ∀ ad, A = some ad → ad.block ≠ rb) :
    Calls Try.prog 77 #[.pointer (some ⟨rb, 0, none⟩), .slice A k c] w (OneOf rb p xs w) := by
  have hkb := hx.2.1
  have hat : ∀ (v : Int) (w1 : World), Only rb w w1 → 0 ≤ v → v < k → ∃ b off x, A = some ⟨b, off, none⟩ ∧ x ∈ xs ∧ w1.cell? ⟨b, off + v.toNat, none⟩ = some (.int .i64 x) := by
    intro v w1 ho h0 h1
    obtain ⟨b, off, x, hA, hlt, hxx, hc⟩ := hx.at_ (k := v.toNat) (by omega)
    exact ⟨b, off, x, hA, List.mem_of_getElem? hxx, (ho.cell hlt (hne _ hA)).trans hc⟩
  have HA := Lib.hid hat
  clear hat hx hne
  go_enter Try.func77, Try.ntmps77
  go_wp2_with fail
  refine (pick_any rb p _ w h hp (by omega)).mono ?_
  rintro e w1 ⟨v, rfl, hr, _, hv, ho⟩
  obtain ⟨hv0, hv1⟩ := hv (by omega)
  obtain ⟨b, off, x, hA, hxm, hc⟩ := HA.out v w1 ho hv0 hv1
  subst hA
  go_wp2_with fail
  go_ret
  exact ⟨x, rfl, hxm, hr, ho⟩

def Made (w : World) (e : Ending) (w' : World) : Prop :=
  ∃ rb, e = .returned (.pointer (some ⟨rb, 0, none⟩)) ∧ w.heap.size ≤ rb ∧ Rd w' rb 0 ∧ Below w.heap.size w w'

set_option maxHeartbeats 400000 in
theorem newReader_any (A : Option Addr) (n c : Nat) (w : World) (hx : RBytes w A n) (hc : n ≤ c) :
    Calls Try.prog 72 #[.slice A n c] w (Made w) := by
  obtain ⟨hn, hx⟩ := hx
  have hin : ∀ m c', m ≤ n → m ≤ 2000 → Rd (w.alloc (.cells #[.slice A m c', .int .i64 0] 118)) w.heap.size 0 := by
    intro m c' hm h2
    refine ⟨A, m, c', heap_alloc_new w _, h2, fun h0 => ?_⟩
    obtain ⟨b, off, hA, hlt, hf⟩ := hx (by omega)
    have hch := fun i => if h : i < n then (hf i h).choose else (0 : Int)
    refine ⟨b, off, fun i => if h : i < n then (hf i h).choose else 0, hA, hlt, fun i hi => ?_⟩
    have hin : i < n := by omega
    simp only [hin, dif_pos]
    have hs := (hf i hin).choose_spec
    exact ⟨hs.1, hs.2.1, (World.cell?_alloc_lt w _ ⟨b, off + i, none⟩ (by simpa using hlt)).trans hs.2.2⟩
  have HI := Lib.hid hin
  clear hin hx
  by_cases h2 : 2000 < n
  · go_enter Try.func72, Try.ntmps72
    go_wp2
    go_ret
    exact ⟨_, rfl, Nat.le_refl _, HI.out 2000 _ (by omega) (by omega), (Below.refl _ _).alloc (Nat.le_refl _) _⟩
  · go_enter Try.func72, Try.ntmps72
    go_wp2
    go_ret
    exact ⟨_, rfl, Nat.le_refl _, HI.out n _ (by omega) (by omega), (Below.refl _ _).alloc (Nat.le_refl _) _⟩

end Go.Proofs.Ytcakjhappchlmaa
namespace Go.Proofs.Ytcakjhappchlmaa
open Go.RowKit Go.BigFrame
set_option linter.unusedVariables false

theorem rowInfo : (Try.prog.info? 38).map (fun i => (i.zero, i.size, i.bytes)) = some (some (.slice none 0 0), 1, 24) := by kernel_rfl

/-- A value that is a row of at most five operations, its block between lo and hi. -/
def RowV (w : World) (lo hi : Nat) (v : Value) : Prop :=
  ∃ (A : Option Addr) (n c : Nat) (xs : List OpV), v = .slice A n c ∧ n ≤ c ∧ n ≤ 5 ∧ ROps w A n xs ∧
    ∀ ad, A = some ad → lo ≤ ad.block ∧ ad.block < hi ∧ ∃ cs fr, w.heap[ad.block]? = some (.cells cs 92 fr)
def RowsV (w : World) (lo hi : Nat) (vs : List Value) : Prop := ∀ v ∈ vs, RowV w lo hi v

theorem RowV.keep {w w' : World} {lo hi : Nat} {v : Value} (h : RowV w lo hi v) (hk : ∀ b, lo ≤ b → b < hi → (∃ cs fr, w.heap[b]? = some (.cells cs 92 fr)) → w'.heap[b]? = w.heap[b]?)
    (hs : w.heap.size ≤ w'.heap.size) : RowV w' lo hi v := by
  obtain ⟨A, n, c, xs, hv, hnc, hn, ⟨h1, h2, h3⟩, hA⟩ := h
  refine ⟨A, n, c, xs, hv, hnc, hn, ⟨h1, h2, fun h0 => ?_⟩, fun ad had => ?_⟩
  · obtain ⟨b, off, rfl, hb, hc⟩ := h3 h0
    obtain ⟨a1, a2, a3⟩ := hA _ rfl
    have hh := hk b a1 a2 a3
    refine ⟨b, off, rfl, by omega, fun i o ho => ?_⟩
    obtain ⟨c0, c1, c2⟩ := hc i o ho
    exact ⟨(World.cell?_of_block (w := w) (a := ⟨b, _, none⟩) hh).trans c0, (World.cell?_of_block (w := w) (a := ⟨b, _, none⟩) hh).trans c1, (World.cell?_of_block (w := w) (a := ⟨b, _, none⟩) hh).trans c2⟩
  · obtain ⟨a1, a2, cs, fr, a3⟩ := hA _ had
    exact ⟨a1, a2, cs, fr, (hk _ a1 a2 ⟨cs, fr, a3⟩).trans a3⟩
theorem RowV.wider {w : World} {lo hi hi' : Nat} {v : Value} (h : RowV w lo hi v) (hh : hi ≤ hi') : RowV w lo hi' v := by
  obtain ⟨A, n, c, xs, hv, hnc, hn, hr, hA⟩ := h
  exact ⟨A, n, c, xs, hv, hnc, hn, hr, fun ad had => ⟨(hA ad had).1, by have := (hA ad had).2.1; omega, (hA ad had).2.2⟩⟩
theorem RowsV.keep {w w' : World} {lo hi : Nat} {vs : List Value} (h : RowsV w lo hi vs) (hk : ∀ b, lo ≤ b → b < hi → (∃ cs fr, w.heap[b]? = some (.cells cs 92 fr)) → w'.heap[b]? = w.heap[b]?)
    (hs : w.heap.size ≤ w'.heap.size) : RowsV w' lo hi vs := fun v hv => (h v hv).keep hk hs
/-- An own row of operations, as a row value. -/
theorem RowV.of_own {w : World} {lo base c n : Nat} {A : Option Addr} {xs : List OpV} (h : w.ownsRow base 92 3 (.slice A n c) n (opCells xs)) (hlo : lo ≤ base) (hn : n ≤ 5) : RowV w lo w.heap.size (.slice A n c) := by
  refine ⟨A, n, c, xs, rfl, ?_, hn, ROps.of_own h (by omega), fun ad had => ?_⟩
  · rcases h.2 with ⟨h1, h2⟩ | ⟨g, cap, cur, h1, h2, h3, h4, h5, h6, h7⟩
    · omega
    · injection h1 with _ _ hc
      subst hc
      exact h4
  · subst had
    rcases h.2 with ⟨h1, h2⟩ | ⟨g, cap, cur, h1, h2, h3, h4, h5, h6, h7⟩
    · cases h1
    · injection h1 with ha _ _
      injection ha with ha
      subst ha
      exact ⟨by simp; omega, lt_of_block h3, cur, _, h3⟩
theorem own_form {w : World} {base : Nat} {e : TypeId} {size n : Nat} {v : Value} {xs : List Value} (h : w.ownsRow base e size v n xs) : ∃ A c, v = .slice A n c := by
  rcases h.2 with ⟨h1, h2⟩ | ⟨g, cap, cur, h1, _⟩
  · exact ⟨none, 0, by rw [h1, h2]⟩
  · exact ⟨_, _, h1⟩

theorem own_only {w w' : World} {rb L : Nat} {e : TypeId} {size n : Nat} {v : Value} {xs : List Value} (h : w.ownsRow L e size v n xs) (ho : Only rb w w') (hrb : rb < L) : w'.ownsRow L e size v n xs := by
  refine World.ownsRow.kept h ho ?_
  cases hv : v.ownBlock with
  | none => exact .inl rfl
  | some g =>
    refine .inr (fun e => ?_)
    injection e with e
    have := (World.ownsRow.lt h g hv).1
    omega
theorem Only.grown {rb : Nat} {a w w' : World} {row : Option Nat} (h : Only rb a w) (hg : w.grownBy w' row) (hr : ∀ k, row = some k → a.heap.size ≤ k) : Only rb a w' :=
  ⟨hg.os.trans h.os, hg.tape.trans h.tape, hg.output.trans h.output, Nat.le_trans h.size hg.size, fun i hi hne =>
    (hg.block i (Nat.lt_of_lt_of_le hi h.size) (fun e => by have := hr i e.symm; omega)).trans (h.block i hi hne)⟩
theorem Only.own {rb : Nat} {a w w' : World} {L : Nat} {e : TypeId} {size n : Nat} {v : Value} {xs : List Value} (h : Only rb a w) (hown : w.ownsRow L e size v n xs) (hL : a.heap.size ≤ L) (hg : w.grownBy w' v.ownBlock) : Only rb a w' :=
  h.grown hg fun k hk => Nat.le_trans hL (World.ownsRow.lt hown k hk).1
theorem RowsV.only {w w' : World} {rb lo hi : Nat} {vs : List Value} (h : RowsV w lo hi vs) (ho : Only rb w w') (hhi : hi ≤ w.heap.size) (hrb : rb < lo) : RowsV w' lo hi vs :=
  h.keep (fun b h1 h2 _ => ho.heap (by omega) (by omega)) ho.size
theorem RowsV.grown {w w' : World} {lo hi L : Nat} {vs : List Value} {size n : Nat} {v : Value} {xs : List Value} (h : RowsV w lo hi vs) (hown : w.ownsRow L 38 size v n xs) (hg : w.grownBy w' v.ownBlock) (hhi : hi ≤ w.heap.size) : RowsV w' lo hi vs := by
  refine h.keep (fun b h1 h2 h3 => hg.block b (by omega) (fun e => ?_)) hg.size
  obtain ⟨cs, fr, h3⟩ := h3
  rcases hown.2 with ⟨h4, h5⟩ | ⟨g, cap, cur, h4, _, h6, _⟩
  · rw [h4] at e; simp [Value.ownBlock] at e
  · rw [h4] at e
    simp [Value.ownBlock] at e
    subst e
    rw [h3] at h6
    injection h6 with h6
    injection h6 with _ h6 _
    exact absurd h6 (by decide)

def lenOf : Value → Nat | .slice _ n _ => n | _ => 0
/-- What the inner loop of 'programs' carries. -/
def Inner (ws : World) (rb p0 : Nat) (v : Value) (k left : Int) (w : World) : Prop :=
  ∃ (n : Nat) (xs : List OpV) (p : Nat), w.ownsRow ws.heap.size 92 3 v n (opCells xs) ∧ 0 ≤ k ∧ n + k.toNat ≤ 4 ∧ 0 ≤ left ∧ left ≤ 16 ∧ Rd w rb p ∧ p ≤ p0 + 2 * n ∧ Only rb ws w
/-- What the outer loop of 'programs' carries. -/
def Outer (w0 : World) (rb p0 : Nat) (v : Value) (left : Int) (vs : List Value) (w : World) : Prop :=
  ∃ p : Nat, w.ownsRow w0.heap.size 38 1 v vs.length vs ∧ vs.length ≤ 4 ∧ RowsV w w0.heap.size w.heap.size vs ∧ 0 ≤ left ∧ left ≤ 16 ∧ Rd w rb p ∧ p ≤ p0 + 20 * vs.length ∧ Only rb w0 w
def Programs (w0 : World) (rb p0 : Nat) (e : Ending) (w : World) : Prop :=
  ∃ (v : Value) (vs : List Value) (left : Int), e = .returned v ∧ Outer w0 rb p0 v left vs w

theorem Rd.lt_size {w : World} {rb p : Nat} (h : Rd w rb p) : rb < w.heap.size := h.lt
theorem Rd.alloc {w : World} {rb p : Nat} (h : Rd w rb p) (o : Obj) : Rd (w.alloc o) rb p := h.below ((Below.refl _ _).alloc (Nat.le_refl _) _)
theorem lit3 {w : World} {H : Nat} (hH : w.heap.size = H) (a b c : Int) : RInts (w.alloc (.cells #[.int .i64 a, .int .i64 b, .int .i64 c] 3)) (some ⟨H, 0, none⟩) 3 [a, b, c] := by subst hH; exact RInts.lit w [a, b, c] _ (by simp)
theorem lit4 {w : World} {H : Nat} (hH : w.heap.size = H) (a b c d : Int) : RInts (w.alloc (.cells #[.int .i64 a, .int .i64 b, .int .i64 c, .int .i64 d] 3)) (some ⟨H, 0, none⟩) 4 [a, b, c, d] := by subst hH; exact RInts.lit w [a, b, c, d] _ (by simp)
theorem lit5 {w : World} {H : Nat} (hH : w.heap.size = H) (a b c d e : Int) : RInts (w.alloc (.cells #[.int .i64 a, .int .i64 b, .int .i64 c, .int .i64 d, .int .i64 e] 3)) (some ⟨H, 0, none⟩) 5 [a, b, c, d, e] := by subst hH; exact RInts.lit w [a, b, c, d, e] _ (by simp)
theorem lit6 {w : World} {H : Nat} (hH : w.heap.size = H) (a b c d e f : Int) : RInts (w.alloc (.cells #[.int .i64 a, .int .i64 b, .int .i64 c, .int .i64 d, .int .i64 e, .int .i64 f] 3)) (some ⟨H, 0, none⟩) 6 [a, b, c, d, e, f] := by subst hH; exact RInts.lit w [a, b, c, d, e, f] _ (by simp)
theorem far_lit {rb H : Nat} (h : rb < H) : ∀ ad : Addr, some (⟨H, 0, none⟩ : Addr) = some ad → ad.block ≠ rb := by
  intro ad e
  injection e with e
  subst e
  simp; omega

theorem own_one {w : World} {base : Nat} {e : TypeId} {size n : Nat} {v : Value} {xs : List Value} (h : w.ownsRow base e size v n xs) : v.oneCell' = true := by
  obtain ⟨A, c, rfl⟩ := own_form h
  rfl
theorem Rd.grown {w w' : World} {rb p : Nat} {row : Option Nat} (h : Rd w rb p) (hg : w.grownBy w' row) (hr : ∀ k, row = some k → rb < k) : Rd w' rb p := by
  have hlt := h.lt
  obtain ⟨A, m, c, hh, hm, hc⟩ := h
  have hk : ∀ b, b ≤ rb → w'.heap[b]? = w.heap[b]? := fun b hb => hg.block b (by omega) (fun e => by have := hr b e.symm; omega)
  refine ⟨A, m, c, (hk rb (Nat.le_refl _)).trans hh, hm, fun h0 => ?_⟩
  obtain ⟨b, off, f, hA, hbl, hf⟩ := hc h0
  exact ⟨b, off, f, hA, hbl, fun i hi => ⟨(hf i hi).1, (hf i hi).2.1, (World.cell?_of_block (w := w) (a := ⟨b, _, none⟩) (hk b (by omega))).trans (hf i hi).2.2⟩⟩

section
variable {w : World} {ops : Array Oper} {rest : List Oper} {o : Oper} {a : Act} {Q : Exit → Act → World → Prop}
/-- append of one row. -/
theorem app_row (s x : Operand) {base : Nat} {v : Value} {n : Nat} {vs : List Value} (hown : w.ownsRow base 38 1 v n vs) (hbase : base ≤ w.heap.size)
    {u : Value} (hu : u.oneCell' = true) {H : Nat} {T : TypeId} (hH : w.heap[H]? = some (.cells #[u] T (0, 0))) (hn : n ≤ 1099511627776) {c : Nat}
    (hgd : o.guard = none) (ho : o.op = .call { callee := .builtin .append, args := #[s, x], argTypes := #[129, 129] }) (hs : a.eval s = v) (hx : a.eval x = .slice (some ⟨H, 0, none⟩) 1 c)
    (h : ∀ v' w', w'.ownsRow base 38 1 v' (n + 1) (vs ++ [u]) → w.grownBy w' v.ownBlock → wpList Try.prog ops Q rest (a.put o.dst v') w') : wpList Try.prog ops Q (o :: rest) a w := by
  obtain ⟨i0, hi, hz0, hz1, hz2⟩ := info_parts rowInfo
  refine wpList_app hgd s x _ ho base _ i0 _ 1 24 Try.underlying129 hi hz0 hz1 hz2 rfl (by decide) v n _ hs hown _ 1 c [u] hx ⟨rfl, by simpa using hu, fun _ => ⟨_, rfl, fun j u' hu' => ?_⟩⟩ (by simp only [maxLen]; omega) (by omega) hbase ?_
  · match j, hu' with
    | 0, hu' =>
      simp at hu'; subst hu'
      rw [addr_add, cell_of_row w H (0 + 0) _ T (0, 0) hH]; rfl
  · intro v' w' h1 h2 h3
    exact h v' w' h1 h2
end

/-- What a round of the outer loop comes to. -/
theorem outer_step {w0 wr w w1 w' : World} {rb p0 p' n : Nat} {v lv v' : Value} {vs : List Value} {xs : List OpV} {left : Int} (hown : wr.ownsRow w0.heap.size 38 1 v vs.length vs)
    (hrows : RowsV wr w0.heap.size wr.heap.size vs) (hO : Only rb w0 wr) (hrb : rb < w0.heap.size) (hO3 : Only rb wr w) (hl : w.ownsRow wr.heap.size 92 3 lv n (opCells xs)) (hn : n ≤ 5)
    (ob : Obj) (hw1 : w1 = w.alloc ob) (hown' : w'.ownsRow w0.heap.size 38 1 v' (vs.length + 1) (vs ++ [lv])) (hg : w1.grownBy w' v.ownBlock) (hr : Rd w rb p') (hv : vs.length < 4)
    (h0 : 0 ≤ left) (h1 : left ≤ 16) (hp : p' ≤ p0 + 20 * (vs.length + 1)) : Outer w0 rb p0 v' left (vs ++ [lv]) w' := by
  have hsz := hO.size
  have hsz3 := hO3.size
  have hownw : w1.ownsRow w0.heap.size 38 1 v vs.length vs := by rw [hw1]; exact World.ownsRow.alloc (own_only hown hO3 hrb) _
  have hsz1 : w1.heap.size = w.heap.size + 1 := by rw [hw1]; simp
  obtain ⟨A, c, rfl⟩ := own_form hl
  have hlv : RowV w w0.heap.size w.heap.size (.slice A n c) := RowV.of_own hl (by omega) hn
  have hlv1 : RowsV w1 w0.heap.size w.heap.size [.slice A n c] := by
    intro u hu
    simp at hu
    subst hu
    rw [hw1]
    exact hlv.keep (fun b h1 h2 _ => Below.heap_alloc _ _ _ h2) (by simp)
  have hlv2 := hlv1.grown hownw hg (by omega)
  have hvs1 : RowsV w1 w0.heap.size wr.heap.size vs := by
    rw [hw1]
    exact (hrows.only hO3 (Nat.le_refl _) hrb).keep (fun b h1 h2 _ => Below.heap_alloc _ _ _ (by omega)) (by simp)
  have hvs2 := hvs1.grown hownw hg (by omega)
  have hgs := hg.size
  refine ⟨p', by simpa using hown', by simp; omega, ?_, h0, h1, ?_, by simp; omega, ?_⟩
  · intro u hu
    simp only [List.mem_append, List.mem_singleton] at hu
    rcases hu with hu | hu
    · exact (hvs2 u hu).wider (by omega)
    · exact (hlv2 u (by simp [hu])).wider (by omega)
  · exact Rd.grown (w := w1) (by rw [hw1]; exact hr.alloc _) hg fun k hk => by have := (World.ownsRow.lt hownw k hk).1; omega
  · have : Only rb w0 w1 := by rw [hw1]; exact (hO.trans hO3).alloc _
    exact this.own hownw (Nat.le_refl _) hg

set_option maxHeartbeats 2000000 in
theorem programs_any (rb p most : Nat) (w0 : World) (h : Rd w0 rb p) (hp : p ≤ 50000) (hm : most ≤ 16) :
    Calls Try.prog 136 #[.pointer (some ⟨rb, 0, none⟩), .int .i64 (most : Int)] w0 (Programs w0 rb (p + 2)) := by
  have hlt := h.lt
  go_enter Try.func136, Try.ntmps136
  go_wp2_with fail
  refine (one_any rb p _ _ _ _ _ ((h.alloc _).alloc _) (by omega) (lit3 (by simp) 2 3 1) (by omega) (far_lit (by omega))).mono ?_
  rintro e w1 ⟨items, rfl, hi, hr1, ho1⟩
  go_wp2_with fail
  have hlt1 := hr1.lt
  refine (one_any rb _ _ _ _ _ _ (hr1.alloc _) (by omega) (lit5 rfl 3 2 4 3 1) (by omega) (far_lit hlt1)).mono ?_
  rintro e w2 ⟨n, rfl, hn, hr2, ho2⟩
  have hown : w2.ownsRow w0.heap.size 38 1 (.slice (some ⟨w0.heap.size, 0, none⟩) 0 0) 0 [] :=
    own_only (World.ownsRow.alloc (own_only (World.ownsRow.alloc (World.ownsRow_made w0 #[] 0 (Nat.le_refl _) (by decide) rfl) _) ho1 hlt) _) ho2 hlt
  have hO : Only rb w0 w2 := (((Only.refl rb w0).alloc _).alloc _).trans ho1 |>.trans (((Only.refl rb w1).alloc _).trans ho2)
  have hn4 : 1 ≤ n ∧ n ≤ 4 := by simp at hn; omega
  have hi4 : 1 ≤ items ∧ items ≤ 3 := by simp at hi; omega
  have HST : Hid (Outer w0 rb (p + 2) (.slice (some ⟨w0.heap.size, 0, none⟩) 0 0) (most : Int) [] w2) :=
    ⟨p + 1 + 1, hown, by simp, by intro v hv; simp at hv, by omega, by omega, hr2, by simp, hO⟩
  clear hown hO hr2 hr1 ho1 ho2 hn hi
  go_wp2_with fail
  go_loopw [5, 6] (fun v l w => ∃ (left : Int) (vs : List Value), l = .int .i64 left ∧ (vs.length : Int) ≤ n ∧ Outer w0 rb (p + 2) v left vs w) (fun v _ _ => 4 - lenOf v)
  case atStart => exact ⟨(most : Int), [], rfl, by simp; try omega, HST.out⟩
  case round =>
    obtain ⟨wo, rfl⟩ : ∃ wo : World, wo = wr := ⟨_, rfl⟩
    obtain ⟨left, vs, rfl, hvn, q, hown, hv4, hrows, hl0, hl1, hr, hq, hO⟩ := hrel
    obtain ⟨A, c, rfl⟩ := own_form hown
    have hlr := hr.lt
    by_cases hlen : (vs.length : Int) < n
    · go_wp2_with fail
      refine (one_any rb q _ _ _ _ _ ((hr.alloc _).alloc _) (by omega) (lit4 (by simp) 2 3 1 4) (by omega) (far_lit (by omega))).mono ?_
      rintro e w3 ⟨k, rfl, hk, hr3, ho3⟩
      have hk4 : 1 ≤ k ∧ k ≤ 4 := by simp at hk; omega
      have HIN : Hid (Inner wo rb (q + 1) (.slice (some ⟨wo.heap.size, 0, none⟩) 0 0) k left w3) :=
        ⟨0, [], q + 1, own_only (World.ownsRow.alloc (World.ownsRow_made wo #[] 0 (Nat.le_refl _) (by decide) rfl) _) ho3 hlr, by omega, by omega, hl0, hl1, hr3, by omega,
          (((Only.refl rb wo).alloc _).alloc _).trans ho3⟩
      have HOUT := Lib.hid (And.intro hown (And.intro hrows (And.intro hO hr)))
      clear hown hrows hO hr hr3 ho3 hk
      go_wp2_with fail
      go_loopw [6, 10, 11] (fun l v k w => ∃ (left k' : Int), l = .int .i64 left ∧ k = .int .i64 k' ∧ Inner wo rb (q + 1) v k' left w) (fun _ _ k _ => (intOf k).toNat)
      case atStart => exact ⟨left, k, rfl, rfl, HIN.out⟩
      case round =>
        clear HIN
        obtain ⟨left, k, rfl, rfl, nx, xs, q3, hown, hk0, hk1, hl0, hl1, hr, hq3, hO⟩ := hrel
        by_cases hkk : 0 < k
        · by_cases hll : 1 < left
          · go_wp2_with fail
            have hlrr := hr.lt
            refine (one_any rb _ _ _ _ _ _ (hr.alloc _) (by omega) (lit4 rfl 0 1 0 1) (by omega) (far_lit hlrr)).mono ?_
            rintro e w4 ⟨kd, rfl, hkd, hr4, ho4⟩
            go_wp2_with fail
            refine (pick_any rb _ items _ hr4 (by omega) (by omega)).mono ?_
            rintro e w5 ⟨it, rfl, hr5, _, hit, ho5⟩
            have hO5 := ((hO.alloc _).trans ho4).trans ho5
            have hown5 := own_only (own_only (hown.alloc _) ho4 hlr) ho5 hlr
            have hs5 := hO5.size
            go_wp2_with (at_builtin; refine app_ops (.tmp 38) (.tmp 47) (hown5.alloc _) (by simp; omega) (ROps.lit1 _ ⟨_, _, _⟩ _) (by omega) rfl rfl rfl rfl ?_; intro v6 w6 hown6 hg6 hat6)
            have hg6' := World.grownBy.trans (World.grownBy_alloc w5 _ _) hg6
            have hO6 := hO5.own hown5 (Nat.le_refl _) hg6'
            have hr6 := hr5.grown hg6' fun k hk => by have := (World.ownsRow.lt hown5 k hk).1; omega
            go_wp2_with fail
            go_roundw
            case rel => exact ⟨left - 1, k - 1, rfl, rfl, nx + 1, _, _, hown6, by omega, by omega, by omega, by omega, hr6, by omega, hO6⟩
            case measure => simp [intOf]; omega
          · skip
            obtain ⟨Al, cl, rfl⟩ := own_form hown
            by_cases hlp : 0 < left
            · go_wp2_with fail
              refine (pick_any rb _ 10 _ hr (by omega) (by omega)).mono ?_
              rintro e w4 ⟨pv, rfl, hr4, _, _, ho4⟩
              have hown4 := own_only hown ho4 hlr
              have hO4 := hO.trans ho4
              have hlr4 := hr4.lt
              have hgo4 : w4.ownsRow w0.heap.size 38 1 (.slice A vs.length c) vs.length vs := own_only HOUT.out.1 hO4 hlt
              have hs4 := hO4.size
              have hs0 := HOUT.out.2.2.1.size
              by_cases hpv : 0 < pv
              · go_wp2_with fail
                refine (one_any rb _ _ _ _ _ _ (hr4.alloc _) (by omega) (lit6 rfl 2 2 2 2 2 3) (by omega) (far_lit hlr4)).mono ?_
                rintro e w5 ⟨kd, rfl, hkd, hr5, ho5⟩
                have hown5 := own_only (hown4.alloc _) ho5 hlr
                have hO5 := (hO4.alloc _).trans ho5
                have hgo5 := own_only (hgo4.alloc _) ho5 hlt
                have hs5 := hO5.size
                go_wp2_with (first | (at_builtin; refine app_ops (.tmp 58) (.tmp 64) (hown5.alloc _) (by simp; omega) (ROps.lit1 _ ⟨_, _, _⟩ _) (by omega) rfl rfl rfl rfl ?_; intro v6 w6 hown6 hg6 hat6; obtain ⟨A6, c6, rfl⟩ := own_form hown6; have hg6' := World.grownBy.trans (World.grownBy_alloc w5 _ _) hg6; have hO6 := hO5.own hown5 (Nat.le_refl _) hg6'; have hr6 := hr5.grown hg6' (fun k hk => by have := (World.ownsRow.lt hown5 k hk).1; omega); have hgo6 := own_only HOUT.out.1 hO6 hlt; have hs6 := hO6.size) | (at_builtin; refine app_row (.tmp 68) (.tmp 70) (hgo6.alloc _) (by simp; omega) (own_one hown6) (heap_alloc_new _ _) (by omega) rfl rfl rfl rfl ?_; intro v7 w7 hown7 hg7))
                have hout := outer_step (left := left - 1) (p0 := p + 2) HOUT.out.1 HOUT.out.2.1 HOUT.out.2.2.1 hlt hO6 hown6 (by omega) _ rfl hown7 hg7 hr6 (by omega) (by omega) (by omega) (by omega)
                go_wp2_with fail
                go_roundw
                case rel => exact ⟨left - 1, vs ++ [_], rfl, by simp; omega, hout⟩
                case measure => obtain ⟨q7, h7, _⟩ := hout; obtain ⟨A7, c7, rfl⟩ := own_form h7; simp [lenOf]; omega
              · go_wp2_with (at_builtin; refine app_row (.tmp 68) (.tmp 70) (hgo4.alloc _) (by simp; omega) (own_one hown4) (heap_alloc_new _ _) (by omega) rfl rfl rfl rfl ?_; intro v7 w7 hown7 hg7)
                have hout := outer_step (left := left) (p0 := p + 2) HOUT.out.1 HOUT.out.2.1 HOUT.out.2.2.1 hlt hO4 hown4 (by omega) _ rfl hown7 hg7 hr4 (by omega) (by omega) (by omega) (by omega)
                go_wp2_with fail
                go_roundw
                case rel => exact ⟨left, vs ++ [_], rfl, by simp; omega, hout⟩
                case measure => obtain ⟨q7, h7, _⟩ := hout; obtain ⟨A7, c7, rfl⟩ := own_form h7; simp [lenOf]; omega
            · have hgo4 : wr.ownsRow w0.heap.size 38 1 (.slice A vs.length c) vs.length vs := own_only HOUT.out.1 hO hlt
              have hs4 := hO.size
              have hs0 := HOUT.out.2.2.1.size
              go_wp2_with (at_builtin; refine app_row (.tmp 68) (.tmp 70) (hgo4.alloc _) (by simp; omega) (own_one hown) (heap_alloc_new _ _) (by omega) rfl rfl rfl rfl ?_; intro v7 w7 hown7 hg7)
              have hout := outer_step (left := left) (p0 := p + 2) HOUT.out.1 HOUT.out.2.1 HOUT.out.2.2.1 hlt hO hown (by omega) _ rfl hown7 hg7 hr (by omega) (by omega) (by omega) (by omega)
              go_wp2_with fail
              go_roundw
              case rel => exact ⟨left, vs ++ [_], rfl, by simp; omega, hout⟩
              case measure => obtain ⟨q7, h7, _⟩ := hout; obtain ⟨A7, c7, rfl⟩ := own_form h7; simp [lenOf]; omega

        · skip
          obtain ⟨Al, cl, rfl⟩ := own_form hown
          by_cases hlp : 0 < left
          · go_wp2_with fail
            refine (pick_any rb _ 10 _ hr (by omega) (by omega)).mono ?_
            rintro e w4 ⟨pv, rfl, hr4, _, _, ho4⟩
            have hown4 := own_only hown ho4 hlr
            have hO4 := hO.trans ho4
            have hlr4 := hr4.lt
            have hgo4 : w4.ownsRow w0.heap.size 38 1 (.slice A vs.length c) vs.length vs := own_only HOUT.out.1 hO4 hlt
            have hs4 := hO4.size
            have hs0 := HOUT.out.2.2.1.size
            by_cases hpv : 0 < pv
            · go_wp2_with fail
              refine (one_any rb _ _ _ _ _ _ (hr4.alloc _) (by omega) (lit6 rfl 2 2 2 2 2 3) (by omega) (far_lit hlr4)).mono ?_
              rintro e w5 ⟨kd, rfl, hkd, hr5, ho5⟩
              have hown5 := own_only (hown4.alloc _) ho5 hlr
              have hO5 := (hO4.alloc _).trans ho5
              have hgo5 := own_only (hgo4.alloc _) ho5 hlt
              have hs5 := hO5.size
              go_wp2_with (first | (at_builtin; refine app_ops (.tmp 58) (.tmp 64) (hown5.alloc _) (by simp; omega) (ROps.lit1 _ ⟨_, _, _⟩ _) (by omega) rfl rfl rfl rfl ?_; intro v6 w6 hown6 hg6 hat6; obtain ⟨A6, c6, rfl⟩ := own_form hown6; have hg6' := World.grownBy.trans (World.grownBy_alloc w5 _ _) hg6; have hO6 := hO5.own hown5 (Nat.le_refl _) hg6'; have hr6 := hr5.grown hg6' (fun k hk => by have := (World.ownsRow.lt hown5 k hk).1; omega); have hgo6 := own_only HOUT.out.1 hO6 hlt; have hs6 := hO6.size) | (at_builtin; refine app_row (.tmp 68) (.tmp 70) (hgo6.alloc _) (by simp; omega) (own_one hown6) (heap_alloc_new _ _) (by omega) rfl rfl rfl rfl ?_; intro v7 w7 hown7 hg7))
              have hout := outer_step (left := left - 1) (p0 := p + 2) HOUT.out.1 HOUT.out.2.1 HOUT.out.2.2.1 hlt hO6 hown6 (by omega) _ rfl hown7 hg7 hr6 (by omega) (by omega) (by omega) (by omega)
              go_wp2_with fail
              go_roundw
              case rel => exact ⟨left - 1, vs ++ [_], rfl, by simp; omega, hout⟩
              case measure => obtain ⟨q7, h7, _⟩ := hout; obtain ⟨A7, c7, rfl⟩ := own_form h7; simp [lenOf]; omega
            · go_wp2_with (at_builtin; refine app_row (.tmp 68) (.tmp 70) (hgo4.alloc _) (by simp; omega) (own_one hown4) (heap_alloc_new _ _) (by omega) rfl rfl rfl rfl ?_; intro v7 w7 hown7 hg7)
              have hout := outer_step (left := left) (p0 := p + 2) HOUT.out.1 HOUT.out.2.1 HOUT.out.2.2.1 hlt hO4 hown4 (by omega) _ rfl hown7 hg7 hr4 (by omega) (by omega) (by omega) (by omega)
              go_wp2_with fail
              go_roundw
              case rel => exact ⟨left, vs ++ [_], rfl, by simp; omega, hout⟩
              case measure => obtain ⟨q7, h7, _⟩ := hout; obtain ⟨A7, c7, rfl⟩ := own_form h7; simp [lenOf]; omega
          · have hgo4 : wr.ownsRow w0.heap.size 38 1 (.slice A vs.length c) vs.length vs := own_only HOUT.out.1 hO hlt
            have hs4 := hO.size
            have hs0 := HOUT.out.2.2.1.size
            go_wp2_with (at_builtin; refine app_row (.tmp 68) (.tmp 70) (hgo4.alloc _) (by simp; omega) (own_one hown) (heap_alloc_new _ _) (by omega) rfl rfl rfl rfl ?_; intro v7 w7 hown7 hg7)
            have hout := outer_step (left := left) (p0 := p + 2) HOUT.out.1 HOUT.out.2.1 HOUT.out.2.2.1 hlt hO hown (by omega) _ rfl hown7 hg7 hr (by omega) (by omega) (by omega) (by omega)
            go_wp2_with fail
            go_roundw
            case rel => exact ⟨left, vs ++ [_], rfl, by simp; omega, hout⟩
            case measure => obtain ⟨q7, h7, _⟩ := hout; obtain ⟨A7, c7, rfl⟩ := own_form h7; simp [lenOf]; omega

    · go_wp2_with fail
      go_ret
      exact ⟨_, vs, left, rfl, q, hown, hv4, hrows, hl0, hl1, hr, hq, hO⟩
end Go.Proofs.Ytcakjhappchlmaa
namespace Go.Proofs.Ytcakjhappchlmaa
open Go.RowKit Go.BigFrame
set_option linter.unusedVariables false

theorem ROps.drop {w : World} {A : Option Addr} {n : Nat} {xs : List OpV} (h : ROps w A n xs) {k c : Nat} (hk : k ≤ n) (hc : n ≤ c) :
    ROps w (if c = k then A else A.map (·.add (k * 3))) (n - k) (xs.drop k) := by
  obtain ⟨h1, h2, h3⟩ := h
  refine ⟨by simp; omega, by omega, fun hn => ?_⟩
  obtain ⟨b, off, rfl, hlt, hcell⟩ := h3 (by omega)
  rw [if_neg (by omega)]
  refine ⟨b, off + k * 3, by simp [addr_add], hlt, fun i o ho => ?_⟩
  rw [List.getElem?_drop] at ho
  have := hcell _ o ho
  have e1 : off + (k + i) * 3 = off + k * 3 + i * 3 := by omega
  rw [e1] at this
  exact this

def tot (vs : List Value) : Nat := (vs.map lenOf).sum
theorem tot_set (vs : List Value) (t : Nat) (u x : Value) (h : vs[t]? = some x) : tot (vs.set t u) + lenOf x = tot vs + lenOf u := by
  induction vs generalizing t with
  | nil => simp at h
  | cons y r ih =>
    cases t with
    | zero => simp at h; subst h; simp [tot]; omega
    | succ t =>
      have := ih t (by simpa using h)
      simp [tot] at *
      omega
theorem tot_le (vs : List Value) (k : Nat) (h : ∀ v ∈ vs, lenOf v ≤ k) : tot vs ≤ vs.length * k := by
  induction vs with
  | nil => simp [tot]
  | cons y r ih =>
    have h1 := ih (fun v hv => h v (by simp [hv]))
    have h2 := h y (by simp)
    simp [tot] at *
    rw [Nat.add_mul]; omega

/-- The cut of a row. -/
theorem RowV.cut {w : World} {lo hi n c k : Nat} {A : Option Addr} (h : RowV w lo hi (.slice A n c)) (hk : k ≤ n) : RowV w lo hi (.slice (if c = k then A else A.map (·.add (k * 3))) (n - k) (c - k)) := by
  obtain ⟨A', n', c', xs, hv, hnc, hn, hr, hA⟩ := h
  injection hv with h1 h2 h3
  subst h1; subst h2; subst h3
  refine ⟨_, _, _, _, rfl, by omega, by omega, hr.drop hk hnc, fun ad had => ?_⟩
  split at had
  · exact hA _ had
  · cases A with
    | none => cases had
    | some a =>
      simp at had
      subst had
      have : (a.add (k * 3)).block = a.block := by unfold Addr.add; split <;> rfl
      rw [this]
      exact hA _ rfl

/-- What the great loop of goodSchedule carries. -/
def Good (w0 : World) (rb L P K : Nat) (lv ov : Value) (w : World) : Prop := K ≤ 4 ∧
  ∃ (n : Nat) (xs : List OpV) (vs : List Value) (p : Nat), w.ownsRow w0.heap.size 38 1 lv K vs ∧ RowsV w w0.heap.size L vs ∧ w.ownsRow L 92 3 ov n (opCells xs) ∧
    n + tot vs ≤ 20 ∧ Rd w rb p ∧ p ≤ P + 4 * n ∧ Only rb w0 w ∧ L ≤ w.heap.size
/-- What the loop over the rows carries: only rows that are not empty are listed. -/
def Some_ (ws : World) (rb p k : Nat) (vs : List Value) (sv : Value) (w : World) : Prop :=
  ∃ (ts : List Int), ts.length ≤ k ∧ w.ownsRow ws.heap.size 3 1 sv ts.length (intCells ts) ∧ (∀ x ∈ ts, 0 ≤ x ∧ ∃ A n c, vs[x.toNat]? = some (.slice A n c) ∧ 0 < n) ∧ Rd w rb p ∧ Only rb ws w
def GoodPost (w0 : World) (rb : Nat) (e : Ending) (w : World) : Prop :=
  ∃ (v : Value) (n : Nat) (xs : List OpV) (p : Nat), e = .returned v ∧ w.ownsRow w0.heap.size 92 3 v n (opCells xs) ∧ n ≤ 20 ∧ Rd w rb p ∧ p ≤ 60000 ∧ Only rb w0 w


theorem mem_snoc {P : Int → Prop} {ts : List Int} {x : Int} (h : ∀ y ∈ ts, P y) (hx : P x) : ∀ y ∈ ts ++ [x], P y := by
  intro y hy
  simp only [List.mem_append, List.mem_singleton] at hy
  rcases hy with hy | rfl
  · exact h y hy
  · exact hx
theorem own_len {w : World} {base : Nat} {e : TypeId} {size n : Nat} {v : Value} {xs : List Value} (h : w.ownsRow base e size v n xs) : lenOf v = n := by
  obtain ⟨A, c, rfl⟩ := own_form h
  rfl
theorem row_len {w : World} {lo hi n c : Nat} {A : Option Addr} (h : RowV w lo hi (.slice A n c)) : n ≤ 5 := by
  obtain ⟨A', n', c', xs, hv, hnc, hn, _⟩ := h
  injection hv with h1 h2 h3
  omega
theorem own_block {w : World} {base : Nat} {e : TypeId} {size n : Nat} {v : Value} {xs : List Value} (h : w.ownsRow base e size v n xs) (hn : 0 < n) : ∃ g c, v = .slice (some ⟨g, 0, none⟩) n c ∧ base ≤ g ∧ g < w.heap.size := by
  rcases h.2 with ⟨h1, h2⟩ | ⟨g, cap, cur, h1, h2, h3, _⟩
  · omega
  · exact ⟨g, cap, h1, h2, lt_of_block h3⟩

theorem own_base {w : World} {base base' : Nat} {e : TypeId} {size n : Nat} {v : Value} {xs : List Value} (h : w.ownsRow base e size v n xs) (hb : base' ≤ base) : w.ownsRow base' e size v n xs := by
  refine ⟨h.1, ?_⟩
  rcases h.2 with h2 | ⟨g, cap, cur, h1, h2, r⟩
  · exact .inl h2
  · exact .inr ⟨g, cap, cur, h1, by omega, r⟩
theorem own_apart {w w' : World} {b1 b2 : Nat} {e1 e2 : TypeId} {s1 s2 n1 n2 : Nat} {v1 v2 : Value} {x1 x2 : List Value} (h1 : w.ownsRow b1 e1 s1 v1 n1 x1) (h2 : w.ownsRow b2 e2 s2 v2 n2 x2) (hne : e1 ≠ e2)
    (hg : w.grownBy w' v2.ownBlock) : w'.ownsRow b1 e1 s1 v1 n1 x1 := by
  refine World.ownsRow.kept h1 hg ?_
  rcases h1.2 with ⟨rfl, _⟩ | ⟨g, cap, cur, rfl, _, hh, _⟩
  · exact .inl rfl
  · refine .inr (fun e => ?_)
    rcases h2.2 with ⟨rfl, _⟩ | ⟨g', cap', cur', rfl, _, hh', _⟩
    · simp [Value.ownBlock] at e
    · simp [Value.ownBlock] at e
      subst e
      rw [hh] at hh'
      injection hh' with hh'
      injection hh' with _ hh' _
      exact hne hh'

/-- What a round of the great loop comes to: the row t is cut by k operations, which went to 'out'. -/
theorem good_step {w0 w w6 : World} {rb L P K n nt ct k p t g cl : Nat} {ov v' : Value} {vs : List Value} {xs ys : List OpV} {A : Option Addr} (hrb : rb < w0.heap.size) (hK : K ≤ 4)
    (hlv : w.ownsRow w0.heap.size 38 1 (.slice (some ⟨g, 0, none⟩) K cl) K vs) (hrows : RowsV w w0.heap.size L vs) (hL : L ≤ w.heap.size) (hov : w.ownsRow L 92 3 ov n (opCells xs)) (hL0 : w0.heap.size ≤ L)
    (hsum : n + tot vs ≤ 20) (hr : Rd w rb p) (hO : Only rb w0 w) (ht : vs[t]? = some (.slice A nt ct)) (hk1 : 1 ≤ k) (hk2 : k ≤ nt)
    (hown6 : w6.ownsRow L 92 3 v' (n + k) (opCells (xs ++ ys))) (hg6 : w.grownBy w6 ov.ownBlock) (hp : p ≤ P + 4 * (n + k)) :
    Good w0 rb L P K (.slice (some ⟨g, 0, none⟩) K cl) v' (w6.setCell ⟨g, t, none⟩ (.slice (if ct = k then A else A.map (·.add (k * 3))) (nt - k) (ct - k))) ∧ w6.cell? ⟨g, t, none⟩ = some (.slice A nt ct) ∧ w6.frozen? ⟨g, t, none⟩ = false := by
  have htl : t < vs.length := by
    rcases Nat.lt_or_ge t vs.length with h | h
    · exact h
    · rw [List.getElem?_eq_none h] at ht; cases ht
  have hvl : vs.length = K := by simpa using hlv.1
  have hg0 := World.ownsRow.lt hlv g rfl
  have hO6 := hO.own hov (by omega) hg6
  have hr6 := hr.grown hg6 fun j hj => by have := (World.ownsRow.lt hov j hj).1; omega
  have hlv6 := own_apart hlv hov (by decide) hg6
  have hs6 := hg6.size
  have hrows6 : RowsV w6 w0.heap.size L vs := by
    refine hrows.keep (fun b h1 h2 _ => hg6.block b (by omega) (fun e => ?_)) hs6
    have := (World.ownsRow.lt hov b e.symm).1
    omega
  have hst := hlv6.stored t (.slice (if ct = k then A else A.map (·.add (k * 3))) (nt - k) (ct - k))
  refine ⟨⟨hK, n + k, xs ++ ys, vs.set t (.slice (if ct = k then A else A.map (·.add (k * 3))) (nt - k) (ct - k)), p, hst.1, ?_, ?_, ?_, ?_, hp, ?_, by simp [World.setCell]; omega⟩, ?_, hlv6.frozenAt t⟩
  · have hkeep : ∀ b, w0.heap.size ≤ b → b < L → (∃ cs fr, w6.heap[b]? = some (.cells cs 92 fr)) → (w6.setCell ⟨g, t, none⟩ (.slice (if ct = k then A else A.map (·.add (k * 3))) (nt - k) (ct - k))).heap[b]? = w6.heap[b]? := by
      intro b _ _ ⟨cs, fr, hb⟩
      refine Below.heap_setCell _ _ _ _ (fun e => ?_)
      simp at e
      subst e
      rcases hlv6.2 with ⟨h1, _⟩ | ⟨g', cap', cur', h1, _, hh', _⟩
      · cases h1
      · injection h1 with h1 _ _
        injection h1 with h1
        injection h1 with h1
        subst h1
        rw [hb] at hh'
        injection hh' with hh'
        injection hh' with _ hh' _
        exact absurd hh' (by decide)
    intro u hu
    rcases List.mem_or_eq_of_mem_set hu with hu | rfl
    · exact (hrows6 u hu).keep hkeep (by simp [World.setCell])
    · exact ((hrows6 _ (List.mem_of_getElem? ht)).cut (by omega)).keep hkeep (by simp [World.setCell])
  · exact own_apart (e2 := 38) hown6 hlv6 (by decide) (by simpa [Value.ownBlock] using hst.2)
  · have := tot_set vs t (.slice (if ct = k then A else A.map (·.add (k * 3))) (nt - k) (ct - k)) _ ht
    simp [lenOf] at this
    omega
  · exact hr6.grown hst.2 fun j hj => by injection hj with hj; omega
  · exact hO6.grown hst.2 fun j hj => by injection hj with hj; omega
  · have := hlv6.cellAt t (by omega)
    rw [this]; exact ht

set_option maxRecDepth 100000 in
set_option maxHeartbeats 2000000 in
theorem goodSchedule_any (rb p most : Nat) (w0 : World) (h : Rd w0 rb p) (hp : p ≤ 50000) (hm : most ≤ 16) :
    Calls Try.prog 98 #[.pointer (some ⟨rb, 0, none⟩), .int .i64 (most : Int)] w0 (GoodPost w0 rb) := by
  have hlt := h.lt
  go_enter Try.func98, Try.ntmps98
  go_wp2_with fail
  refine (programs_any rb p most w0 h hp hm).mono ?_
  rintro e w1 ⟨lv, vs, left, rfl, q, hlv, hv4, hrows, _, _, hr1, hq1, hO1⟩
  have hlt1 := hr1.lt
  go_wp2_with fail
  refine (pick_any rb q 4 _ (hr1.alloc _) (by omega) (by omega)).mono ?_
  rintro e w2 ⟨sw, rfl, hr2, _, _, ho2⟩
  have hs2 := ho2.size
  have hs1 := hO1.size
  have ht5 : ∀ v ∈ vs, lenOf v ≤ 5 := by
    intro v hv
    obtain ⟨A, n, c, xs, rfl, _, hn, _⟩ := hrows v hv
    exact hn
  have htot := tot_le vs 5 ht5
  have HST : Hid (Good w0 rb w1.heap.size 50100 vs.length lv (.slice (some ⟨w1.heap.size, 0, none⟩) 0 0) w2) :=
    ⟨hv4, 0, [], vs, q + 1, own_only (hlv.alloc _) ho2 hlt, (hrows.keep (fun b h1 h2 _ => Below.heap_alloc _ _ _ h2) (by simp)).only ho2 (by simp) hlt,
      own_only (World.ownsRow_made w1 #[] 0 (Nat.le_refl _) (by decide) rfl) ho2 hlt1, by omega, hr2, by omega, (hO1.alloc _).trans ho2, by simp at hs2; omega⟩
  obtain ⟨Al, cl, rfl⟩ := own_form hlv
  generalize hk : vs.length = K at *
  have HK := Lib.hid hk
  clear hk hlv hrows hr1 hq1 hO1 hr2 ho2 ht5 htot
  go_wp2_with fail
  go_loopw [6] (fun ov w => Good w0 rb w1.heap.size 50100 K (.slice Al K cl) ov w) (fun ov _ => 21 - lenOf ov)
  case atStart => exact HST.out
  case round =>
    clear HST HK vs
    obtain ⟨wo, rfl⟩ : ∃ wo : World, wo = wr := ⟨_, rfl⟩
    obtain ⟨hK4, n, xs, vs, p3, hlv, hrows, hov, hsum, hr, hp3, hO, hLw⟩ := hrel
    have hlr := hr.lt
    have hvl : vs.length = K := by simpa using hlv.1
    have HIN : Hid (Some_ wo rb p3 0 vs (.slice (some ⟨wo.heap.size, 0, none⟩) 0 0) (wo.alloc (.cells #[] 3))) :=
      ⟨[], by simp, World.ownsRow_made wo #[] 0 (Nat.le_refl _) (by decide) rfl, by simp, hr.alloc _, (Only.refl _ _).alloc _⟩
    have HO := Lib.hid (And.intro hlv (And.intro hrows (And.intro hov (And.intro hr (And.intro hO hvl)))))
    clear hlv hrows hov hr hO hvl
    go_wp2_with fail
    go_loopw [8, 9] (fun sv t w => ∃ k : Nat, k ≤ K ∧ t = .int .i64 k ∧ Some_ wo rb p3 k vs sv w) (fun _ t _ => K - (intOf t).toNat)
    case atStart => exact ⟨0, by omega, rfl, HIN.out⟩
    case round =>
      clear HIN
      obtain ⟨k, hk, rfl, ts, htk, hts, hin, hr, hOi⟩ := hrel
      by_cases hkK : k < K
      · have hlw := own_only HO.out.1 hOi hlt
        obtain ⟨g, cl', hve, hg1, hg2⟩ := own_block hlw (by omega)
        injection hve with hA _ hc
        subst hA; subst hc
        have hcell : wr.cell? ⟨g, k, none⟩ = vs[k]? := by simpa using hlw.cellAt k (by omega)
        obtain ⟨u, hu⟩ : ∃ u, vs[k]? = some u := ⟨vs[k]'(by have := HO.out.2.2.2.2.2; omega), List.getElem?_eq_getElem _⟩
        obtain ⟨A, nt, ct, ys, rfl, hnc, hn5, hro, hAA⟩ := HO.out.2.1 u (List.mem_of_getElem? hu)
        rw [hu] at hcell
        have HU := Lib.hid hu
        clear hu hro hAA hlw
        have hsz := hOi.size
        by_cases hnt : 0 < nt
        · go_wp2_with (at_builtin; refine app_ints (.tmp 32) (.tmp 34) (hts.alloc _) (by simp; omega) (lit1 rfl (k : Int)) (by omega) rfl rfl rfl rfl ?_; intro v6 w6 hown6 hg6 hat6)
          have hg6' := World.grownBy.trans (World.grownBy_alloc wr _ _) hg6
          have hO6 := hOi.own hts (Nat.le_refl _) hg6'
          have hr6 := hr.grown hg6' fun j hj => by have := (World.ownsRow.lt hts j hj).1; omega
          go_wp2_with fail
          go_roundw
          case rel => exact ⟨k + 1, by omega, by go_num, ts ++ [(k : Int)], by simp; omega, by simpa using hown6, mem_snoc hin ⟨by omega, _, _, _, by simpa using HU.out, hnt⟩, hr6, hO6⟩
          case measure => simp [intOf]; omega
        · go_wp2_with fail
          go_roundw
          case rel => exact ⟨k + 1, by omega, by go_num, ts, by omega, hts, hin, hr, hOi⟩
          case measure => simp [intOf]; omega
      · obtain ⟨As, cs, rfl⟩ := own_form hts
        have hsz := hOi.size
        by_cases hts0 : ts.length = 0
        · have hovr := own_only HO.out.2.2.1 hOi hlt1
          have hO' := HO.out.2.2.2.2.1.trans hOi
          go_wp2_with fail
          go_ret
          exact ⟨_, n, xs, p3, rfl, own_base hovr (by omega), by omega, hr, by omega, hO'⟩
        · go_wp2_with fail
          refine (pick_any rb p3 _ _ hr (by omega) (by omega)).mono ?_
          rintro e w4 ⟨pv, rfl, hr4, _, hpv, ho4⟩
          obtain ⟨hpv0, hpv1⟩ := hpv (by omega)
          have hso := HO.out.2.2.2.2.1.size
          have hs4 := ho4.size
          obtain ⟨b, off, x, hAs, _, hx, hc4⟩ := (RInts.of_own (own_only hts ho4 (by omega)) (by omega)).at_ (k := pv.toNat) (by omega)
          subst hAs
          obtain ⟨hx0, A, nt, ct, hvx, hnt⟩ := hin x (List.mem_of_getElem? hx)
          obtain ⟨X, rfl⟩ := Int.eq_ofNat_of_zero_le hx0
          rw [Int.toNat_natCast] at hvx
          have hxK : X < K := by
            have h1 := HO.out.2.2.2.2.2
            rcases Nat.lt_or_ge X vs.length with h | h
            · omega
            · rw [List.getElem?_eq_none h] at hvx; cases hvx
          have hlw4 := own_only (own_only HO.out.1 hOi hlt) ho4 hlt
          obtain ⟨g, cl', hve, hg1, hg2⟩ := own_block hlw4 (by omega)
          injection hve with hA _ hc
          subst hA; subst hc
          have hcell4 : w4.cell? ⟨g, X, none⟩ = some (.slice A nt ct) := by rw [hlw4.cellAt X (by omega)]; exact hvx
          have HU := Lib.hid hvx
          have hnt5 := row_len (HO.out.2.1 _ (List.mem_of_getElem? hvx))
          clear hvx hx hin hlw4 hts
          by_cases hsw : sw = 0
          · go_wp2_with fail
            refine (pick_any rb _ _ _ hr4 (by omega) (by omega)).mono ?_
            rintro e w5 ⟨pk, rfl, hr5, _, hpk, ho5⟩
            obtain ⟨hpk0, hpk1⟩ := hpk (by omega)
            obtain ⟨k, rfl⟩ := Int.eq_ofNat_of_zero_le hpk0
            have hs5 := ho5.size
            have ho45 := ho4.trans ho5
            have hlwf := own_only (own_only HO.out.1 hOi hlt) ho45 hlt
            have hcell5 : w5.cell? ⟨g, X, none⟩ = some (.slice A nt ct) := by rw [hlwf.cellAt X (by omega)]; exact HU.out
            have hov5 := own_only (own_only HO.out.2.2.1 hOi hlt1) ho45 hlt1
            have hrows5 := (HO.out.2.1.only hOi (by omega) hlt).only ho45 (by omega) hlt
            obtain ⟨A', n', c', ys, hv', hnc, hn5, hro, _⟩ := hrows5 _ (List.mem_of_getElem? HU.out)
            injection hv' with e1 e2 e3
            subst e1; subst e2; subst e3
            have hro' := hro.take (k := 1 + k) (by omega)
            have HR := Lib.hid (And.intro hlwf (And.intro hrows5 (And.intro hov5 hro')))
            clear hlwf hrows5 hro hro'
            go_wp2_with (at_builtin; refine app_ops (.tmp 56) (.tmp 62) hov5 (by omega) HR.out.2.2.2 (by omega) rfl rfl rfl rfl ?_; intro v6 w6 hown6 hg6 hat6; obtain ⟨hgood, hcell6, hfr6⟩ := good_step (k := 1 + k) (P := 50100) hlt hK4 HR.out.1 HR.out.2.1 (by omega) hov5 (by omega) hsum hr5 ((HO.out.2.2.2.2.1.trans hOi).trans ho45) HU.out (by omega) (by omega) hown6 hg6 (by omega))
            all_goals
              go_roundw
              case rel =>
                first
                  | (have e : ct = 1 + k := by assumption
                     rw [if_pos e, show ct - (1 + k) = 0 from by omega] at hgood
                     exact hgood)
                  | (rw [if_neg (by omega)] at hgood
                     exact hgood)
              case measure =>
                have e6 := own_len hown6
                have e5 := own_len hov5
                omega
          · have hlwf := own_only (own_only HO.out.1 hOi hlt) ho4 hlt
            have hcell5 : w4.cell? ⟨g, X, none⟩ = some (.slice A nt ct) := by rw [hlwf.cellAt X (by omega)]; exact HU.out
            have hov5 := own_only (own_only HO.out.2.2.1 hOi hlt1) ho4 hlt1
            have hrows5 := (HO.out.2.1.only hOi (by omega) hlt).only ho4 (by omega) hlt
            obtain ⟨A', n', c', ys, hv', hnc, hn5, hro, _⟩ := hrows5 _ (List.mem_of_getElem? HU.out)
            injection hv' with e1 e2 e3
            subst e1; subst e2; subst e3
            have hro' := hro.take (k := 1) (by omega)
            have HR := Lib.hid (And.intro hlwf (And.intro hrows5 (And.intro hov5 hro')))
            clear hlwf hrows5 hro hro'
            go_wp2_with (at_builtin; refine app_ops (.tmp 56) (.tmp 62) hov5 (by omega) HR.out.2.2.2 (by omega) rfl rfl rfl rfl ?_; intro v6 w6 hown6 hg6 hat6; obtain ⟨hgood, hcell6, hfr6⟩ := good_step (k := 1) (P := 50100) hlt hK4 HR.out.1 HR.out.2.1 (by omega) hov5 (by omega) hsum hr4 ((HO.out.2.2.2.2.1.trans hOi).trans ho4) HU.out (by omega) (by omega) hown6 hg6 (by omega))
            all_goals
              go_roundw
              case rel =>
                first
                  | (have e : ct = 1 := by assumption
                     rw [if_pos e, show ct - (1) = 0 from by omega] at hgood
                     exact hgood)
                  | (rw [if_neg (by omega)] at hgood
                     exact hgood)
              case measure =>
                have e6 := own_len hown6
                have e5 := own_len hov5
                omega
end Go.Proofs.Ytcakjhappchlmaa
namespace Go.Proofs.Ytcakjhappchlmaa
open Go.RowKit Go.BigFrame
set_option linter.unusedVariables false

theorem opCells_set (xs : List OpV) : ∀ (i : Nat) (o : OpV), xs[i]? = some o → ∀ v : Int,
    (opCells xs).set (i * 3) (.int .i64 v) = opCells (xs.set i ⟨v, o.kind, o.item⟩) ∧ (opCells xs).set (i * 3 + 1) (.int .i64 v) = opCells (xs.set i ⟨o.tx, v, o.item⟩) ∧
    (opCells xs).set (i * 3 + 2) (.int .i64 v) = opCells (xs.set i ⟨o.tx, o.kind, v⟩) := by
  induction xs with
  | nil => intro i o h; simp at h
  | cons x r ih =>
    intro i o h v
    cases i with
    | zero => simp at h; subst h; simp [opCells]
    | succ i =>
      obtain ⟨h0, h1, h2⟩ := ih i o (by simpa using h) v
      have e : (i + 1) * 3 = i * 3 + 3 := by omega
      refine ⟨?_, ?_, ?_⟩
      · rw [e]; simp [opCells, h0]
      · rw [e]; simp [opCells, h1]
      · rw [e]; simp [opCells, h2]

def BentPost (w0 : World) (rb L n : Nat) (v : Value) (e : Ending) (w : World) : Prop :=
  ∃ (xs : List OpV) (p : Nat), e = .returned v ∧ w.ownsRow L 92 3 v n (opCells xs) ∧ Rd w rb p ∧ p ≤ 80000 ∧ Only rb w0 w

theorem bent_step {w0 w : World} {rb L n p g c : Nat} {xs : List OpV} (hown : w.ownsRow L 92 3 (.slice (some ⟨g, 0, none⟩) n c) n (opCells xs)) (hr : Rd w rb p) (hp : p ≤ 80000) (hO : Only rb w0 w)
    (hL : w0.heap.size ≤ L) (hrb : rb < w0.heap.size) (i : Nat) (hi : i < n) (v : Int) :
    BentPost w0 rb L n (.slice (some ⟨g, 0, none⟩) n c) (.returned (.slice (some ⟨g, 0, none⟩) n c)) (w.setCell ⟨g, i * 3, none⟩ (.int .i64 v)) ∧
    BentPost w0 rb L n (.slice (some ⟨g, 0, none⟩) n c) (.returned (.slice (some ⟨g, 0, none⟩) n c)) (w.setCell ⟨g, i * 3 + 1, none⟩ (.int .i64 v)) ∧
    BentPost w0 rb L n (.slice (some ⟨g, 0, none⟩) n c) (.returned (.slice (some ⟨g, 0, none⟩) n c)) (w.setCell ⟨g, i * 3 + 2, none⟩ (.int .i64 v)) := by
  have hl := hown.1
  rw [length_opCells] at hl
  have e : xs[i]? = some (xs[i]'(by omega)) := List.getElem?_eq_getElem (by omega)
  have hset := opCells_set xs i _ e v
  have hg := World.ownsRow.lt hown g rfl
  have hk : ∀ j, Rd (w.setCell ⟨g, j, none⟩ (.int .i64 v)) rb p ∧ Only rb w0 (w.setCell ⟨g, j, none⟩ (.int .i64 v)) := fun j =>
    ⟨hr.grown (hown.stored j _).2 fun k hk => by injection hk with hk; omega, hO.grown (hown.stored j _).2 fun k hk => by injection hk with hk; omega⟩
  have h0 := (hown.stored (i * 3) (.int .i64 v)).1
  have h1 := (hown.stored (i * 3 + 1) (.int .i64 v)).1
  have h2 := (hown.stored (i * 3 + 2) (.int .i64 v)).1
  rw [hset.1] at h0
  rw [hset.2.1] at h1
  rw [hset.2.2] at h2
  exact ⟨⟨_, p, rfl, h0, (hk _).1, hp, (hk _).2⟩, ⟨_, p, rfl, h1, (hk _).1, hp, (hk _).2⟩, ⟨_, p, rfl, h2, (hk _).1, hp, (hk _).2⟩⟩

theorem own_cells3 {w : World} {L n c g : Nat} {xs : List OpV} (hown : w.ownsRow L 92 3 (.slice (some ⟨g, 0, none⟩) n c) n (opCells xs)) {i : Nat} (hi : i < n) : ∃ o : OpV,
    w.cell? ⟨g, i * 3, none⟩ = some (.int .i64 o.tx) ∧ w.cell? ⟨g, i * 3 + 1, none⟩ = some (.int .i64 o.kind) ∧ w.cell? ⟨g, i * 3 + 2, none⟩ = some (.int .i64 o.item) := by
  have hl := hown.1
  rw [length_opCells] at hl
  have e : xs[i]? = some (xs[i]'(by omega)) := List.getElem?_eq_getElem (by omega)
  obtain ⟨c0, c1, c2⟩ := opCells_at xs i _ e
  exact ⟨_, (hown.cellAt _ (by omega)).trans c0, (hown.cellAt _ (by omega)).trans c1, (hown.cellAt _ (by omega)).trans c2⟩

set_option maxRecDepth 100000 in
set_option maxHeartbeats 2000000 in
theorem bent_any (rb p L n c : Nat) (A : Option Addr) (xs : List OpV) (w0 w : World) (h : Rd w rb p) (hp : p ≤ 70000) (hown : w.ownsRow L 92 3 (.slice A n c) n (opCells xs)) (hn : n ≤ 20) (hO : Only rb w0 w)
    (hL : w0.heap.size ≤ L) (hrb : rb < w0.heap.size) :
    Calls Try.prog 138 #[.pointer (some ⟨rb, 0, none⟩), .slice A n c] w (BentPost w0 rb L n (.slice A n c)) := by
  have hsz := hO.size
  go_enter Try.func138, Try.ntmps138
  go_wp2_with fail
  refine (pick_any rb p 40 w h (by omega) (by omega)).mono ?_
  rintro e w1 ⟨k, rfl, hr1, _, _, ho1⟩
  have hown1 := own_only hown ho1 (by omega)
  have hO1 := hO.trans ho1
  have hend : Hid (BentPost w0 rb L n (.slice A n c) (.returned (.slice A n c)) w1) := ⟨xs, _, rfl, hown1, hr1, by omega, hO1⟩
  by_cases hn0 : 0 < n
  · obtain ⟨g, c', hve, hg1, hg2⟩ := own_block hown1 hn0
    injection hve with hA _ hc
    subst hA; subst hc
    clear hown
    by_cases h0 : k = 0
    · go_wp2_with fail
      refine (pick_any rb _ _ _ hr1 (by omega) (by omega)).mono ?_
      rintro e w2 ⟨i, rfl, hr2, _, hi, ho2⟩
      obtain ⟨hi0, hi1⟩ := hi (by omega)
      obtain ⟨i, rfl⟩ := Int.eq_ofNat_of_zero_le hi0
      have hown2 := own_only hown1 ho2 (by omega)
      have hs2 := ho2.size
      have hlt2 := hr2.lt
      go_wp2_with fail
      refine (one_any rb _ _ _ _ _ _ (hr2.alloc _) (by omega) (lit3 rfl 4 (-1) 2) (by omega) (far_lit hlt2)).mono ?_
      rintro e w3 ⟨v, rfl, _, hr3, ho3⟩
      have hown3 := own_only (hown2.alloc _) ho3 (by omega)
      have hst := (bent_step hown3 hr3 (by omega) (((hO1.trans ho2).alloc _).trans ho3) hL hrb i (by omega) v).2.1
      obtain ⟨o, d0, d1, d2⟩ := own_cells3 hown3 (i := i) (by omega)
      have hf := hown3.frozenAt (i * 3 + 1)
      go_wp2_with fail
      go_ret
      exact hst
    · by_cases h1 : k = 1
      · go_wp2_with fail
        refine (pick_any rb _ _ _ hr1 (by omega) (by omega)).mono ?_
        rintro e w2 ⟨i, rfl, hr2, _, hi, ho2⟩
        obtain ⟨hi0, hi1⟩ := hi (by omega)
        obtain ⟨i, rfl⟩ := Int.eq_ofNat_of_zero_le hi0
        have hown2 := own_only hown1 ho2 (by omega)
        have hs2 := ho2.size
        have hlt2 := hr2.lt
        go_wp2_with fail
        refine (one_any rb _ _ _ _ _ _ (hr2.alloc _) (by omega) (lit3 rfl 4 (-1) 0) (by omega) (far_lit hlt2)).mono ?_
        rintro e w3 ⟨v, rfl, _, hr3, ho3⟩
        have hown3 := own_only (hown2.alloc _) ho3 (by omega)
        have hst := (bent_step hown3 hr3 (by omega) (((hO1.trans ho2).alloc _).trans ho3) hL hrb i (by omega) v).1
        obtain ⟨o, d0, d1, d2⟩ := own_cells3 hown3 (i := i) (by omega)
        have hf := hown3.frozenAt (i * 3)
        go_wp2_with fail
        go_ret
        exact hst
      · by_cases h2 : k = 2
        · go_wp2_with fail
          refine (pick_any rb _ _ _ hr1 (by omega) (by omega)).mono ?_
          rintro e w2 ⟨i, rfl, hr2, _, hi, ho2⟩
          obtain ⟨hi0, hi1⟩ := hi (by omega)
          obtain ⟨i, rfl⟩ := Int.eq_ofNat_of_zero_le hi0
          have hown2 := own_only hown1 ho2 (by omega)
          have hs2 := ho2.size
          have hlt2 := hr2.lt
          go_wp2_with fail
          refine (one_any rb _ _ _ _ _ _ (hr2.alloc _) (by omega) (lit3 rfl 3 (-1) 1) (by omega) (far_lit hlt2)).mono ?_
          rintro e w3 ⟨v, rfl, _, hr3, ho3⟩
          have hown3 := own_only (hown2.alloc _) ho3 (by omega)
          have hst := (bent_step hown3 hr3 (by omega) (((hO1.trans ho2).alloc _).trans ho3) hL hrb i (by omega) v).2.2
          obtain ⟨o, d0, d1, d2⟩ := own_cells3 hown3 (i := i) (by omega)
          have hf := hown3.frozenAt (i * 3 + 2)
          go_wp2_with fail
          go_ret
          exact hst
        · clear hown1 hr1 ho1 hO1
          go_wp2_with fail
          go_ret
          exact hend.out
  · have hn1 : n = 0 := by omega
    subst hn1
    clear hown hown1 hr1 ho1 hO1
    by_cases h0 : k = 0
    · go_wp2_with fail
      go_ret
      exact hend.out
    · by_cases h1 : k = 1
      · go_wp2_with fail
        go_ret
        exact hend.out
      · by_cases h2 : k = 2
        · go_wp2_with fail
          go_ret
          exact hend.out
        · go_wp2_with fail
          go_ret
          exact hend.out

/-- Some operations, at most twenty, in memory of the call's own. -/
def Drawn (w0 : World) (e : Ending) (w : World) : Prop :=
  ∃ (A : Option Addr) (n c : Nat) (xs : List OpV), e = .returned (.slice A n c) ∧ w.ownsRow w0.heap.size 92 3 (.slice A n c) n (opCells xs) ∧ n ≤ 20 ∧ Below w0.heap.size w0 w

def SomeSched (w0 : World) (rb : Nat) (e : Ending) (w : World) : Prop :=
  ∃ (A : Option Addr) (n c p : Nat) (xs : List OpV), e = .returned (.slice A n c) ∧ w.ownsRow w0.heap.size 92 3 (.slice A n c) n (opCells xs) ∧ n ≤ 20 ∧ Rd w rb p ∧ p ≤ 80000 ∧ Only rb w0 w

set_option maxHeartbeats 400000 in
theorem someSchedule_any (rb p : Nat) (w : World) (h : Rd w rb p) (hp : p ≤ 50000) :
    Calls Try.prog 137 #[.pointer (some ⟨rb, 0, none⟩)] w (SomeSched w rb) := by
  have hlt := h.lt
  go_enter Try.func137, Try.ntmps137
  go_wp2_with fail
  refine (goodSchedule_any rb p 16 w h hp (by omega)).mono ?_
  rintro e w1 ⟨v, n, xs, q, rfl, hown, hn, hr, hq, hO⟩
  obtain ⟨A, c, rfl⟩ := own_form hown
  go_wp2_with fail
  refine (bent_any rb q w.heap.size n c A xs w w1 hr (by omega) hown hn hO (Nat.le_refl _) hlt).mono ?_
  rintro e w2 ⟨xs', q', rfl, hown', hr', hq', hO'⟩
  go_wp2_with fail
  go_ret
  exact ⟨A, n, c, q', xs', rfl, hown', hn, hr', hq', hO'⟩

end Go.Proofs.Ytcakjhappchlmaa
namespace Go.Proofs.Ytcakjhappchlmaa
open Go.RowKit Go.BigFrame
set_option linter.unusedVariables false

def GoodPostL (w0 : World) (rb : Nat) (e : Ending) (w : World) : Prop :=
  ∃ (v : Value) (n : Nat) (xs : List OpV) (p : Nat), e = .returned v ∧ w.ownsRow w0.heap.size 92 3 v n (opCells xs) ∧ n ≤ 20 ∧ Rd w rb p ∧ p ≤ 20000 ∧ Only rb w0 w
set_option maxRecDepth 100000 in
set_option maxHeartbeats 2000000 in
theorem goodScheduleL_any (rb p most : Nat) (w0 : World) (h : Rd w0 rb p) (hp : p ≤ 10000) (hm : most ≤ 16) :
    Calls Try.prog 98 #[.pointer (some ⟨rb, 0, none⟩), .int .i64 (most : Int)] w0 (GoodPostL w0 rb) := by
  have hlt := h.lt
  go_enter Try.func98, Try.ntmps98
  go_wp2_with fail
  refine (programs_any rb p most w0 h (by omega) hm).mono ?_
  rintro e w1 ⟨lv, vs, left, rfl, q, hlv, hv4, hrows, _, _, hr1, hq1, hO1⟩
  have hlt1 := hr1.lt
  go_wp2_with fail
  refine (pick_any rb q 4 _ (hr1.alloc _) (by omega) (by omega)).mono ?_
  rintro e w2 ⟨sw, rfl, hr2, _, _, ho2⟩
  have hs2 := ho2.size
  have hs1 := hO1.size
  have ht5 : ∀ v ∈ vs, lenOf v ≤ 5 := by
    intro v hv
    obtain ⟨A, n, c, xs, rfl, _, hn, _⟩ := hrows v hv
    exact hn
  have htot := tot_le vs 5 ht5
  have HST : Hid (Good w0 rb w1.heap.size 10100 vs.length lv (.slice (some ⟨w1.heap.size, 0, none⟩) 0 0) w2) :=
    ⟨hv4, 0, [], vs, q + 1, own_only (hlv.alloc _) ho2 hlt, (hrows.keep (fun b h1 h2 _ => Below.heap_alloc _ _ _ h2) (by simp)).only ho2 (by simp) hlt,
      own_only (World.ownsRow_made w1 #[] 0 (Nat.le_refl _) (by decide) rfl) ho2 hlt1, by omega, hr2, by omega, (hO1.alloc _).trans ho2, by simp at hs2; omega⟩
  obtain ⟨Al, cl, rfl⟩ := own_form hlv
  generalize hk : vs.length = K at *
  have HK := Lib.hid hk
  clear hk hlv hrows hr1 hq1 hO1 hr2 ho2 ht5 htot
  go_wp2_with fail
  go_loopw [6] (fun ov w => Good w0 rb w1.heap.size 10100 K (.slice Al K cl) ov w) (fun ov _ => 21 - lenOf ov)
  case atStart => exact HST.out
  case round =>
    clear HST HK vs
    obtain ⟨wo, rfl⟩ : ∃ wo : World, wo = wr := ⟨_, rfl⟩
    obtain ⟨hK4, n, xs, vs, p3, hlv, hrows, hov, hsum, hr, hp3, hO, hLw⟩ := hrel
    have hlr := hr.lt
    have hvl : vs.length = K := by simpa using hlv.1
    have HIN : Hid (Some_ wo rb p3 0 vs (.slice (some ⟨wo.heap.size, 0, none⟩) 0 0) (wo.alloc (.cells #[] 3))) :=
      ⟨[], by simp, World.ownsRow_made wo #[] 0 (Nat.le_refl _) (by decide) rfl, by simp, hr.alloc _, (Only.refl _ _).alloc _⟩
    have HO := Lib.hid (And.intro hlv (And.intro hrows (And.intro hov (And.intro hr (And.intro hO hvl)))))
    clear hlv hrows hov hr hO hvl
    go_wp2_with fail
    go_loopw [8, 9] (fun sv t w => ∃ k : Nat, k ≤ K ∧ t = .int .i64 k ∧ Some_ wo rb p3 k vs sv w) (fun _ t _ => K - (intOf t).toNat)
    case atStart => exact ⟨0, by omega, rfl, HIN.out⟩
    case round =>
      clear HIN
      obtain ⟨k, hk, rfl, ts, htk, hts, hin, hr, hOi⟩ := hrel
      by_cases hkK : k < K
      · have hlw := own_only HO.out.1 hOi hlt
        obtain ⟨g, cl', hve, hg1, hg2⟩ := own_block hlw (by omega)
        injection hve with hA _ hc
        subst hA; subst hc
        have hcell : wr.cell? ⟨g, k, none⟩ = vs[k]? := by simpa using hlw.cellAt k (by omega)
        obtain ⟨u, hu⟩ : ∃ u, vs[k]? = some u := ⟨vs[k]'(by have := HO.out.2.2.2.2.2; omega), List.getElem?_eq_getElem _⟩
        obtain ⟨A, nt, ct, ys, rfl, hnc, hn5, hro, hAA⟩ := HO.out.2.1 u (List.mem_of_getElem? hu)
        rw [hu] at hcell
        have HU := Lib.hid hu
        clear hu hro hAA hlw
        have hsz := hOi.size
        by_cases hnt : 0 < nt
        · go_wp2_with (at_builtin; refine app_ints (.tmp 32) (.tmp 34) (hts.alloc _) (by simp; omega) (lit1 rfl (k : Int)) (by omega) rfl rfl rfl rfl ?_; intro v6 w6 hown6 hg6 hat6)
          have hg6' := World.grownBy.trans (World.grownBy_alloc wr _ _) hg6
          have hO6 := hOi.own hts (Nat.le_refl _) hg6'
          have hr6 := hr.grown hg6' fun j hj => by have := (World.ownsRow.lt hts j hj).1; omega
          go_wp2_with fail
          go_roundw
          case rel => exact ⟨k + 1, by omega, by go_num, ts ++ [(k : Int)], by simp; omega, by simpa using hown6, mem_snoc hin ⟨by omega, _, _, _, by simpa using HU.out, hnt⟩, hr6, hO6⟩
          case measure => simp [intOf]; omega
        · go_wp2_with fail
          go_roundw
          case rel => exact ⟨k + 1, by omega, by go_num, ts, by omega, hts, hin, hr, hOi⟩
          case measure => simp [intOf]; omega
      · obtain ⟨As, cs, rfl⟩ := own_form hts
        have hsz := hOi.size
        by_cases hts0 : ts.length = 0
        · have hovr := own_only HO.out.2.2.1 hOi hlt1
          have hO' := HO.out.2.2.2.2.1.trans hOi
          go_wp2_with fail
          go_ret
          exact ⟨_, n, xs, p3, rfl, own_base hovr (by omega), by omega, hr, by omega, hO'⟩
        · go_wp2_with fail
          refine (pick_any rb p3 _ _ hr (by omega) (by omega)).mono ?_
          rintro e w4 ⟨pv, rfl, hr4, _, hpv, ho4⟩
          obtain ⟨hpv0, hpv1⟩ := hpv (by omega)
          have hso := HO.out.2.2.2.2.1.size
          have hs4 := ho4.size
          obtain ⟨b, off, x, hAs, _, hx, hc4⟩ := (RInts.of_own (own_only hts ho4 (by omega)) (by omega)).at_ (k := pv.toNat) (by omega)
          subst hAs
          obtain ⟨hx0, A, nt, ct, hvx, hnt⟩ := hin x (List.mem_of_getElem? hx)
          obtain ⟨X, rfl⟩ := Int.eq_ofNat_of_zero_le hx0
          rw [Int.toNat_natCast] at hvx
          have hxK : X < K := by
            have h1 := HO.out.2.2.2.2.2
            rcases Nat.lt_or_ge X vs.length with h | h
            · omega
            · rw [List.getElem?_eq_none h] at hvx; cases hvx
          have hlw4 := own_only (own_only HO.out.1 hOi hlt) ho4 hlt
          obtain ⟨g, cl', hve, hg1, hg2⟩ := own_block hlw4 (by omega)
          injection hve with hA _ hc
          subst hA; subst hc
          have hcell4 : w4.cell? ⟨g, X, none⟩ = some (.slice A nt ct) := by rw [hlw4.cellAt X (by omega)]; exact hvx
          have HU := Lib.hid hvx
          have hnt5 := row_len (HO.out.2.1 _ (List.mem_of_getElem? hvx))
          clear hvx hx hin hlw4 hts
          by_cases hsw : sw = 0
          · go_wp2_with fail
            refine (pick_any rb _ _ _ hr4 (by omega) (by omega)).mono ?_
            rintro e w5 ⟨pk, rfl, hr5, _, hpk, ho5⟩
            obtain ⟨hpk0, hpk1⟩ := hpk (by omega)
            obtain ⟨k, rfl⟩ := Int.eq_ofNat_of_zero_le hpk0
            have hs5 := ho5.size
            have ho45 := ho4.trans ho5
            have hlwf := own_only (own_only HO.out.1 hOi hlt) ho45 hlt
            have hcell5 : w5.cell? ⟨g, X, none⟩ = some (.slice A nt ct) := by rw [hlwf.cellAt X (by omega)]; exact HU.out
            have hov5 := own_only (own_only HO.out.2.2.1 hOi hlt1) ho45 hlt1
            have hrows5 := (HO.out.2.1.only hOi (by omega) hlt).only ho45 (by omega) hlt
            obtain ⟨A', n', c', ys, hv', hnc, hn5, hro, _⟩ := hrows5 _ (List.mem_of_getElem? HU.out)
            injection hv' with e1 e2 e3
            subst e1; subst e2; subst e3
            have hro' := hro.take (k := 1 + k) (by omega)
            have HR := Lib.hid (And.intro hlwf (And.intro hrows5 (And.intro hov5 hro')))
            clear hlwf hrows5 hro hro'
            go_wp2_with (at_builtin; refine app_ops (.tmp 56) (.tmp 62) hov5 (by omega) HR.out.2.2.2 (by omega) rfl rfl rfl rfl ?_; intro v6 w6 hown6 hg6 hat6; obtain ⟨hgood, hcell6, hfr6⟩ := good_step (k := 1 + k) (P := 10100) hlt hK4 HR.out.1 HR.out.2.1 (by omega) hov5 (by omega) hsum hr5 ((HO.out.2.2.2.2.1.trans hOi).trans ho45) HU.out (by omega) (by omega) hown6 hg6 (by omega))
            all_goals
              go_roundw
              case rel =>
                first
                  | (have e : ct = 1 + k := by assumption
                     rw [if_pos e, show ct - (1 + k) = 0 from by omega] at hgood
                     exact hgood)
                  | (rw [if_neg (by omega)] at hgood
                     exact hgood)
              case measure =>
                have e6 := own_len hown6
                have e5 := own_len hov5
                omega
          · have hlwf := own_only (own_only HO.out.1 hOi hlt) ho4 hlt
            have hcell5 : w4.cell? ⟨g, X, none⟩ = some (.slice A nt ct) := by rw [hlwf.cellAt X (by omega)]; exact HU.out
            have hov5 := own_only (own_only HO.out.2.2.1 hOi hlt1) ho4 hlt1
            have hrows5 := (HO.out.2.1.only hOi (by omega) hlt).only ho4 (by omega) hlt
            obtain ⟨A', n', c', ys, hv', hnc, hn5, hro, _⟩ := hrows5 _ (List.mem_of_getElem? HU.out)
            injection hv' with e1 e2 e3
            subst e1; subst e2; subst e3
            have hro' := hro.take (k := 1) (by omega)
            have HR := Lib.hid (And.intro hlwf (And.intro hrows5 (And.intro hov5 hro')))
            clear hlwf hrows5 hro hro'
            go_wp2_with (at_builtin; refine app_ops (.tmp 56) (.tmp 62) hov5 (by omega) HR.out.2.2.2 (by omega) rfl rfl rfl rfl ?_; intro v6 w6 hown6 hg6 hat6; obtain ⟨hgood, hcell6, hfr6⟩ := good_step (k := 1) (P := 10100) hlt hK4 HR.out.1 HR.out.2.1 (by omega) hov5 (by omega) hsum hr4 ((HO.out.2.2.2.2.1.trans hOi).trans ho4) HU.out (by omega) (by omega) hown6 hg6 (by omega))
            all_goals
              go_roundw
              case rel =>
                first
                  | (have e : ct = 1 := by assumption
                     rw [if_pos e, show ct - (1) = 0 from by omega] at hgood
                     exact hgood)
                  | (rw [if_neg (by omega)] at hgood
                     exact hgood)
              case measure =>
                have e6 := own_len hown6
                have e5 := own_len hov5
                omega
def BentPostL (w0 : World) (rb L n : Nat) (v : Value) (e : Ending) (w : World) : Prop :=
  ∃ (xs : List OpV) (p : Nat), e = .returned v ∧ w.ownsRow L 92 3 v n (opCells xs) ∧ Rd w rb p ∧ p ≤ 40000 ∧ Only rb w0 w
theorem bent_stepL {w0 w : World} {rb L n p g c : Nat} {xs : List OpV} (hown : w.ownsRow L 92 3 (.slice (some ⟨g, 0, none⟩) n c) n (opCells xs)) (hr : Rd w rb p) (hp : p ≤ 40000) (hO : Only rb w0 w)
    (hL : w0.heap.size ≤ L) (hrb : rb < w0.heap.size) (i : Nat) (hi : i < n) (v : Int) :
    BentPostL w0 rb L n (.slice (some ⟨g, 0, none⟩) n c) (.returned (.slice (some ⟨g, 0, none⟩) n c)) (w.setCell ⟨g, i * 3, none⟩ (.int .i64 v)) ∧
    BentPostL w0 rb L n (.slice (some ⟨g, 0, none⟩) n c) (.returned (.slice (some ⟨g, 0, none⟩) n c)) (w.setCell ⟨g, i * 3 + 1, none⟩ (.int .i64 v)) ∧
    BentPostL w0 rb L n (.slice (some ⟨g, 0, none⟩) n c) (.returned (.slice (some ⟨g, 0, none⟩) n c)) (w.setCell ⟨g, i * 3 + 2, none⟩ (.int .i64 v)) := by
  have hl := hown.1
  rw [length_opCells] at hl
  have e : xs[i]? = some (xs[i]'(by omega)) := List.getElem?_eq_getElem (by omega)
  have hset := opCells_set xs i _ e v
  have hg := World.ownsRow.lt hown g rfl
  have hk : ∀ j, Rd (w.setCell ⟨g, j, none⟩ (.int .i64 v)) rb p ∧ Only rb w0 (w.setCell ⟨g, j, none⟩ (.int .i64 v)) := fun j =>
    ⟨hr.grown (hown.stored j _).2 fun k hk => by injection hk with hk; omega, hO.grown (hown.stored j _).2 fun k hk => by injection hk with hk; omega⟩
  have h0 := (hown.stored (i * 3) (.int .i64 v)).1
  have h1 := (hown.stored (i * 3 + 1) (.int .i64 v)).1
  have h2 := (hown.stored (i * 3 + 2) (.int .i64 v)).1
  rw [hset.1] at h0
  rw [hset.2.1] at h1
  rw [hset.2.2] at h2
  exact ⟨⟨_, p, rfl, h0, (hk _).1, hp, (hk _).2⟩, ⟨_, p, rfl, h1, (hk _).1, hp, (hk _).2⟩, ⟨_, p, rfl, h2, (hk _).1, hp, (hk _).2⟩⟩
set_option maxRecDepth 100000 in
set_option maxHeartbeats 2000000 in
theorem bentL_any (rb p L n c : Nat) (A : Option Addr) (xs : List OpV) (w0 w : World) (h : Rd w rb p) (hp : p ≤ 30000) (hown : w.ownsRow L 92 3 (.slice A n c) n (opCells xs)) (hn : n ≤ 20) (hO : Only rb w0 w)
    (hL : w0.heap.size ≤ L) (hrb : rb < w0.heap.size) :
    Calls Try.prog 138 #[.pointer (some ⟨rb, 0, none⟩), .slice A n c] w (BentPostL w0 rb L n (.slice A n c)) := by
  have hsz := hO.size
  go_enter Try.func138, Try.ntmps138
  go_wp2_with fail
  refine (pick_any rb p 40 w h (by omega) (by omega)).mono ?_
  rintro e w1 ⟨k, rfl, hr1, _, _, ho1⟩
  have hown1 := own_only hown ho1 (by omega)
  have hO1 := hO.trans ho1
  have hend : Hid (BentPostL w0 rb L n (.slice A n c) (.returned (.slice A n c)) w1) := ⟨xs, _, rfl, hown1, hr1, by omega, hO1⟩
  by_cases hn0 : 0 < n
  · obtain ⟨g, c', hve, hg1, hg2⟩ := own_block hown1 hn0
    injection hve with hA _ hc
    subst hA; subst hc
    clear hown
    by_cases h0 : k = 0
    · go_wp2_with fail
      refine (pick_any rb _ _ _ hr1 (by omega) (by omega)).mono ?_
      rintro e w2 ⟨i, rfl, hr2, _, hi, ho2⟩
      obtain ⟨hi0, hi1⟩ := hi (by omega)
      obtain ⟨i, rfl⟩ := Int.eq_ofNat_of_zero_le hi0
      have hown2 := own_only hown1 ho2 (by omega)
      have hs2 := ho2.size
      have hlt2 := hr2.lt
      go_wp2_with fail
      refine (one_any rb _ _ _ _ _ _ (hr2.alloc _) (by omega) (lit3 rfl 4 (-1) 2) (by omega) (far_lit hlt2)).mono ?_
      rintro e w3 ⟨v, rfl, _, hr3, ho3⟩
      have hown3 := own_only (hown2.alloc _) ho3 (by omega)
      have hst := (bent_stepL hown3 hr3 (by omega) (((hO1.trans ho2).alloc _).trans ho3) hL hrb i (by omega) v).2.1
      obtain ⟨o, d0, d1, d2⟩ := own_cells3 hown3 (i := i) (by omega)
      have hf := hown3.frozenAt (i * 3 + 1)
      go_wp2_with fail
      go_ret
      exact hst
    · by_cases h1 : k = 1
      · go_wp2_with fail
        refine (pick_any rb _ _ _ hr1 (by omega) (by omega)).mono ?_
        rintro e w2 ⟨i, rfl, hr2, _, hi, ho2⟩
        obtain ⟨hi0, hi1⟩ := hi (by omega)
        obtain ⟨i, rfl⟩ := Int.eq_ofNat_of_zero_le hi0
        have hown2 := own_only hown1 ho2 (by omega)
        have hs2 := ho2.size
        have hlt2 := hr2.lt
        go_wp2_with fail
        refine (one_any rb _ _ _ _ _ _ (hr2.alloc _) (by omega) (lit3 rfl 4 (-1) 0) (by omega) (far_lit hlt2)).mono ?_
        rintro e w3 ⟨v, rfl, _, hr3, ho3⟩
        have hown3 := own_only (hown2.alloc _) ho3 (by omega)
        have hst := (bent_stepL hown3 hr3 (by omega) (((hO1.trans ho2).alloc _).trans ho3) hL hrb i (by omega) v).1
        obtain ⟨o, d0, d1, d2⟩ := own_cells3 hown3 (i := i) (by omega)
        have hf := hown3.frozenAt (i * 3)
        go_wp2_with fail
        go_ret
        exact hst
      · by_cases h2 : k = 2
        · go_wp2_with fail
          refine (pick_any rb _ _ _ hr1 (by omega) (by omega)).mono ?_
          rintro e w2 ⟨i, rfl, hr2, _, hi, ho2⟩
          obtain ⟨hi0, hi1⟩ := hi (by omega)
          obtain ⟨i, rfl⟩ := Int.eq_ofNat_of_zero_le hi0
          have hown2 := own_only hown1 ho2 (by omega)
          have hs2 := ho2.size
          have hlt2 := hr2.lt
          go_wp2_with fail
          refine (one_any rb _ _ _ _ _ _ (hr2.alloc _) (by omega) (lit3 rfl 3 (-1) 1) (by omega) (far_lit hlt2)).mono ?_
          rintro e w3 ⟨v, rfl, _, hr3, ho3⟩
          have hown3 := own_only (hown2.alloc _) ho3 (by omega)
          have hst := (bent_stepL hown3 hr3 (by omega) (((hO1.trans ho2).alloc _).trans ho3) hL hrb i (by omega) v).2.2
          obtain ⟨o, d0, d1, d2⟩ := own_cells3 hown3 (i := i) (by omega)
          have hf := hown3.frozenAt (i * 3 + 2)
          go_wp2_with fail
          go_ret
          exact hst
        · clear hown1 hr1 ho1 hO1
          go_wp2_with fail
          go_ret
          exact hend.out
  · have hn1 : n = 0 := by omega
    subst hn1
    clear hown hown1 hr1 ho1 hO1
    by_cases h0 : k = 0
    · go_wp2_with fail
      go_ret
      exact hend.out
    · by_cases h1 : k = 1
      · go_wp2_with fail
        go_ret
        exact hend.out
      · by_cases h2 : k = 2
        · go_wp2_with fail
          go_ret
          exact hend.out
        · go_wp2_with fail
          go_ret
          exact hend.out
def SomeSchedL (w0 : World) (rb : Nat) (e : Ending) (w : World) : Prop :=
  ∃ (A : Option Addr) (n c p : Nat) (xs : List OpV), e = .returned (.slice A n c) ∧ w.ownsRow w0.heap.size 92 3 (.slice A n c) n (opCells xs) ∧ n ≤ 20 ∧ Rd w rb p ∧ p ≤ 40000 ∧ Only rb w0 w
set_option maxHeartbeats 400000 in
theorem someScheduleL_any (rb p : Nat) (w : World) (h : Rd w rb p) (hp : p ≤ 10000) :
    Calls Try.prog 137 #[.pointer (some ⟨rb, 0, none⟩)] w (SomeSchedL w rb) := by
  have hlt := h.lt
  go_enter Try.func137, Try.ntmps137
  go_wp2_with fail
  refine (goodScheduleL_any rb p 16 w h hp (by omega)).mono ?_
  rintro e w1 ⟨v, n, xs, q, rfl, hown, hn, hr, hq, hO⟩
  obtain ⟨A, c, rfl⟩ := own_form hown
  go_wp2_with fail
  refine (bentL_any rb q w.heap.size n c A xs w w1 hr (by omega) hown hn hO (Nat.le_refl _) hlt).mono ?_
  rintro e w2 ⟨xs', q', rfl, hown', hr', hq', hO'⟩
  go_wp2_with fail
  go_ret
  exact ⟨A, n, c, q', xs', rfl, hown', hn, hr', hq', hO'⟩
end Go.Proofs.Ytcakjhappchlmaa
namespace Go.Proofs.Ytcakjhappchlmaa
open Go.RowKit Go.BigFrame
set_option linter.unusedVariables false

end Go.Proofs.Ytcakjhappchlmaa
namespace Go.Proofs.Ytcakjhappchlmaa
open Go.RowKit Go.BigFrame
set_option linter.unusedVariables false


set_option maxHeartbeats 400000 in
theorem IndexS_any (A : Option Addr) (n c : Nat) (xs : List Int) (x : Int) (w : World) (hx : RInts w A n xs) :
    Calls Try.prog 125 #[.slice A n c, .int .i64 x] w fun e w' => e = .returned (.int .i64 (idxZ xs x)) ∧ Below w.heap.size w w' := by
  have hn := hx.2.1
  have hl := hx.1
  have HX := Lib.hid hx
  clear hx
  go_enter Try.func125, Try.ntmps125
  go_wp2_with fail
  go_loopw [8] (fun i wr => ∃ k : Nat, k ≤ n ∧ i = .int .i64 k ∧ Below w.heap.size w wr ∧ (∀ j, j < k → ∀ y, xs[j]? = some y → (y == x) = false)) (fun i _ => n - (intOf i).toNat)
  case atStart => exact ⟨0, Nat.zero_le _, rfl, Below.refl _ _, by omega⟩
  case round =>
    obtain ⟨k, hk, rfl, hb, hno⟩ := hrel
    by_cases hlt : k < n
    · obtain ⟨b, off, y, rfl, hbl, ho, c0⟩ := (HX.out.below hb (Nat.le_refl _)).at_ hlt
      have HN : Hid ((y == x) = false → ∀ j, j < k + 1 → ∀ y, xs[j]? = some y → (y == x) = false) := fun h => no_snoc ho hno h
      have HT : Hid ((y == x) = true → idxZ xs x = (k : Int)) := fun h => idxZ_hit ho h hno
      have L0 := Later.cell c0
      clear hno ho
      by_cases h1 : y = x
      · have hs := Lib.hid (HT.out (by simpa using h1))
        have h1' : (x == y) = true := by simpa using h1.symm
        go_wp2_with fail
        try (refine region_later (by kernel_rfl) (by kernel_rfl) ?_; repeat (go_big_quiet_step (fail)); refine wpQuiet_nil ?_; rintro _ ⟨u, rfl⟩; go_wp2_with fail)
        go_ret
        exact ⟨ret_int hs.out.symm, by first | exact hb | exact hb.trans (u.2.mono hb.size)⟩
      · have hs := Lib.hid (HN.out (by simpa using h1))
        have h1' : (x == y) = false := by simpa using fun h => h1 h.symm
        go_wp2_with fail
        try (refine region_later (by kernel_rfl) (by kernel_rfl) ?_; repeat (go_big_quiet_step (fail)); refine wpQuiet_nil ?_; rintro _ ⟨u, rfl⟩; go_wp2_with fail)
        go_roundw
        case rel => exact ⟨k + 1, by omega, by go_num, by first | exact hb | exact hb.trans (u.2.mono hb.size), hs.out⟩
        case measure => simp [intOf]; omega
    · have HE := Lib.hid (idxZ_none (xs := xs) (x := x) (fun j hj => hno j (by omega)))
      clear hno
      go_wp2_with fail
      go_ret
      exact ⟨ret_int HE.out.symm, hb⟩


set_option maxHeartbeats 400000 in
theorem ContainsS_any (A : Option Addr) (n c : Nat) (xs : List Int) (x : Int) (w : World) (hx : RInts w A n xs) :
    Calls Try.prog 87 #[.slice A n c, .int .i64 x] w fun e w' => e = .returned (.bool (xs.any fun y => y == x)) ∧ Below w.heap.size w w' := by
  have HI := Lib.hid (IndexS_any A n c xs x w hx)
  have hz := idxZ_any xs x
  clear hx
  go_enter Try.func87, Try.ntmps87
  go_wp2_with fail
  refine HI.out.mono ?_
  rintro e w1 ⟨rfl, hb⟩
  generalize idxZ xs x = z at *
  cases ha : (xs.any fun y => y == x)
  · rw [ha] at hz
    have hz2 : z = -1 := by simpa using hz
    subst hz2
    have HA := Lib.hid ha
    clear ha hz
    go_wp2_with fail
    go_ret
    exact ⟨ret_bool HA.out.symm, hb⟩
  · rw [ha] at hz
    have hz2 : 0 ≤ z := by simpa using hz
    have HA := Lib.hid ha
    clear ha hz
    go_wp2_with fail
    go_ret
    exact ⟨ret_bool HA.out.symm, hb⟩

end Go.Proofs.Ytcakjhappchlmaa
namespace Go.Proofs.Ytcakjhappchlmaa
open Go.RowKit Go.BigFrame
set_option linter.unusedVariables false


end Go.Proofs.Ytcakjhappchlmaa
namespace Go.Proofs.Ytcakjhappchlmaa
open Go.RowKit Go.BigFrame
set_option linter.unusedVariables false

theorem opsOf_snoc {s : List OpV} {k : Nat} {o : OpV} {t : Int} (h : s[k]? = some o) : opsOf (s.take (k + 1)) t = opsOf (s.take k) t ++ if o.tx = t then [o] else [] := by
  unfold opsOf
  rw [take_snoc h, List.filter_append]
  by_cases e : o.tx = t <;> simp [e]
theorem hasTx_snoc {s : List OpV} {k : Nat} {o : OpV} {t : Int} (h : s[k]? = some o) : hasTx (s.take (k + 1)) t = (hasTx (s.take k) t || o.tx == t) := by
  unfold hasTx
  rw [take_snoc h, List.any_append]; simp
theorem hasTx_of_take {s : List OpV} {k : Nat} {t : Int} (h : hasTx (s.take k) t = true) : hasTx s t = true := by
  unfold hasTx at *
  rw [List.any_eq_true] at *
  obtain ⟨o, ho, e⟩ := h
  exact ⟨o, List.mem_of_mem_take ho, e⟩

set_option maxRecDepth 100000 in
set_option maxHeartbeats 1000000 in
theorem sopsOf_any (A : Option Addr) (n c : Nat) (s : List OpV) (t : Int) (w : World) (hx : ROps w A n s) :
    Calls Try.prog 133 #[.slice A n c, .int .i64 t] w (RetOps w (opsOf s t)) := by
  have hn := hx.2.1
  have hl := hx.1
  have HX := Lib.hid hx
  clear hx
  have HST : Hid ((w.alloc (.cells #[] 92)).ownsRow w.heap.size 92 3 (.slice (some ⟨w.heap.size, 0, none⟩) 0 0) 0 (opCells (opsOf (s.take 0) t))) :=
    World.ownsRow_made w #[] 0 (Nat.le_refl _) (by decide) rfl
  go_enter Try.func133, Try.ntmps133
  go_wp2_with fail
  go_loopw [5, 6] (fun ov i wr => ∃ (k m : Nat), k ≤ n ∧ m ≤ k ∧ i = .int .i64 k ∧ Below w.heap.size w wr ∧ wr.ownsRow w.heap.size 92 3 ov m (opCells (opsOf (s.take k) t))) (fun _ i _ => n - (intOf i).toNat)
  case atStart => exact ⟨0, 0, Nat.zero_le _, Nat.le_refl _, rfl, (Below.refl _ _).alloc (Nat.le_refl _) _, HST.out⟩
  case round =>
    clear HST
    obtain ⟨k, m, hk, hmk, rfl, hb, hown⟩ := hrel
    obtain ⟨Ao, co, rfl, hmc⟩ := own_form2 hown
    by_cases hlt : k < n
    · obtain ⟨b, off, o, rfl, hbl, ho, c0, c1, c2⟩ := (HX.out.below hb (Nat.le_refl _)).at_ hlt
      have hs := hb.size
      have HT := Lib.hid (opsOf_snoc (t := t) ho)
      clear ho
      obtain ⟨tx, kd, it⟩ := o
      simp only at HT c0 c1 c2
      by_cases h1 : tx = t
      · rw [if_pos h1] at HT
        subst h1
        go_wp2_with (at_builtin; refine app_ops (.tmp 21) (.tmp 26) (hown.alloc _) (by simp; omega) (ROps.lit1 _ ⟨_, _, _⟩ _) (by omega) rfl rfl rfl rfl ?_; intro v3 w3 hown3 hg3 hat3)
        have hb3 := Below.own hb hown (Nat.le_refl _) (World.grownBy.trans (World.grownBy_alloc wr _ _) hg3)
        go_wp2_with fail
        go_roundw
        case rel => exact ⟨k + 1, m + 1, by omega, by omega, by go_num, hb3, by rw [HT.out]; simpa using hown3⟩
        case measure => simp [intOf]; omega
      · rw [if_neg h1, List.append_nil] at HT
        go_wp2_with fail
        go_roundw
        case rel => exact ⟨k + 1, m, by omega, by omega, by go_num, hb, by rw [HT.out]; exact hown⟩
        case measure => simp [intOf]; omega
    · have e : s.take k = s := List.take_of_length_le (by omega)
      rw [e] at hown
      have HO := Lib.hid (RetOps.mk (c := co) (own_lenOps hown) hmc (FreshOps.of_own hown (Nat.le_refl _) (by omega)) hb)
      clear hown e
      go_wp2_with fail
      go_ret
      exact HO.out

set_option maxRecDepth 100000 in
set_option maxHeartbeats 1000000 in
theorem stxs_any (A : Option Addr) (n c : Nat) (s : List OpV) (w : World) (hx : ROps w A n s) :
    Calls Try.prog 92 #[.slice A n c] w (RetInts w (txsOf s)) := by
  have hn := hx.2.1
  have hl := hx.1
  have HX := Lib.hid hx
  clear hx
  have HST : Hid ((w.alloc (.cells #[] 3)).ownsRow w.heap.size 3 1 (.slice (some ⟨w.heap.size, 0, none⟩) 0 0) 0 (intCells (txsTo s 0))) :=
    World.ownsRow_made w #[] 0 (Nat.le_refl _) (by decide) rfl
  go_enter Try.func92, Try.ntmps92
  go_wp2_with fail
  go_loopw [3, 4] (fun ov i wr => ∃ (k m : Nat), k ≤ 4 ∧ m ≤ k ∧ i = .int .i64 k ∧ Below w.heap.size w wr ∧ wr.ownsRow w.heap.size 3 1 ov m (intCells (txsTo s k))) (fun _ i _ => 4 - (intOf i).toNat)
  case atStart => exact ⟨0, 0, Nat.zero_le _, Nat.le_refl _, rfl, (Below.refl _ _).alloc (Nat.le_refl _) _, HST.out⟩
  case round =>
    clear HST
    obtain ⟨wo, rfl⟩ : ∃ wo : World, wo = wr := ⟨_, rfl⟩
    obtain ⟨k, m, hk, hmk, rfl, hb, hown⟩ := hrel
    obtain ⟨Ao, co, rfl, hmc⟩ := own_form2 hown
    by_cases hlt : k < 4
    · have HT := Lib.hid (txsTo_succ s k)
      have hk4 : (k : Int) < 4 := by omega
      go_wp2_with fail
      go_loopw [3, 5] (fun ov' i' wr' => ∃ j : Nat, j ≤ n ∧ i' = .int .i64 j ∧ hasTx (s.take j) (k : Int) = false ∧ Hid (wo = wr' ∧ Value.slice Ao m co = ov')) (fun _ i' _ => n - (intOf i').toNat)
      case atStart => exact ⟨0, Nat.zero_le _, rfl, rfl, Lib.hid (And.intro rfl rfl)⟩
      case round =>
        obtain ⟨j, hj, rfl, hno, hw⟩ := hrel
        obtain ⟨e1, e2⟩ := hw.out
        subst e1; subst e2
        clear hw
        by_cases hlt2 : j < n
        · obtain ⟨b, off, o, rfl, hbl, ho, c0, c1, c2⟩ := (HX.out.below hb (Nat.le_refl _)).at_ hlt2
          have HS := Lib.hid (hasTx_snoc (t := (k : Int)) ho)
          rw [hno, Bool.false_or] at HS
          clear ho hno
          obtain ⟨tx, kd, it⟩ := o
          simp only at HS c0 c1 c2
          have hs := hb.size
          by_cases h1 : tx = (k : Int)
          · have ht := hasTx_of_take (t := (k : Int)) (by rw [HS.out]; simpa using h1)
            rw [ht, if_pos rfl] at HT
            clear ht HS
            go_wp2_with (at_builtin; refine app_ints (.tmp 24) (.tmp 26) (hown.alloc _) (by simp; omega) (lit1 rfl _) (by omega) rfl rfl rfl rfl ?_; intro v5 w5 hown5 hg5 hat5)
            have hb5 := Below.own hb hown (Nat.le_refl _) (World.grownBy.trans (World.grownBy_alloc wo _ _) hg5)
            go_wp2_with fail
            go_roundw
            case rel => exact ⟨k + 1, m + 1, by omega, by omega, by go_num, hb5, by rw [HT.out]; exact hown5⟩
            case measure => simp [intOf]; omega
          · have h1' : (tx == (k : Int)) = false := by simpa using h1
            rw [h1'] at HS
            go_wp2_with fail
            go_roundw
            case rel => exact ⟨j + 1, by omega, by go_num, HS.out, by first | trivial | exact Lib.hid (And.intro rfl rfl) | exact Lib.hid (And.intro rfl trivial) | simp⟩
            case measure => simp [intOf]; omega
        · have e : s.take j = s := List.take_of_length_le (by omega)
          rw [e] at hno
          rw [hno, if_neg (by simp), List.append_nil] at HT
          clear hno e
          go_wp2_with fail
          go_roundw
          case rel => exact ⟨k + 1, m, by omega, by omega, by go_num, hb, by rw [HT.out]; exact hown⟩
          case measure => simp [intOf]; omega
    · obtain rfl : k = 4 := by omega
      rw [txsTo_four] at hown
      have HO := Lib.hid (RetInts.mk (c := co) (own_lenInts hown) hmc (FreshInts.of_own hown (Nat.le_refl _) (by omega)) hb)
      clear hown
      go_wp2_with fail
      go_ret
      exact HO.out

end Go.Proofs.Ytcakjhappchlmaa
namespace Go.Proofs.Ytcakjhappchlmaa
open Go.RowKit Go.BigFrame
set_option linter.unusedVariables false


/-- From whom a read of item x at place i reads, as far as the places below k go. -/
def rfB (s : List OpV) (i : Nat) (x : Int) (q : OpV) : Bool := q.kind == 1 && q.item == x && endOf (s.take i) q.tx != 3
def rfTo (s : List OpV) (i : Nat) (x : Int) : Nat → Int
  | 0 => -1
  | k + 1 => match s[k]? with | some q => if rfB s i x q then q.tx else rfTo s i x k | none => rfTo s i x k
theorem rfTo_succ {s : List OpV} {i : Nat} {x : Int} {k : Nat} {q : OpV} (h : s[k]? = some q) : rfTo s i x (k + 1) = if rfB s i x q then q.tx else rfTo s i x k := by simp only [rfTo, h]

set_option maxRecDepth 100000 in
set_option maxHeartbeats 2000000 in
theorem readFrom_any (A : Option Addr) (n c k : Nat) (s : List OpV) (o : OpV) (w : World) (hx : ROps w A n s) (ho : s[k]? = some o) (hnc : n ≤ c) :
    Calls Try.prog 174 #[.slice A n c, .int .i64 (k : Int)] w fun e w' => e = .returned (.int .i64 (rfTo s k o.item k)) ∧ Below w.heap.size w w' := by
  have hn := hx.2.1
  have hl := hx.1
  have hk : k < n := by have := (List.getElem?_eq_some_iff.1 ho).1; omega
  have HX := Lib.hid hx
  have HO := Lib.hid ho
  clear hx ho
  have hkc : (k : Int) ≤ (c : Int) := by omega
  have hkn : (k : Int) < (n : Int) := by omega
  have hk0 : (0 : Int) ≤ (k : Int) := by omega
  go_enter Try.func174, Try.ntmps174
  go_wp2_with fail
  go_loopw [5] (fun i wr => ∃ j : Nat, j ≤ k ∧ i = .int .i64 ((j : Int) - 1) ∧ Below w.heap.size w wr ∧ rfTo s k o.item k = rfTo s k o.item j) (fun i _ => (intOf i + 1).toNat)
  case atStart => exact ⟨k, Nat.le_refl _, by go_num, Below.refl _ _, rfl⟩
  case round =>
    obtain ⟨j, hj, rfl, hb, he⟩ := hrel
    by_cases hz : 0 < j
    · obtain ⟨q, rfl⟩ : ∃ q, j = q + 1 := ⟨j - 1, by omega⟩
      have e1 : (((q + 1 : Nat) : Int) - 1) = (q : Int) := by omega
      rw [e1]
      have hxr := HX.out.below hb (Nat.le_refl _)
      obtain ⟨b, off, p, hA, hbl, hp, c0, c1, c2⟩ := hxr.at_ (k := q) (by omega)
      obtain ⟨b', off', o', hA', _, ho', d0, d1, d2⟩ := hxr.at_ hk
      subst hA
      injection hA' with hA'; injection hA' with q1 q2 _; subst q1; subst q2
      rw [HO.out] at ho'
      injection ho' with ho'
      subst ho'
      obtain ⟨E, hE⟩ : ∃ E, endOf (s.take k) p.tx = E := ⟨_, rfl⟩
      have hC : ∀ u : Later wr, Calls Try.prog 94 #[.slice (some ⟨b, off, none⟩) k c, .int .i64 p.tx] u.1 fun e w' => e = .returned (.int .i64 E) ∧ Below u.1.heap.size u.1 w' := fun u => by
        have := endOf_any (some ⟨b, off, none⟩) k c (s.take k) p.tx u.1 ((hxr.take (by omega)).later u); rw [hE] at this; exact this
      have hrs := rfTo_succ (i := k) (x := o.item) hp
      unfold rfB at hrs
      rw [hE] at hrs
      obtain ⟨ptx, pk, pit⟩ := p
      simp only at c0 c1 c2 hC hrs
      obtain ⟨b1, hb1⟩ : ∃ z, (pk == 1) = z := ⟨_, rfl⟩
      obtain ⟨b2, hb2⟩ : ∃ z, (pit == o.item) = z := ⟨_, rfl⟩
      obtain ⟨b3, hb3⟩ : ∃ z, (E != 3) = z := ⟨_, rfl⟩
      rw [hb1, hb2, hb3] at hrs
      have HC := Lib.hid hC
      have HRS := Lib.hid hrs
      have HE := Lib.hid he
      have L0 := Later.cell c0
      have L1 := Later.cell c1
      have L2 := Later.cell c2
      have M2 := Later.cell d2
      have hqn : (q : Int) < (n : Int) := by omega
      have hq0 : (0 : Int) ≤ (q : Int) := by omega
      clear hC hrs he hp c0 c1 c2 d0 d1 d2 hxr e1 hE
      cases b1
      · go_wp2_with fail
        refine region_later (by kernel_rfl) (by kernel_rfl) ?_
        repeat (go_big_quiet_step ((go_at_call 94; exact later_call _ (HC.out _))))
        refine wpQuiet_nil ?_
        rintro _ ⟨u, rfl⟩
        have hbu := hb.trans (u.2.mono hb.size)
        go_wp2_with fail
        go_roundw
        case rel => exact ⟨q, by omega, by go_num, hbu, by rw [HE.out, HRS.out]; rfl⟩
        case measure => simp [intOf] <;> omega
      · cases b2
        · go_wp2_with fail
          refine region_later (by kernel_rfl) (by kernel_rfl) ?_
          repeat (go_big_quiet_step ((go_at_call 94; exact later_call _ (HC.out _))))
          refine wpQuiet_nil ?_
          rintro _ ⟨u, rfl⟩
          have hbu := hb.trans (u.2.mono hb.size)
          go_wp2_with fail
          go_roundw
          case rel => exact ⟨q, by omega, by go_num, hbu, by rw [HE.out, HRS.out]; rfl⟩
          case measure => simp [intOf] <;> omega
        · cases b3
          · go_wp2_with fail
            refine region_later (by kernel_rfl) (by kernel_rfl) ?_
            repeat (go_big_quiet_step ((go_at_call 94; exact later_call _ (HC.out _))))
            refine wpQuiet_nil ?_
            rintro _ ⟨u, rfl⟩
            have hbu := hb.trans (u.2.mono hb.size)
            go_wp2_with fail
            go_roundw
            case rel => exact ⟨q, by omega, by go_num, hbu, by rw [HE.out, HRS.out]; rfl⟩
            case measure => simp [intOf] <;> omega
          · go_wp2_with fail
            refine region_later (by kernel_rfl) (by kernel_rfl) ?_
            repeat (go_big_quiet_step ((go_at_call 94; exact later_call _ (HC.out _))))
            refine wpQuiet_nil ?_
            rintro _ ⟨u, rfl⟩
            have hbu := hb.trans (u.2.mono hb.size)
            have l0 := L0 u
            go_wp2_with fail
            go_ret
            exact ⟨ret_int (by rw [HE.out, HRS.out]; rfl), hbu⟩
    · obtain rfl : j = 0 := by omega
      have HE := Lib.hid he
      clear he
      go_wp2_with fail
      go_ret
      exact ⟨ret_int (by rw [HE.out]; rfl), hb⟩
end Go.Proofs.Ytcakjhappchlmaa
namespace Go.Proofs.Ytcakjhappchlmaa
open Go.RowKit Go.BigFrame
set_option linter.unusedVariables false

def abB (s : List OpV) (t : Int) (i : Nat) : Bool := (s.take i).any fun o => o.tx == t && o.kind == 3
theorem abB_snoc {s : List OpV} {t : Int} {k : Nat} {o : OpV} (h : s[k]? = some o) : abB s t (k + 1) = (abB s t k || (o.tx == t && o.kind == 3)) := by
  unfold abB
  rw [take_snoc h, List.any_append]; simp
theorem abB_le {s : List OpV} {t : Int} {k i : Nat} (hk : k ≤ i) (h : abB s t k = true) : abB s t i = true := by
  unfold abB at *
  rw [List.any_eq_true] at *
  obtain ⟨o, ho, e⟩ := h
  refine ⟨o, ?_, e⟩
  have : s.take k = (s.take i).take k := by rw [List.take_take, Nat.min_eq_left hk]
  rw [this] at ho
  exact List.mem_of_mem_take ho

end Go.Proofs.Ytcakjhappchlmaa
namespace Go.Proofs.Ytcakjhappchlmaa
open Go.RowKit Go.BigFrame
set_option linter.unusedVariables false

def sfB (s : List OpV) (i : Nat) (x : Int) (q : OpV) : Bool := q.kind == 1 && q.item == x && !abB s q.tx i
def sfTo (s : List OpV) (i : Nat) (x : Int) : Nat → Int
  | 0 => -1
  | k + 1 => match s[k]? with | some q => if sfB s i x q then q.tx else sfTo s i x k | none => sfTo s i x k
theorem sfTo_succ {s : List OpV} {i : Nat} {x : Int} {k : Nat} {q : OpV} (h : s[k]? = some q) : sfTo s i x (k + 1) = if sfB s i x q then q.tx else sfTo s i x k := by simp only [sfTo, h]
/-- In a schedule one aborts exactly if one ends with an abort. -/
theorem abB_end {s : List OpV} (hv : validS s = true) (t : Int) (i : Nat) : abB s t i = (endOf (s.take i) t == 3) := by
  have hvt : validS (s.take i) = true := validS_sub hv (List.take_sublist i s)
  cases h : abB s t i
  · symm
    rw [beq_eq_false_iff_ne]
    intro he
    unfold endOf at he
    cases hf : (s.take i).find? (fun o => o.tx == t && isEnd o) with
    | none => rw [hf] at he; simp at he
    | some o =>
      rw [hf] at he
      have h1 := List.find?_some hf
      simp only [Bool.and_eq_true, beq_iff_eq] at h1
      unfold abB at h
      rw [List.any_eq_false] at h
      refine h o (List.mem_of_find?_eq_some hf) ?_
      simp only [Bool.and_eq_true, beq_iff_eq]
      exact ⟨h1.1, by simpa using he⟩
  · symm
    unfold abB at h
    rw [List.any_eq_true] at h
    obtain ⟨o, ho, h⟩ := h
    simp only [Bool.and_eq_true, beq_iff_eq] at h
    obtain ⟨k, hk⟩ := List.mem_iff_getElem?.1 ho
    rw [← h.1]
    have := endOf_hit (s.take i) o.tx k o hk (fun j hj q hq => by
      cases hq2 : (q.tx == o.tx && isEnd q)
      · rfl
      · simp only [Bool.and_eq_true, beq_iff_eq] at hq2
        have := validS_after hvt hq hk hq2.2 hq2.1
        omega) (by simp [isEnd, h.2])
    rw [this, h.2]; rfl
theorem sf_eq {s : List OpV} (hv : validS s = true) (i : Nat) (x : Int) (k : Nat) : sfTo s i x k = rfTo s i x k := by
  induction k with
  | zero => rfl
  | succ k ih =>
    cases e : s[k]? with
    | none => simp only [sfTo, rfTo, e]; exact ih
    | some q =>
      rw [sfTo_succ e, rfTo_succ e, ih]
      unfold sfB rfB
      rw [abB_end hv]
      rfl

end Go.Proofs.Ytcakjhappchlmaa
namespace Go.Proofs.Ytcakjhappchlmaa
open Go.RowKit Go.BigFrame
set_option linter.unusedVariables false

def sconfB (a b : OpV) : Bool := a.tx != b.tx && !isEnd a && !isEnd b && a.item == b.item && (a.kind == 1 || b.kind == 1)
theorem acc_end {o : OpV} (h : validOp o = true) : (!isEnd o) = isAcc o := by
  unfold validOp at h
  simp only [Bool.and_eq_true, Bool.or_eq_true] at h
  unfold isEnd isAcc at *
  rcases h.2 with ⟨h1, _⟩ | ⟨h1, _⟩
  · simp only [Bool.or_eq_true, beq_iff_eq] at h1
    rcases h1 with h1 | h1 <;> rw [h1] <;> rfl
  · simp only [Bool.or_eq_true, beq_iff_eq] at h1
    rcases h1 with h1 | h1 <;> rw [h1] <;> rfl
theorem sconf_eq {a b : OpV} (ha : validOp a = true) (hb : validOp b = true) : sconfB a b = confB a b := by
  unfold sconfB confB
  rw [acc_end ha, acc_end hb]

theorem committedTo_snoc {s : List OpV} {k : Nat} {o : OpV} (h : s[k]? = some o) : (s.take (k + 1)).filter (fun o => endOf s o.tx == 2) = (s.take k).filter (fun o => endOf s o.tx == 2) ++ if endOf s o.tx = 2 then [o] else [] := by
  rw [take_snoc h, List.filter_append]
  by_cases e : endOf s o.tx = 2 <;> simp [e]
end Go.Proofs.Ytcakjhappchlmaa
namespace Go.Proofs.Ytcakjhappchlmaa
open Go.RowKit Go.BigFrame
set_option linter.unusedVariables false

structure SgInv (w : World) (g : Nat) (rows : List Nat) (wr : World) : Prop where
  below : Below w.heap.size w wr
  row : RowIs wr g 3 (intCells (rowsI rows) ++ [])
theorem SgInv.later {w wr W : World} {g : Nat} {rows : List Nat} (h : SgInv w g rows wr) (hb : Below wr.heap.size wr W) : SgInv w g rows W :=
  ⟨h.below.trans (hb.mono h.below.size), h.row.below hb (Nat.le_refl _)⟩
theorem SgInv.drew {w wr : World} {g : Nat} {rows : List Nat} (h : SgInv w g rows wr) : SgInv w g rows wr.drew := ⟨h.below.drew, h.row⟩
theorem SgInv.set {w wr : World} {g : Nat} {rows : List Nat} {T : Nat} {u : Int} (h : SgInv w g rows wr) (hge : w.heap.size ≤ g) (hT : T ≤ 3) (h4 : Rows4 rows) {v : Int}
    (hv : v = ((rows.getD T 0 ||| (1 <<< u.toNat) : Nat) : Int)) : SgInv w g (rowSet rows T u) (wr.setCell ⟨g, T, none⟩ (.int .i64 v)) := by
  subst hv
  refine ⟨h.below.setCell (by simpa using hge) _, ?_⟩
  rw [rowsI_set]
  exact row_setInt h.row (by simp [rowsI, h4.1]; omega)
theorem SgInv.at_ {w wr : World} {g : Nat} {rows : List Nat} (h : SgInv w g rows wr) (h4 : Rows4 rows) {T : Nat} (hT : T ≤ 3) : wr.cell? ⟨g, T, none⟩ = some (.int .i64 ((rows.getD T 0 : Nat) : Int)) ∧ wr.frozen? ⟨g, T, none⟩ = false ∧ rows.getD T 0 < 16 := by
  obtain ⟨h1, h2⟩ := rowsI_at h4 hT
  refine ⟨h.row.cell ?_, h.row.frozen T, h2⟩
  rw [List.append_nil]
  exact h1

end Go.Proofs.Ytcakjhappchlmaa
namespace Go.Proofs.Ytcakjhappchlmaa
open Go.RowKit Go.BigFrame
set_option linter.unusedVariables false

/-- The slice value reads as a list of lists. -/
def RLists (w : World) (A : Option Addr) (n : Nat) (xss : List (List Int)) : Prop :=
  xss.length = n ∧ n ≤ 1099511627776 ∧ (0 < n → ∃ b off, A = some ⟨b, off, none⟩ ∧ b < w.heap.size ∧ ∀ i xs, xss[i]? = some xs →
    ∃ B m c, w.cell? ⟨b, off + i, none⟩ = some (.slice B m c) ∧ m ≤ c ∧ RInts w B m xs)
theorem RLists.nil {w : World} {A : Option Addr} : RLists w A 0 [] := ⟨rfl, by omega, fun h => absurd h (by omega)⟩
theorem RLists.below {w w' : World} {A : Option Addr} {n : Nat} {xss : List (List Int)} (h : RLists w A n xss) {B : Nat} (hb : Below B w w') (hB : w.heap.size ≤ B) : RLists w' A n xss := by
  obtain ⟨h1, h2, h3⟩ := h
  refine ⟨h1, h2, fun hn => ?_⟩
  obtain ⟨b, off, hA, hlt, hc⟩ := h3 hn
  have hs := hb.size
  refine ⟨b, off, hA, by omega, fun i xs hi => ?_⟩
  obtain ⟨C, m, c, e, hmc, hr⟩ := hc i xs hi
  exact ⟨C, m, c, (hb.cell (p := ⟨b, _, none⟩) (by simp; omega)).trans e, hmc, hr.below hb hB⟩
theorem RLists.at_ {w : World} {A : Option Addr} {n : Nat} {xss : List (List Int)} (h : RLists w A n xss) {k : Nat} (hk : k < n) : ∃ b off xs B m c, A = some ⟨b, off, none⟩ ∧ b < w.heap.size ∧ xss[k]? = some xs ∧
    w.cell? ⟨b, off + k, none⟩ = some (.slice B m c) ∧ m ≤ c ∧ RInts w B m xs := by
  obtain ⟨h1, h2, h3⟩ := h
  obtain ⟨b, off, hA, hlt, hc⟩ := h3 (by omega)
  have e : xss[k]? = some (xss[k]'(by omega)) := List.getElem?_eq_getElem (by omega)
  obtain ⟨B, m, c, r⟩ := hc k _ e
  exact ⟨b, off, _, B, m, c, hA, hlt, e, r⟩
theorem RLists.lit1 {w : World} {H : Nat} (hH : w.heap.size = H) {T : TypeId} {B : Option Addr} {m c : Nat} {xs : List Int} (hmc : m ≤ c) (hr : RInts w B m xs) : RLists (w.alloc (.cells #[.slice B m c] T)) (some ⟨H, 0, none⟩) 1 [xs] := by
  subst hH
  refine ⟨rfl, by omega, fun _ => ⟨w.heap.size, 0, rfl, by simp, fun i xs' hi => ?_⟩⟩
  match i, hi with
  | 0, hi =>
    simp only [List.getElem?_cons_zero, Option.some.injEq] at hi
    subst hi
    exact ⟨B, m, c, box_at _ _ _ _ _ (by simp), hmc, hr.below ((Below.refl _ w).alloc (Nat.le_refl _) _) (Nat.le_refl _)⟩
  | i + 1, hi => simp at hi

set_option maxRecDepth 100000 in
set_option maxHeartbeats 1000000 in
theorem holdsList_any (A B : Option Addr) (n m c d : Nat) (xss : List (List Int)) (ys : List Int) (w : World) (hx : RLists w A n xss) (hy : RInts w B m ys) :
    Calls Try.prog 47 #[.slice A n c, .slice B m d] w fun e w' => e = .returned (.bool (xss.any fun xs => xs == ys)) ∧ Below w.heap.size w w' := by
  have hn := hx.2.1
  have hl := hx.1
  have HX := Lib.hid hx
  have HY := Lib.hid hy
  clear hx hy
  go_enter Try.func47, Try.ntmps47
  go_wp2_with fail
  go_loopw [5] (fun i wr => ∃ k : Nat, k ≤ n ∧ i = .int .i64 k ∧ Below w.heap.size w wr ∧ ((xss.take k).any fun xs => xs == ys) = false) (fun i _ => n - (intOf i).toNat)
  case atStart => exact ⟨0, Nat.zero_le _, rfl, Below.refl _ _, by simp⟩
  case round =>
    obtain ⟨k, hk, rfl, hb, hno⟩ := hrel
    by_cases hlt : k < n
    · obtain ⟨b, off, xs, C, q, cq, rfl, hbl, ho, c0, hqc, hr⟩ := (HX.out.below hb (Nat.le_refl _)).at_ hlt
      have hst : ((xss.take (k + 1)).any fun xs => xs == ys) = (xs == ys) := by
        rw [List.take_add_one, ho, List.any_append, hno]; simp
      have hmem := List.mem_of_getElem? ho
      obtain ⟨bb, hbb⟩ : ∃ b, (xs == ys) = b := ⟨_, rfl⟩
      have hcl : Calls Try.prog 26 #[.slice C q cq, .slice B m d] wr fun e w' => e = .returned (.bool bb) ∧ Below wr.heap.size wr w' := by
        have := equalInts_any C B q m cq d xs ys wr hr (HY.out.below hb (Nat.le_refl _)); rw [hbb] at this; exact this
      have HT : Hid (bb = true → (xss.any fun xs => xs == ys) = true) := fun h => List.any_eq_true.2 ⟨xs, hmem, by rw [hbb]; exact h⟩
      rw [hbb] at hst
      have HS := Lib.hid hst
      have HC := Lib.hid hcl
      clear hst ho hno hcl hbb hmem hr
      go_wp2_with fail
      refine HC.out.mono ?_
      rintro e w1 ⟨rfl, hb1⟩
      have hb2 := hb.trans (hb1.mono hb.size)
      cases bb
      · go_wp2_with fail
        go_roundw
        case rel => exact ⟨k + 1, by omega, by go_num, hb2, HS.out⟩
        case measure => simp [intOf]; omega
      · go_wp2_with fail
        go_ret
        exact ⟨ret_bool (HT.out (by first | rfl | trivial)).symm, hb2⟩
    · rw [List.take_of_length_le (by omega)] at hno
      have HN := Lib.hid hno
      clear hno
      go_wp2_with fail
      go_ret
      exact ⟨ret_bool HN.out.symm, hb⟩
end Go.Proofs.Ytcakjhappchlmaa
namespace Go.Proofs.Ytcakjhappchlmaa
open Go.RowKit Go.BigFrame
set_option linter.unusedVariables false

theorem RowIs.grown {w w' : World} {g : Nat} {T : TypeId} {vs : List Value} {row : Option Nat} (h : RowIs w g T vs) (hg : w.grownBy w' row) (hne : row ≠ some g) : RowIs w' g T vs :=
  (hg.block g h.lt hne.symm).trans h
theorem own_ne {w : World} {base : Nat} {e : TypeId} {size n : Nat} {v : Value} {xs : List Value} (h : w.ownsRow base e size v n xs) {g : Nat} {T : TypeId} {vs : List Value} (hr : RowIs w g T vs) (hT : T ≠ e) : v.ownBlock ≠ some g := by
  rcases h.2 with ⟨rfl, _⟩ | ⟨g', cap, cur, rfl, _, hh, _⟩
  · simp [Value.ownBlock]
  · intro e'
    simp [Value.ownBlock] at e'
    subst e'
    unfold RowIs at hr
    rw [hr] at hh
    injection hh with hh
    injection hh with _ hh _
    exact hT hh
theorem nb_app {v v' : Value} {b K : Nat} (h : v.ownBlock ≠ some b) (hat : v'.ownBlock = v.ownBlock ∨ v'.ownBlock = some K) (hb : b < K) : v'.ownBlock ≠ some b := by
  rcases hat with e | e
  · rw [e]; exact h
  · rw [e]; intro e'; injection e' with e'; omega
theorem own_lt {w : World} {base : Nat} {e : TypeId} {size n : Nat} {v : Value} {xs : List Value} (h : w.ownsRow base e size v n xs) {b : Nat} (hb : w.heap.size ≤ b) : v.ownBlock ≠ some b := by
  intro e'
  have := (World.ownsRow.lt h b e').2
  omega
theorem own_grown {w w' : World} {base : Nat} {e : TypeId} {size n : Nat} {v : Value} {xs : List Value} (h : w.ownsRow base e size v n xs) {row : Option Nat} (hg : w.grownBy w' row) (hne : ∀ b, row = some b → v.ownBlock ≠ some b) : w'.ownsRow base e size v n xs := by
  refine World.ownsRow.kept h hg ?_
  cases hv : v.ownBlock with
  | none => exact .inl rfl
  | some b =>
    refine .inr (fun e => ?_)
    exact hne b e.symm hv
theorem op_ne_int : (92 : TypeId) ≠ 3 := by decide
theorem ints_ne_op : (34 : TypeId) ≠ 92 := by decide
theorem ints_ne_int : (34 : TypeId) ≠ 3 := by decide

theorem ROps.litH {w : World} {H : Nat} (hH : w.heap.size = H) (o : OpV) (t : TypeId) : ROps (w.alloc (.cells #[.int .i64 o.tx, .int .i64 o.kind, .int .i64 o.item] t)) (some ⟨H, 0, none⟩) 1 [o] := by subst hH; exact ROps.lit1 w o t

/-- A call hands back operations and integers, in new memory. -/
def RetOI (w0 : World) (xs : List OpV) (ys : List Int) (e : Ending) (w : World) : Prop :=
  ∃ A c B d, e = .returned (.tuple #[.slice A xs.length c, .slice B ys.length d]) ∧ xs.length ≤ c ∧ ys.length ≤ d ∧ FreshOps w0 w A xs.length xs ∧ FreshInts w0 w B ys.length ys ∧ Below w0.heap.size w0 w
theorem RetOI.nil {w0 w : World} (h : Below w0.heap.size w0 w) : RetOI w0 [] [] (.returned (.tuple #[.slice none 0 0, .slice none 0 0])) w :=
  ⟨none, 0, none, 0, rfl, Nat.le_refl _, Nat.le_refl _, FreshOps.none_, FreshInts.none_, h⟩
theorem RetOI.mk {w0 w : World} {xs : List OpV} {ys : List Int} {A B : Option Addr} {n m c d : Nat} (hn : xs.length = n) (hm : ys.length = m) (hc : n ≤ c) (hd : m ≤ d) (h1 : FreshOps w0 w A n xs) (h2 : FreshInts w0 w B m ys) (hb : Below w0.heap.size w0 w) :
    RetOI w0 xs ys (.returned (.tuple #[.slice A n c, .slice B m d])) w := by
  subst hn; subst hm
  exact ⟨A, c, B, d, rfl, hc, hd, h1, h2, hb⟩
theorem RetOI.later {w0 w1 : World} {xs : List OpV} {ys : List Int} {e : Ending} {w : World} (hb : Below w0.heap.size w0 w1) (h : RetOI w1 xs ys e w) : RetOI w0 xs ys e w := by
  obtain ⟨A, c, B, d, rfl, hc, hd, ⟨a1, a2⟩, ⟨b1, b2⟩, hb'⟩ := h
  have hs := hb.size
  exact ⟨A, c, B, d, rfl, hc, hd, ⟨a1, fun ad had => by obtain ⟨b, cur, h3, h4, h5⟩ := a2 ad had; exact ⟨b, cur, h3, by omega, h5⟩⟩,
    ⟨b1, fun ad had => by obtain ⟨b, cur, h3, h4, h5⟩ := b2 ad had; exact ⟨b, cur, h3, by omega, h5⟩⟩, hb.trans (hb'.mono hs)⟩
end Go.Proofs.Ytcakjhappchlmaa
namespace Go.Proofs.Ytcakjhappchlmaa
open Go.RowKit Go.BigFrame
set_option linter.unusedVariables false

theorem intsInfo : (Try.prog.info? 34).map (fun i => (i.zero, i.size, i.bytes)) = some (some (.slice none 0 0), 1, 24) := by kernel_rfl


section
variable {w : World} {ops : Array Oper} {o : Oper} {a : Act} {K : Act → World → Prop} {Q : Exit → Act → World → Prop} {E : Prop}
/-- append, at a step of a region that draws its order. -/
theorem step_app {P : Program} (hgd : o.guard = none) (s x : Operand) (t : TypeId)
    (ho : o.op = .call { callee := .builtin .append, args := #[s, x], argTypes := #[t, t] })
    (base : Nat) (e : TypeId) (i : TypeInfo) (z : Value) (size bytes : Nat) (ht : P.underlying t = some (.slice e)) (hi : P.info? e = some i) (hz : i.zero = some z)
    (hsize : i.size = size) (hby : i.bytes = bytes) (hzs : z.cells.size = size) (hsz : 0 < size)
    (v : Value) (n : Nat) (xs : List Value) (hs : a.eval s = v) (hown : w.ownsRow base e size v n xs)
    (A : Option Addr) (m c : Nat) (news : List Value) (hx : a.eval x = .slice A m c) (hr : Src w size A m news)
    (h63 : n + m ≤ maxLen) (hbytes : (n + m) * bytes ≤ 140737488355328) (hbase : base ≤ w.heap.size)
    (h : ∀ v' w', w'.ownsRow base e size v' (n + m) (xs ++ news) → w.grownBy w' v.ownBlock → (v'.ownBlock = v.ownBlock ∨ v'.ownBlock = some w.heap.size) → K (a.put o.dst v') w') :
    if Region.wanted o (yielded ops a.tmps) = true then Oper.wp P o a w K Q else E := by
  have hw : Region.wanted o (yielded ops a.tmps) = true := by simp [Region.wanted, hgd]
  rw [if_pos hw]
  obtain ⟨v', w', hrun, h2, h3, h4⟩ := run_app (P := P) base t o.type e i z size bytes ht hi hz hsize hby hzs hsz v n xs hown A m c news hr h63 hbytes hbase
  unfold Oper.wp execOp
  simp only [ho, resolve, invoke, builtin, Sem.run_bind, Sem.run_pure, Result.andThen_ok, List.map_toArray, List.map_cons, List.map_nil, hs, hx, hrun]
  exact h v' w' h2 h3 h4
theorem step_ints (s x : Operand) {base : Nat} {v : Value} {n : Nat} {xs : List Int} (hown : w.ownsRow base 3 1 v n (intCells xs)) (hbase : base ≤ w.heap.size)
    {A : Option Addr} {m c : Nat} {ys : List Int} (hr : RInts w A m ys) (hn : n ≤ 1099511627776)
    (hgd : o.guard = none) (ho : o.op = .call { callee := .builtin .append, args := #[s, x], argTypes := #[34, 34] }) (hs : a.eval s = v) (hx : a.eval x = .slice A m c)
    (h : ∀ v' w', w'.ownsRow base 3 1 v' (n + m) (intCells (xs ++ ys)) → w.grownBy w' v.ownBlock → (v'.ownBlock = v.ownBlock ∨ v'.ownBlock = some w.heap.size) → K (a.put o.dst v') w') :
    if Region.wanted o (yielded ops a.tmps) = true then Oper.wp Try.prog o a w K Q else E := by
  obtain ⟨i0, hi, hz0, hz1, hz2⟩ := info_parts intInfo
  have hm := hr.2.1
  refine step_app hgd s x _ ho base _ i0 _ 1 8 Try.underlying34 hi hz0 hz1 hz2 rfl (by decide) v n _ hs hown A m c _ hx hr.src (by simp only [maxLen]; omega) (by omega) hbase ?_
  intro v' w' h1 h2 h3
  have e : intCells xs ++ intCells ys = intCells (xs ++ ys) := by simp [intCells]
  rw [e] at h1
  exact h v' w' h1 h2 h3
theorem step_rows (s x : Operand) {base : Nat} {v : Value} {n : Nat} {rv : List Value} (hown : w.ownsRow base 34 1 v n rv) (hbase : base ≤ w.heap.size)
    {A : Option Addr} {m c : Nat} {rs : List Value} (hr : Src w 1 A m rs) (hn : n + m ≤ 1099511627776)
    (hgd : o.guard = none) (ho : o.op = .call { callee := .builtin .append, args := #[s, x], argTypes := #[52, 52] }) (hs : a.eval s = v) (hx : a.eval x = .slice A m c)
    (h : ∀ v' w', w'.ownsRow base 34 1 v' (n + m) (rv ++ rs) → w.grownBy w' v.ownBlock → (v'.ownBlock = v.ownBlock ∨ v'.ownBlock = some w.heap.size) → K (a.put o.dst v') w') :
    if Region.wanted o (yielded ops a.tmps) = true then Oper.wp Try.prog o a w K Q else E := by
  obtain ⟨i0, hi, hz0, hz1, hz2⟩ := info_parts intsInfo
  exact step_app hgd s x _ ho base _ i0 _ 1 24 Try.underlying52 hi hz0 hz1 hz2 rfl (by decide) v n _ hs hown A m c _ hx hr (by simp only [maxLen]; omega) (by omega) hbase h
end

theorem rowsI_at3 {R : List Nat} (h : Rows4 R) {w : World} {A : Option Addr} (hr : RInts w A 4 (rowsI R)) {t : Nat} (ht : t < 4) : ∃ b off, A = some ⟨b, off, none⟩ ∧ b < w.heap.size ∧ w.cell? ⟨b, off + t, none⟩ = some (.int .i64 ((R.getD t 0 : Nat) : Int)) ∧ R.getD t 0 < 16 := by
  obtain ⟨b, off, x, hA, hlt, hx, hc⟩ := hr.at_ ht
  obtain ⟨h1, h2⟩ := rowsI_at h (T := t) (by omega)
  refine ⟨b, off, hA, hlt, ?_, h2⟩
  rw [hc]
  simp only [intCells, List.getElem?_map, hx, Option.map_some] at h1
  exact h1
theorem FreshInts.lat {w0 w w' : World} {A : Option Addr} {n : Nat} {xs : List Int} (h : FreshInts w0 w A n xs) (hb : Below w.heap.size w w') : FreshInts w0 w' A n xs :=
  ⟨h.1.below hb (Nat.le_refl _), fun ad had => by obtain ⟨b, cur, e, h1, h2, h3⟩ := h.2 ad had; exact ⟨b, cur, e, h1, (hb.block b (lt_of_block h2)).trans h2, h3⟩⟩
theorem FreshInts.since {w0 w1 w : World} {A : Option Addr} {n : Nat} {xs : List Int} (h : FreshInts w1 w A n xs) (hs : w0.heap.size ≤ w1.heap.size) : FreshInts w0 w A n xs :=
  ⟨h.1, fun ad had => by obtain ⟨b, cur, e, h1, h2, h3⟩ := h.2 ad had; exact ⟨b, cur, e, by omega, h2, h3⟩⟩
/-- A row of integers is as it was when another block has turned. -/
theorem FreshInts.grownT {w0 w w' : World} {A : Option Addr} {n : Nat} {xs : List Int} {row : Option Nat} (h : FreshInts w0 w A n xs) (hg : w.grownBy w' row) (hne : ∀ g, row = some g → ∀ cur, w.heap[g]? ≠ some (.cells cur 3 (0, 0))) : FreshInts w0 w' A n xs := by
  have hblk : ∀ ad, A = some ad → ∃ b cur, ad = ⟨b, 0, none⟩ ∧ w0.heap.size ≤ b ∧ w.heap[b]? = some (.cells cur 3 (0, 0)) ∧ n ≤ cur.size ∧ w'.heap[b]? = w.heap[b]? := fun ad had => by
    obtain ⟨b, cur, e, h1, h2, h3⟩ := h.2 ad had
    exact ⟨b, cur, e, h1, h2, h3, hg.block b (lt_of_block h2) (fun e => hne b e.symm cur h2)⟩
  refine ⟨⟨h.1.1, h.1.2.1, fun hn => ?_⟩, fun ad had => ?_⟩
  · obtain ⟨b, off, hA, hlt, hc⟩ := h.1.2.2 hn
    obtain ⟨b', cur, e, _, _, _, hk⟩ := hblk _ hA
    injection e with e1 e2 _
    subst e1
    have hs := World.grownBy.size hg
    exact ⟨b, off, hA, by omega, fun i x hx => (World.cell?_of_block (w := w) (a := ⟨b, off + i, none⟩) hk).trans (hc i x hx)⟩
  · obtain ⟨b, cur, e, h1, h2, h3, hk⟩ := hblk ad had
    exact ⟨b, cur, e, h1, hk.trans h2, h3⟩

/-- These slice values are these lists, each in memory made since w0. -/
def RowsR (w0 w : World) (rv : List Value) (xss : List (List Int)) : Prop :=
  rv.length = xss.length ∧ ∀ (i : Nat) (xs : List Int), xss[i]? = some xs → ∃ B c, rv[i]? = some (.slice B xs.length c) ∧ xs.length ≤ c ∧ FreshInts w0 w B xs.length xs
theorem RowsR.nil {w0 w : World} : RowsR w0 w [] [] := ⟨rfl, fun i xs h => by simp at h⟩
theorem RowsR.below {w0 w w' : World} {rv : List Value} {xss : List (List Int)} (h : RowsR w0 w rv xss) (hb : Below w.heap.size w w') : RowsR w0 w' rv xss :=
  ⟨h.1, fun i xs hi => by obtain ⟨C, c, e, hmc, hr⟩ := h.2 i xs hi; exact ⟨C, c, e, hmc, hr.lat hb⟩⟩
theorem RowsR.since {w0 w1 w : World} {rv : List Value} {xss : List (List Int)} (h : RowsR w1 w rv xss) (hs : w0.heap.size ≤ w1.heap.size) : RowsR w0 w rv xss :=
  ⟨h.1, fun i xs hi => by obtain ⟨C, c, e, hmc, hr⟩ := h.2 i xs hi; exact ⟨C, c, e, hmc, hr.since hs⟩⟩
theorem RowsR.grown {w0 w w' : World} {rv : List Value} {xss : List (List Int)} {row : Option Nat} (h : RowsR w0 w rv xss) (hg : w.grownBy w' row) (hne : ∀ g, row = some g → ∀ cur, w.heap[g]? ≠ some (.cells cur 3 (0, 0))) : RowsR w0 w' rv xss :=
  ⟨h.1, fun i xs hi => by obtain ⟨C, c, e, hmc, hr⟩ := h.2 i xs hi; exact ⟨C, c, e, hmc, hr.grownT hg hne⟩⟩
theorem RowsR.append {w0 w : World} {rv rs : List Value} {xss yss : List (List Int)} (h : RowsR w0 w rv xss) (k : RowsR w0 w rs yss) : RowsR w0 w (rv ++ rs) (xss ++ yss) := by
  refine ⟨by simp [h.1, k.1], fun i xs hi => ?_⟩
  rcases Nat.lt_or_ge i xss.length with hlt | hge
  · rw [List.getElem?_append_left hlt] at hi
    obtain ⟨C, c, e, r⟩ := h.2 i xs hi
    exact ⟨C, c, by rw [List.getElem?_append_left (by rw [h.1]; exact hlt)]; exact e, r⟩
  · rw [List.getElem?_append_right hge] at hi
    obtain ⟨C, c, e, r⟩ := k.2 _ xs hi
    exact ⟨C, c, by rw [List.getElem?_append_right (by rw [h.1]; exact hge), h.1]; exact e, r⟩
theorem RowsR.one {w0 w : World} {rv : List Value} {xss : List (List Int)} (h : RowsR w0 w rv xss) : ∀ u ∈ rv, u.oneCell' = true := by
  intro u hu
  obtain ⟨i, hi⟩ := List.mem_iff_getElem?.1 hu
  have hl := (List.getElem?_eq_some_iff.1 hi).1
  obtain ⟨C, c, e, _⟩ := h.2 i _ (List.getElem?_eq_getElem (by rw [← h.1]; exact hl))
  rw [e] at hi
  injection hi with hi
  rw [← hi]; rfl
theorem RowsR.lit {w0 w : World} {B : Option Addr} {n c : Nat} {xs : List Int} (hn : xs.length = n) (hc : n ≤ c) (h : FreshInts w0 w B n xs) : RowsR w0 w [.slice B n c] [xs] := by
  subst hn
  refine ⟨rfl, fun i ys hi => ?_⟩
  match i, hi with
  | 0, hi =>
    simp only [List.getElem?_cons_zero, Option.some.injEq] at hi
    subst hi
    exact ⟨B, c, rfl, hc, h⟩
  | i + 1, hi => simp at hi
/-- The block of an owned row of slices is none of integers. -/
theorem own_noInt {w : World} {base n : Nat} {v : Value} {rv : List Value} (h : w.ownsRow base 34 1 v n rv) : ∀ g, v.ownBlock = some g → ∀ cur, w.heap[g]? ≠ some (.cells cur 3 (0, 0)) := by
  intro g hg cur hc
  rcases h.2 with ⟨h1, h2⟩ | ⟨g', cap, cur', h1, h2, h3, h4, h5, h6, h7⟩
  · rw [h1] at hg; cases hg
  · rw [h1] at hg
    have : g' = g := by simpa [Value.ownBlock] using hg
    subst this
    rw [h3] at hc
    injection hc with hc
    injection hc with _ ht _
    exact absurd ht (by decide)

/-- The row of rows, in a block made since w0. -/
def OuterR (w0 w : World) (A : Option Addr) (n : Nat) (rv : List Value) : Prop :=
  Src w 1 A n rv ∧ ∀ ad, A = some ad → ∃ b cur, ad = ⟨b, 0, none⟩ ∧ w0.heap.size ≤ b ∧ w.heap[b]? = some (.cells cur 34 (0, 0))
theorem OuterR.of_own {w0 w : World} {base n c : Nat} {A : Option Addr} {rv : List Value} (h : w.ownsRow base 34 1 (.slice A n c) n rv) (hb : w0.heap.size ≤ base) (h1 : ∀ u ∈ rv, u.oneCell' = true) : OuterR w0 w A n rv := by
  have hl : rv.length = n := by have := h.1; omega
  rcases h.2 with ⟨e1, e2⟩ | ⟨g, cap, cur, e1, e2, e3, e4, e5, e6, e7⟩
  · injection e1 with ha hb' hc
    subst ha
    subst e2
    exact ⟨⟨by omega, h1, fun h0 => absurd h0 (by omega)⟩, fun ad had => by cases had⟩
  · injection e1 with ha _ hc
    subst ha
    refine ⟨⟨by omega, h1, fun h0 => ⟨_, rfl, fun j u hu => h.cells (g := g) (by simp [Value.ownBlock]) j u hu⟩⟩, fun ad had => ?_⟩
    injection had with had
    subst had
    exact ⟨g, cur, rfl, by omega, e3⟩

/-- The call hands back these lists in new memory and changes nothing. -/
def RetLists (w0 : World) (xss : List (List Int)) (e : Ending) (w : World) : Prop :=
  ∃ A c rv, e = .returned (.slice A xss.length c) ∧ xss.length ≤ c ∧ OuterR w0 w A xss.length rv ∧ RowsR w0 w rv xss ∧ Below w0.heap.size w0 w
theorem RetLists.form {w0 w : World} {xss : List (List Int)} {e : Ending} (h : RetLists w0 xss e w) : ∃ A c n rv, e = .returned (.slice A n c) ∧ Hid (xss.length = n) ∧ n ≤ c ∧ OuterR w0 w A n rv ∧ RowsR w0 w rv xss ∧ Below w0.heap.size w0 w := by
  obtain ⟨A, c, rv, h⟩ := h
  exact ⟨A, c, _, rv, h.1, rfl, h.2⟩
theorem RetLists.nil {w0 w : World} (h : Below w0.heap.size w0 w) : RetLists w0 [] (.returned (.slice none 0 0)) w :=
  ⟨none, 0, [], rfl, Nat.le_refl _, ⟨⟨rfl, by simp, fun h => absurd h (by simp)⟩, fun ad h => by cases h⟩, RowsR.nil, h⟩
theorem RetLists.of_own {w0 w : World} {xss : List (List Int)} {A : Option Addr} {n c base : Nat} {rv : List Value} (hn : xss.length = n) (hc : n ≤ c) (h : w.ownsRow base 34 1 (.slice A n c) n rv) (hbase : w0.heap.size ≤ base) (hr : RowsR w0 w rv xss) (hb : Below w0.heap.size w0 w) : RetLists w0 xss (.returned (.slice A n c)) w := by
  subst hn; exact ⟨A, c, rv, rfl, hc, OuterR.of_own h hbase hr.one, hr, hb⟩
theorem RetLists.lit1 {w0 w1 : World} {xs : List Int} {A : Option Addr} {n c : Nat} (hn : xs.length = n) (hc : n ≤ c) (hf : FreshInts w0 w1 A n xs) (hb : Below w0.heap.size w0 w1) :
    RetLists w0 [xs] (.returned (.slice (some ⟨w1.heap.size, 0, none⟩) 1 1)) (w1.alloc (.cells #[.slice A n c] 34)) := by
  have hs := hb.size
  refine ⟨_, _, [.slice A n c], rfl, Nat.le_refl _, ⟨⟨rfl, by simp [Value.oneCell'], fun _ => ⟨_, rfl, fun j u hu => ?_⟩⟩, fun ad had => ?_⟩, RowsR.lit hn hc (hf.lat ((Below.refl _ _).alloc (Nat.le_refl _) _)), hb.alloc hs _⟩
  · match j, hu with
    | 0, hu =>
      simp only [List.getElem?_cons_zero, Option.some.injEq] at hu
      subst hu
      rw [addr_add]
      exact box_at _ _ _ _ _ (by simp)
    | j + 1, hu => simp at hu
  · injection had with had
    subst had
    exact ⟨_, _, rfl, hs, heap_alloc_new w1 _⟩
/-- What has been gathered. -/
def RowsInv (w wr : World) (ov : Value) (xss : List (List Int)) : Prop := ∃ (N : Nat) (rv : List Value), N ≤ 1024 ∧ xss.length = N ∧ Below w.heap.size w wr ∧ wr.ownsRow w.heap.size 34 1 ov N rv ∧ RowsR w wr rv xss
theorem RowsInv.later {w wr W : World} {ov : Value} {xss : List (List Int)} (h : RowsInv w wr ov xss) (hb : Below wr.heap.size wr W) : RowsInv w W ov xss := by
  obtain ⟨N, rv, hN, hl, h1, h2, h3⟩ := h
  exact ⟨N, rv, hN, hl, h1.trans (hb.mono h1.size), own_below h2 hb, h3.below hb⟩
end Go.Proofs.Ytcakjhappchlmaa
namespace Go.Proofs.Ytcakjhappchlmaa
open Go.RowKit Go.BigFrame
set_option linter.unusedVariables false

end Go.Proofs.Ytcakjhappchlmaa
