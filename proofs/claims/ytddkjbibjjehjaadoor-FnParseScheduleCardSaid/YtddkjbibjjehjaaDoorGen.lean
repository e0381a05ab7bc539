/-
  The generators of schedules return, and what they return reads as operations: programs, goodSchedule, bent, someSchedule.
-/
import Derived.Test.YtddkjbibjjehjaaDoorRd
import Derived.Test.YtddkjbibjjehjaaDoorApp
import Derived.Deep.LoopGhost
namespace Go.Proofs.YtddkjbibjjehjaaDoor
open Go.RowKit Go.BigFrame
set_option linter.unusedVariables false

theorem rowInfo : (Tryd.prog.info? 22).map (fun i => (i.zero, i.size, i.bytes)) = some (some (.slice none 0 0), 1, 24) := by kernel_rfl

/-- A value that is a row of at most five operations, its block between lo and hi. -/
def RowV (w : World) (lo hi : Nat) (v : Value) : Prop :=
  ∃ (A : Option Addr) (n c : Nat) (xs : List OpV), v = .slice A n c ∧ n ≤ c ∧ n ≤ 5 ∧ ROps w A n xs ∧
    ∀ ad, A = some ad → lo ≤ ad.block ∧ ad.block < hi ∧ ∃ cs fr, w.heap[ad.block]? = some (.cells cs 38 fr)
def RowsV (w : World) (lo hi : Nat) (vs : List Value) : Prop := ∀ v ∈ vs, RowV w lo hi v

theorem RowV.keep {w w' : World} {lo hi : Nat} {v : Value} (h : RowV w lo hi v) (hk : ∀ b, lo ≤ b → b < hi → (∃ cs fr, w.heap[b]? = some (.cells cs 38 fr)) → w'.heap[b]? = w.heap[b]?)
    (hs : w.heap.size ≤ w'.heap.size) : RowV w' lo hi v := by
  obtain ⟨A, n, c, xs, hv, hnc, hn, ⟨h1, h2, h3⟩, hA⟩ := h
  refine ⟨A, n, c, xs, hv, hnc, hn, ⟨h1, h2, fun h0 => ?_⟩, fun ad had => ?_⟩
  · obtain ⟨b, off, rfl, hb, hc⟩ := h3 h0
    obtain ⟨a1, a2, a3⟩ := hA _ rfl
    have hh := hk b a1 a2 a3
    refine ⟨b, off, rfl, by omega, fun i o ho => ?_⟩
    obtain ⟨c0, c1, c2⟩ := hc i o ho
    exact ⟨(World.cell?_of_block (w := w) (a := ⟨b, _, none⟩) hh).trans c0, (World.cell?_of_block (w := w) (a := ⟨b, _, none⟩) hh).trans c1, (World.cell?_of_block (w := w) (a := ⟨b, _, none⟩) hh).trans c2⟩
  · obtain ⟨a1, a2, cs, fr, a3⟩ := hA _ had
    exact ⟨a1, a2, cs, fr, (hk _ a1 a2 ⟨cs, fr, a3⟩).trans a3⟩
theorem RowV.wider {w : World} {lo hi hi' : Nat} {v : Value} (h : RowV w lo hi v) (hh : hi ≤ hi') : RowV w lo hi' v := by
  obtain ⟨A, n, c, xs, hv, hnc, hn, hr, hA⟩ := h
  exact ⟨A, n, c, xs, hv, hnc, hn, hr, fun ad had => ⟨(hA ad had).1, by have := (hA ad had).2.1; omega, (hA ad had).2.2⟩⟩
theorem RowsV.keep {w w' : World} {lo hi : Nat} {vs : List Value} (h : RowsV w lo hi vs) (hk : ∀ b, lo ≤ b → b < hi → (∃ cs fr, w.heap[b]? = some (.cells cs 38 fr)) → w'.heap[b]? = w.heap[b]?)
    (hs : w.heap.size ≤ w'.heap.size) : RowsV w' lo hi vs := fun v hv => (h v hv).keep hk hs
/-- An own row of operations, as a row value. -/
theorem RowV.of_own {w : World} {lo base c n : Nat} {A : Option Addr} {xs : List OpV} (h : w.ownsRow base 38 3 (.slice A n c) n (opCells xs)) (hlo : lo ≤ base) (hn : n ≤ 5) : RowV w lo w.heap.size (.slice A n c) := by
  refine ⟨A, n, c, xs, rfl, ?_, hn, ROps.of_own h (by omega), fun ad had => ?_⟩
  · rcases h.2 with ⟨h1, h2⟩ | ⟨g, cap, cur, h1, h2, h3, h4, h5, h6, h7⟩
    · omega
    · injection h1 with _ _ hc
      subst hc
      exact h4
  · subst had
    rcases h.2 with ⟨h1, h2⟩ | ⟨g, cap, cur, h1, h2, h3, h4, h5, h6, h7⟩
    · cases h1
    · injection h1 with ha _ _
      injection ha with ha
      subst ha
      exact ⟨by simp; omega, lt_of_block h3, cur, _, h3⟩
theorem own_form {w : World} {base : Nat} {e : TypeId} {size n : Nat} {v : Value} {xs : List Value} (h : w.ownsRow base e size v n xs) : ∃ A c, v = .slice A n c := by
  rcases h.2 with ⟨h1, h2⟩ | ⟨g, cap, cur, h1, _⟩
  · exact ⟨none, 0, by rw [h1, h2]⟩
  · exact ⟨_, _, h1⟩

theorem own_only {w w' : World} {rb L : Nat} {e : TypeId} {size n : Nat} {v : Value} {xs : List Value} (h : w.ownsRow L e size v n xs) (ho : Only rb w w') (hrb : rb < L) : w'.ownsRow L e size v n xs := by
  refine World.ownsRow.kept h ho ?_
  cases hv : v.ownBlock with
  | none => exact .inl rfl
  | some g =>
    refine .inr (fun e => ?_)
    injection e with e
    have := (World.ownsRow.lt h g hv).1
    omega
theorem Only.grown {rb : Nat} {a w w' : World} {row : Option Nat} (h : Only rb a w) (hg : w.grownBy w' row) (hr : ∀ k, row = some k → a.heap.size ≤ k) : Only rb a w' :=
  ⟨hg.os.trans h.os, hg.tape.trans h.tape, hg.output.trans h.output, Nat.le_trans h.size hg.size, fun i hi hne =>
    (hg.block i (Nat.lt_of_lt_of_le hi h.size) (fun e => by have := hr i e.symm; omega)).trans (h.block i hi hne)⟩
theorem Only.own {rb : Nat} {a w w' : World} {L : Nat} {e : TypeId} {size n : Nat} {v : Value} {xs : List Value} (h : Only rb a w) (hown : w.ownsRow L e size v n xs) (hL : a.heap.size ≤ L) (hg : w.grownBy w' v.ownBlock) : Only rb a w' :=
  h.grown hg fun k hk => Nat.le_trans hL (World.ownsRow.lt hown k hk).1
theorem RowsV.only {w w' : World} {rb lo hi : Nat} {vs : List Value} (h : RowsV w lo hi vs) (ho : Only rb w w') (hhi : hi ≤ w.heap.size) (hrb : rb < lo) : RowsV w' lo hi vs :=
  h.keep (fun b h1 h2 _ => ho.heap (by omega) (by omega)) ho.size
theorem RowsV.grown {w w' : World} {lo hi L : Nat} {vs : List Value} {size n : Nat} {v : Value} {xs : List Value} (h : RowsV w lo hi vs) (hown : w.ownsRow L 22 size v n xs) (hg : w.grownBy w' v.ownBlock) (hhi : hi ≤ w.heap.size) : RowsV w' lo hi vs := by
  refine h.keep (fun b h1 h2 h3 => hg.block b (by omega) (fun e => ?_)) hg.size
  obtain ⟨cs, fr, h3⟩ := h3
  rcases hown.2 with ⟨h4, h5⟩ | ⟨g, cap, cur, h4, _, h6, _⟩
  · rw [h4] at e; simp [Value.ownBlock] at e
  · rw [h4] at e
    simp [Value.ownBlock] at e
    subst e
    rw [h3] at h6
    injection h6 with h6
    injection h6 with _ h6 _
    exact absurd h6 (by decide)

def lenOf : Value → Nat | .slice _ n _ => n | _ => 0
/-- What the inner loop of 'programs' carries. -/
def Inner (ws : World) (rb p0 : Nat) (v : Value) (k left : Int) (w : World) : Prop :=
  ∃ (n : Nat) (xs : List OpV) (p : Nat), w.ownsRow ws.heap.size 38 3 v n (opCells xs) ∧ 0 ≤ k ∧ n + k.toNat ≤ 4 ∧ 0 ≤ left ∧ left ≤ 16 ∧ Rd w rb p ∧ p ≤ p0 + 2 * n ∧ Only rb ws w
/-- What the outer loop of 'programs' carries. -/
def Outer (w0 : World) (rb p0 : Nat) (v : Value) (left : Int) (vs : List Value) (w : World) : Prop :=
  ∃ p : Nat, w.ownsRow w0.heap.size 22 1 v vs.length vs ∧ vs.length ≤ 4 ∧ RowsV w w0.heap.size w.heap.size vs ∧ 0 ≤ left ∧ left ≤ 16 ∧ Rd w rb p ∧ p ≤ p0 + 20 * vs.length ∧ Only rb w0 w
def Programs (w0 : World) (rb p0 : Nat) (e : Ending) (w : World) : Prop :=
  ∃ (v : Value) (vs : List Value) (left : Int), e = .returned v ∧ Outer w0 rb p0 v left vs w

theorem Rd.lt_size {w : World} {rb p : Nat} (h : Rd w rb p) : rb < w.heap.size := h.lt
theorem Rd.alloc {w : World} {rb p : Nat} (h : Rd w rb p) (o : Obj) : Rd (w.alloc o) rb p := h.below ((Below.refl _ _).alloc (Nat.le_refl _) _)
theorem lit3 {w : World} {H : Nat} (hH : w.heap.size = H) (a b c : Int) : RInts (w.alloc (.cells #[.int .i64 a, .int .i64 b, .int .i64 c] 3)) (some ⟨H, 0, none⟩) 3 [a, b, c] := by subst hH; exact RInts.lit w [a, b, c] _ (by simp)
theorem lit4 {w : World} {H : Nat} (hH : w.heap.size = H) (a b c d : Int) : RInts (w.alloc (.cells #[.int .i64 a, .int .i64 b, .int .i64 c, .int .i64 d] 3)) (some ⟨H, 0, none⟩) 4 [a, b, c, d] := by subst hH; exact RInts.lit w [a, b, c, d] _ (by simp)
theorem lit5 {w : World} {H : Nat} (hH : w.heap.size = H) (a b c d e : Int) : RInts (w.alloc (.cells #[.int .i64 a, .int .i64 b, .int .i64 c, .int .i64 d, .int .i64 e] 3)) (some ⟨H, 0, none⟩) 5 [a, b, c, d, e] := by subst hH; exact RInts.lit w [a, b, c, d, e] _ (by simp)
theorem lit6 {w : World} {H : Nat} (hH : w.heap.size = H) (a b c d e f : Int) : RInts (w.alloc (.cells #[.int .i64 a, .int .i64 b, .int .i64 c, .int .i64 d, .int .i64 e, .int .i64 f] 3)) (some ⟨H, 0, none⟩) 6 [a, b, c, d, e, f] := by subst hH; exact RInts.lit w [a, b, c, d, e, f] _ (by simp)
theorem far_lit {rb H : Nat} (h : rb < H) : ∀ ad : Addr, some (⟨H, 0, none⟩ : Addr) = some ad → ad.block ≠ rb := by
  intro ad e
  injection e with e
  subst e
  simp; omega

theorem own_one {w : World} {base : Nat} {e : TypeId} {size n : Nat} {v : Value} {xs : List Value} (h : w.ownsRow base e size v n xs) : v.oneCell' = true := by
  obtain ⟨A, c, rfl⟩ := own_form h
  rfl
theorem Rd.grown {w w' : World} {rb p : Nat} {row : Option Nat} (h : Rd w rb p) (hg : w.grownBy w' row) (hr : ∀ k, row = some k → rb < k) : Rd w' rb p := by
  have hlt := h.lt
  obtain ⟨A, m, c, hh, hm, hc⟩ := h
  have hk : ∀ b, b ≤ rb → w'.heap[b]? = w.heap[b]? := fun b hb => hg.block b (by omega) (fun e => by have := hr b e.symm; omega)
  refine ⟨A, m, c, (hk rb (Nat.le_refl _)).trans hh, hm, fun h0 => ?_⟩
  obtain ⟨b, off, f, hA, hbl, hf⟩ := hc h0
  exact ⟨b, off, f, hA, hbl, fun i hi => ⟨(hf i hi).1, (hf i hi).2.1, (World.cell?_of_block (w := w) (a := ⟨b, _, none⟩) (hk b (by omega))).trans (hf i hi).2.2⟩⟩

section
variable {w : World} {ops : Array Oper} {rest : List Oper} {o : Oper} {a : Act} {Q : Exit → Act → World → Prop}
/-- append of one row. -/
theorem app_row (s x : Operand) {base : Nat} {v : Value} {n : Nat} {vs : List Value} (hown : w.ownsRow base 22 1 v n vs) (hbase : base ≤ w.heap.size)
    {u : Value} (hu : u.oneCell' = true) {H : Nat} {T : TypeId} (hH : w.heap[H]? = some (.cells #[u] T (0, 0))) (hn : n ≤ 1099511627776) {c : Nat}
    (hgd : o.guard = none) (ho : o.op = .call { callee := .builtin .append, args := #[s, x], argTypes := #[71, 71] }) (hs : a.eval s = v) (hx : a.eval x = .slice (some ⟨H, 0, none⟩) 1 c)
    (h : ∀ v' w', w'.ownsRow base 22 1 v' (n + 1) (vs ++ [u]) → w.grownBy w' v.ownBlock → wpList Tryd.prog ops Q rest (a.put o.dst v') w') : wpList Tryd.prog ops Q (o :: rest) a w := by
  obtain ⟨i0, hi, hz0, hz1, hz2⟩ := info_parts rowInfo
  refine wpList_app hgd s x _ ho base _ i0 _ 1 24 Tryd.underlying71 hi hz0 hz1 hz2 rfl (by decide) v n _ hs hown _ 1 c [u] hx ⟨rfl, by simpa using hu, fun _ => ⟨_, rfl, fun j u' hu' => ?_⟩⟩ (by simp only [maxLen]; omega) (by omega) hbase ?_
  · match j, hu' with
    | 0, hu' =>
      simp at hu'; subst hu'
      rw [addr_add, cell_of_row w H (0 + 0) _ T (0, 0) hH]; rfl
  · intro v' w' h1 h2 h3
    exact h v' w' h1 h2
end

/-- What a round of the outer loop comes to. -/
theorem outer_step {w0 wr w w1 w' : World} {rb p0 p' n : Nat} {v lv v' : Value} {vs : List Value} {xs : List OpV} {left : Int} (hown : wr.ownsRow w0.heap.size 22 1 v vs.length vs)
    (hrows : RowsV wr w0.heap.size wr.heap.size vs) (hO : Only rb w0 wr) (hrb : rb < w0.heap.size) (hO3 : Only rb wr w) (hl : w.ownsRow wr.heap.size 38 3 lv n (opCells xs)) (hn : n ≤ 5)
    (ob : Obj) (hw1 : w1 = w.alloc ob) (hown' : w'.ownsRow w0.heap.size 22 1 v' (vs.length + 1) (vs ++ [lv])) (hg : w1.grownBy w' v.ownBlock) (hr : Rd w rb p') (hv : vs.length < 4)
    (h0 : 0 ≤ left) (h1 : left ≤ 16) (hp : p' ≤ p0 + 20 * (vs.length + 1)) : Outer w0 rb p0 v' left (vs ++ [lv]) w' := by
  have hsz := hO.size
  have hsz3 := hO3.size
  have hownw : w1.ownsRow w0.heap.size 22 1 v vs.length vs := by rw [hw1]; exact World.ownsRow.alloc (own_only hown hO3 hrb) _
  have hsz1 : w1.heap.size = w.heap.size + 1 := by rw [hw1]; simp
  obtain ⟨A, c, rfl⟩ := own_form hl
  have hlv : RowV w w0.heap.size w.heap.size (.slice A n c) := RowV.of_own hl (by omega) hn
  have hlv1 : RowsV w1 w0.heap.size w.heap.size [.slice A n c] := by
    intro u hu
    simp at hu
    subst hu
    rw [hw1]
    exact hlv.keep (fun b h1 h2 _ => Below.heap_alloc _ _ _ h2) (by simp)
  have hlv2 := hlv1.grown hownw hg (by omega)
  have hvs1 : RowsV w1 w0.heap.size wr.heap.size vs := by
    rw [hw1]
    exact (hrows.only hO3 (Nat.le_refl _) hrb).keep (fun b h1 h2 _ => Below.heap_alloc _ _ _ (by omega)) (by simp)
  have hvs2 := hvs1.grown hownw hg (by omega)
  have hgs := hg.size
  refine ⟨p', by simpa using hown', by simp; omega, ?_, h0, h1, ?_, by simp; omega, ?_⟩
  · intro u hu
    simp only [List.mem_append, List.mem_singleton] at hu
    rcases hu with hu | hu
    · exact (hvs2 u hu).wider (by omega)
    · exact (hlv2 u (by simp [hu])).wider (by omega)
  · exact Rd.grown (w := w1) (by rw [hw1]; exact hr.alloc _) hg fun k hk => by have := (World.ownsRow.lt hownw k hk).1; omega
  · have : Only rb w0 w1 := by rw [hw1]; exact (hO.trans hO3).alloc _
    exact this.own hownw (Nat.le_refl _) hg

set_option maxHeartbeats 2000000 in
theorem programs_any (rb p most : Nat) (w0 : World) (h : Rd w0 rb p) (hp : p ≤ 50000) (hm : most ≤ 16) :
    Calls Tryd.prog 47 #[.pointer (some ⟨rb, 0, none⟩), .int .i64 (most : Int)] w0 (Programs w0 rb (p + 2)) := by
  have hlt := h.lt
  go_enter Tryd.func47, Tryd.ntmps47
  go_wp2_with fail
  refine (one_any rb p _ _ _ _ _ ((h.alloc _).alloc _) (by omega) (lit3 (by simp) 2 3 1) (by omega) (far_lit (by omega))).mono ?_
  rintro e w1 ⟨items, rfl, hi, hr1, ho1⟩
  go_wp2_with fail
  have hlt1 := hr1.lt
  refine (one_any rb _ _ _ _ _ _ (hr1.alloc _) (by omega) (lit5 rfl 3 2 4 3 1) (by omega) (far_lit hlt1)).mono ?_
  rintro e w2 ⟨n, rfl, hn, hr2, ho2⟩
  have hown : w2.ownsRow w0.heap.size 22 1 (.slice (some ⟨w0.heap.size, 0, none⟩) 0 0) 0 [] :=
    own_only (World.ownsRow.alloc (own_only (World.ownsRow.alloc (World.ownsRow_made w0 #[] 0 (Nat.le_refl _) (by decide) rfl) _) ho1 hlt) _) ho2 hlt
  have hO : Only rb w0 w2 := (((Only.refl rb w0).alloc _).alloc _).trans ho1 |>.trans (((Only.refl rb w1).alloc _).trans ho2)
  have hn4 : 1 ≤ n ∧ n ≤ 4 := by simp at hn; omega
  have hi4 : 1 ≤ items ∧ items ≤ 3 := by simp at hi; omega
  have HST : Hid (Outer w0 rb (p + 2) (.slice (some ⟨w0.heap.size, 0, none⟩) 0 0) (most : Int) [] w2) :=
    ⟨p + 1 + 1, hown, by simp, by intro v hv; simp at hv, by omega, by omega, hr2, by simp, hO⟩
  clear hown hO hr2 hr1 ho1 ho2 hn hi
  go_wp2_with fail
  go_loopw [5, 6] (fun v l w => ∃ (left : Int) (vs : List Value), l = .int .i64 left ∧ (vs.length : Int) ≤ n ∧ Outer w0 rb (p + 2) v left vs w) (fun v _ _ => 4 - lenOf v)
  case atStart => exact ⟨(most : Int), [], rfl, by simp; try omega, HST.out⟩
  case round =>
    obtain ⟨wo, rfl⟩ : ∃ wo : World, wo = wr := ⟨_, rfl⟩
    obtain ⟨left, vs, rfl, hvn, q, hown, hv4, hrows, hl0, hl1, hr, hq, hO⟩ := hrel
    obtain ⟨A, c, rfl⟩ := own_form hown
    have hlr := hr.lt
    by_cases hlen : (vs.length : Int) < n
    · go_wp2_with fail
      refine (one_any rb q _ _ _ _ _ ((hr.alloc _).alloc _) (by omega) (lit4 (by simp) 2 3 1 4) (by omega) (far_lit (by omega))).mono ?_
      rintro e w3 ⟨k, rfl, hk, hr3, ho3⟩
      have hk4 : 1 ≤ k ∧ k ≤ 4 := by simp at hk; omega
      have HIN : Hid (Inner wo rb (q + 1) (.slice (some ⟨wo.heap.size, 0, none⟩) 0 0) k left w3) :=
        ⟨0, [], q + 1, own_only (World.ownsRow.alloc (World.ownsRow_made wo #[] 0 (Nat.le_refl _) (by decide) rfl) _) ho3 hlr, by omega, by omega, hl0, hl1, hr3, by omega,
          (((Only.refl rb wo).alloc _).alloc _).trans ho3⟩
      have HOUT := Lib.hid (And.intro hown (And.intro hrows (And.intro hO hr)))
      clear hown hrows hO hr hr3 ho3 hk
      go_wp2_with fail
      go_loopw [6, 10, 11] (fun l v k w => ∃ (left k' : Int), l = .int .i64 left ∧ k = .int .i64 k' ∧ Inner wo rb (q + 1) v k' left w) (fun _ _ k _ => (intOf k).toNat)
      case atStart => exact ⟨left, k, rfl, rfl, HIN.out⟩
      case round =>
        clear HIN
        obtain ⟨left, k, rfl, rfl, nx, xs, q3, hown, hk0, hk1, hl0, hl1, hr, hq3, hO⟩ := hrel
        by_cases hkk : 0 < k
        · by_cases hll : 1 < left
          · go_wp2_with fail
            have hlrr := hr.lt
            refine (one_any rb _ _ _ _ _ _ (hr.alloc _) (by omega) (lit4 rfl 0 1 0 1) (by omega) (far_lit hlrr)).mono ?_
            rintro e w4 ⟨kd, rfl, hkd, hr4, ho4⟩
            go_wp2_with fail
            refine (pick_any rb _ items _ hr4 (by omega) (by omega)).mono ?_
            rintro e w5 ⟨it, rfl, hr5, _, hit, ho5⟩
            have hO5 := ((hO.alloc _).trans ho4).trans ho5
            have hown5 := own_only (own_only (hown.alloc _) ho4 hlr) ho5 hlr
            have hs5 := hO5.size
            go_wp2_with (at_builtin; refine app_ops (.tmp 38) (.tmp 47) (hown5.alloc _) (by simp; omega) (ROps.lit1 _ ⟨_, _, _⟩ _) (by omega) rfl rfl rfl rfl ?_; intro v6 w6 hown6 hg6 hat6)
            have hg6' := World.grownBy.trans (World.grownBy_alloc w5 _ _) hg6
            have hO6 := hO5.own hown5 (Nat.le_refl _) hg6'
            have hr6 := hr5.grown hg6' fun k hk => by have := (World.ownsRow.lt hown5 k hk).1; omega
            go_wp2_with fail
            go_roundw
            case rel => exact ⟨left - 1, k - 1, rfl, rfl, nx + 1, _, _, hown6, by omega, by omega, by omega, by omega, hr6, by omega, hO6⟩
            case measure => simp [intOf]; omega
          · skip
            obtain ⟨Al, cl, rfl⟩ := own_form hown
            by_cases hlp : 0 < left
            · go_wp2_with fail
              refine (pick_any rb _ 10 _ hr (by omega) (by omega)).mono ?_
              rintro e w4 ⟨pv, rfl, hr4, _, _, ho4⟩
              have hown4 := own_only hown ho4 hlr
              have hO4 := hO.trans ho4
              have hlr4 := hr4.lt
              have hgo4 : w4.ownsRow w0.heap.size 22 1 (.slice A vs.length c) vs.length vs := own_only HOUT.out.1 hO4 hlt
              have hs4 := hO4.size
              have hs0 := HOUT.out.2.2.1.size
              by_cases hpv : 0 < pv
              · go_wp2_with fail
                refine (one_any rb _ _ _ _ _ _ (hr4.alloc _) (by omega) (lit6 rfl 2 2 2 2 2 3) (by omega) (far_lit hlr4)).mono ?_
                rintro e w5 ⟨kd, rfl, hkd, hr5, ho5⟩
                have hown5 := own_only (hown4.alloc _) ho5 hlr
                have hO5 := (hO4.alloc _).trans ho5
                have hgo5 := own_only (hgo4.alloc _) ho5 hlt
                have hs5 := hO5.size
                go_wp2_with (first | (at_builtin; refine app_ops (.tmp 58) (.tmp 64) (hown5.alloc _) (by simp; omega) (ROps.lit1 _ ⟨_, _, _⟩ _) (by omega) rfl rfl rfl rfl ?_; intro v6 w6 hown6 hg6 hat6; obtain ⟨A6, c6, rfl⟩ := own_form hown6; have hg6' := World.grownBy.trans (World.grownBy_alloc w5 _ _) hg6; have hO6 := hO5.own hown5 (Nat.le_refl _) hg6'; have hr6 := hr5.grown hg6' (fun k hk => by have := (World.ownsRow.lt hown5 k hk).1; omega); have hgo6 := own_only HOUT.out.1 hO6 hlt; have hs6 := hO6.size) | (at_builtin; refine app_row (.tmp 68) (.tmp 70) (hgo6.alloc _) (by simp; omega) (own_one hown6) (heap_alloc_new _ _) (by omega) rfl rfl rfl rfl ?_; intro v7 w7 hown7 hg7))
                have hout := outer_step (left := left - 1) (p0 := p + 2) HOUT.out.1 HOUT.out.2.1 HOUT.out.2.2.1 hlt hO6 hown6 (by omega) _ rfl hown7 hg7 hr6 (by omega) (by omega) (by omega) (by omega)
                go_wp2_with fail
                go_roundw
                case rel => exact ⟨left - 1, vs ++ [_], rfl, by simp; omega, hout⟩
                case measure => obtain ⟨q7, h7, _⟩ := hout; obtain ⟨A7, c7, rfl⟩ := own_form h7; simp [lenOf]; omega
              · go_wp2_with (at_builtin; refine app_row (.tmp 68) (.tmp 70) (hgo4.alloc _) (by simp; omega) (own_one hown4) (heap_alloc_new _ _) (by omega) rfl rfl rfl rfl ?_; intro v7 w7 hown7 hg7)
                have hout := outer_step (left := left) (p0 := p + 2) HOUT.out.1 HOUT.out.2.1 HOUT.out.2.2.1 hlt hO4 hown4 (by omega) _ rfl hown7 hg7 hr4 (by omega) (by omega) (by omega) (by omega)
                go_wp2_with fail
                go_roundw
                case rel => exact ⟨left, vs ++ [_], rfl, by simp; omega, hout⟩
                case measure => obtain ⟨q7, h7, _⟩ := hout; obtain ⟨A7, c7, rfl⟩ := own_form h7; simp [lenOf]; omega
            · have hgo4 : wr.ownsRow w0.heap.size 22 1 (.slice A vs.length c) vs.length vs := own_only HOUT.out.1 hO hlt
              have hs4 := hO.size
              have hs0 := HOUT.out.2.2.1.size
              go_wp2_with (at_builtin; refine app_row (.tmp 68) (.tmp 70) (hgo4.alloc _) (by simp; omega) (own_one hown) (heap_alloc_new _ _) (by omega) rfl rfl rfl rfl ?_; intro v7 w7 hown7 hg7)
              have hout := outer_step (left := left) (p0 := p + 2) HOUT.out.1 HOUT.out.2.1 HOUT.out.2.2.1 hlt hO hown (by omega) _ rfl hown7 hg7 hr (by omega) (by omega) (by omega) (by omega)
              go_wp2_with fail
              go_roundw
              case rel => exact ⟨left, vs ++ [_], rfl, by simp; omega, hout⟩
              case measure => obtain ⟨q7, h7, _⟩ := hout; obtain ⟨A7, c7, rfl⟩ := own_form h7; simp [lenOf]; omega

        · skip
          obtain ⟨Al, cl, rfl⟩ := own_form hown
          by_cases hlp : 0 < left
          · go_wp2_with fail
            refine (pick_any rb _ 10 _ hr (by omega) (by omega)).mono ?_
            rintro e w4 ⟨pv, rfl, hr4, _, _, ho4⟩
            have hown4 := own_only hown ho4 hlr
            have hO4 := hO.trans ho4
            have hlr4 := hr4.lt
            have hgo4 : w4.ownsRow w0.heap.size 22 1 (.slice A vs.length c) vs.length vs := own_only HOUT.out.1 hO4 hlt
            have hs4 := hO4.size
            have hs0 := HOUT.out.2.2.1.size
            by_cases hpv : 0 < pv
            · go_wp2_with fail
              refine (one_any rb _ _ _ _ _ _ (hr4.alloc _) (by omega) (lit6 rfl 2 2 2 2 2 3) (by omega) (far_lit hlr4)).mono ?_
              rintro e w5 ⟨kd, rfl, hkd, hr5, ho5⟩
              have hown5 := own_only (hown4.alloc _) ho5 hlr
              have hO5 := (hO4.alloc _).trans ho5
              have hgo5 := own_only (hgo4.alloc _) ho5 hlt
              have hs5 := hO5.size
              go_wp2_with (first | (at_builtin; refine app_ops (.tmp 58) (.tmp 64) (hown5.alloc _) (by simp; omega) (ROps.lit1 _ ⟨_, _, _⟩ _) (by omega) rfl rfl rfl rfl ?_; intro v6 w6 hown6 hg6 hat6; obtain ⟨A6, c6, rfl⟩ := own_form hown6; have hg6' := World.grownBy.trans (World.grownBy_alloc w5 _ _) hg6; have hO6 := hO5.own hown5 (Nat.le_refl _) hg6'; have hr6 := hr5.grown hg6' (fun k hk => by have := (World.ownsRow.lt hown5 k hk).1; omega); have hgo6 := own_only HOUT.out.1 hO6 hlt; have hs6 := hO6.size) | (at_builtin; refine app_row (.tmp 68) (.tmp 70) (hgo6.alloc _) (by simp; omega) (own_one hown6) (heap_alloc_new _ _) (by omega) rfl rfl rfl rfl ?_; intro v7 w7 hown7 hg7))
              have hout := outer_step (left := left - 1) (p0 := p + 2) HOUT.out.1 HOUT.out.2.1 HOUT.out.2.2.1 hlt hO6 hown6 (by omega) _ rfl hown7 hg7 hr6 (by omega) (by omega) (by omega) (by omega)
              go_wp2_with fail
              go_roundw
              case rel => exact ⟨left - 1, vs ++ [_], rfl, by simp; omega, hout⟩
              case measure => obtain ⟨q7, h7, _⟩ := hout; obtain ⟨A7, c7, rfl⟩ := own_form h7; simp [lenOf]; omega
            · go_wp2_with (at_builtin; refine app_row (.tmp 68) (.tmp 70) (hgo4.alloc _) (by simp; omega) (own_one hown4) (heap_alloc_new _ _) (by omega) rfl rfl rfl rfl ?_; intro v7 w7 hown7 hg7)
              have hout := outer_step (left := left) (p0 := p + 2) HOUT.out.1 HOUT.out.2.1 HOUT.out.2.2.1 hlt hO4 hown4 (by omega) _ rfl hown7 hg7 hr4 (by omega) (by omega) (by omega) (by omega)
              go_wp2_with fail
              go_roundw
              case rel => exact ⟨left, vs ++ [_], rfl, by simp; omega, hout⟩
              case measure => obtain ⟨q7, h7, _⟩ := hout; obtain ⟨A7, c7, rfl⟩ := own_form h7; simp [lenOf]; omega
          · have hgo4 : wr.ownsRow w0.heap.size 22 1 (.slice A vs.length c) vs.length vs := own_only HOUT.out.1 hO hlt
            have hs4 := hO.size
            have hs0 := HOUT.out.2.2.1.size
            go_wp2_with (at_builtin; refine app_row (.tmp 68) (.tmp 70) (hgo4.alloc _) (by simp; omega) (own_one hown) (heap_alloc_new _ _) (by omega) rfl rfl rfl rfl ?_; intro v7 w7 hown7 hg7)
            have hout := outer_step (left := left) (p0 := p + 2) HOUT.out.1 HOUT.out.2.1 HOUT.out.2.2.1 hlt hO hown (by omega) _ rfl hown7 hg7 hr (by omega) (by omega) (by omega) (by omega)
            go_wp2_with fail
            go_roundw
            case rel => exact ⟨left, vs ++ [_], rfl, by simp; omega, hout⟩
            case measure => obtain ⟨q7, h7, _⟩ := hout; obtain ⟨A7, c7, rfl⟩ := own_form h7; simp [lenOf]; omega

    · go_wp2_with fail
      go_ret
      exact ⟨_, vs, left, rfl, q, hown, hv4, hrows, hl0, hl1, hr, hq, hO⟩
end Go.Proofs.YtddkjbibjjehjaaDoor
