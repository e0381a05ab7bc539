/-
  The texts that the proof rests on, joined: part 2.
-/
import Derived.Deep.LoopGhost
import Derived.Test.YtmookobaljcpbaaPkIsSer1
namespace Go.Proofs.Ytmookobaljcpbaa
open Go.RowKit Go.BigFrame
set_option linter.unusedVariables false

theorem rowInfo : (Try.prog.info? 23).map (fun i => (i.zero, i.size, i.bytes)) = some (some (.slice none 0 0), 1, 24) := by kernel_rfl

/-- A value that is a row of at most five operations, its block between lo and hi. -/
def RowV (w : World) (lo hi : Nat) (v : Value) : Prop :=
  ∃ (A : Option Addr) (n c : Nat) (xs : List OpV), v = .slice A n c ∧ n ≤ c ∧ n ≤ 5 ∧ ROps w A n xs ∧
    ∀ ad, A = some ad → lo ≤ ad.block ∧ ad.block < hi ∧ ∃ cs fr, w.heap[ad.block]? = some (.cells cs 55 fr)
def RowsV (w : World) (lo hi : Nat) (vs : List Value) : Prop := ∀ v ∈ vs, RowV w lo hi v

theorem RowV.keep {w w' : World} {lo hi : Nat} {v : Value} (h : RowV w lo hi v) (hk : ∀ b, lo ≤ b → b < hi → (∃ cs fr, w.heap[b]? = some (.cells cs 55 fr)) → w'.heap[b]? = w.heap[b]?)
    (hs : w.heap.size ≤ w'.heap.size) : RowV w' lo hi v := by
  obtain ⟨A, n, c, xs, hv, hnc, hn, ⟨h1, h2, h3⟩, hA⟩ := h
  refine ⟨A, n, c, xs, hv, hnc, hn, ⟨h1, h2, fun h0 => ?_⟩, fun ad had => ?_⟩
  · obtain ⟨b, off, rfl, hb, hc⟩ := h3 h0
    obtain ⟨a1, a2, a3⟩ := hA _ rfl
    have hh := hk b a1 a2 a3
    refine ⟨b, off, rfl, by omega, fun i o ho => ?_⟩
    obtain ⟨c0, c1, c2⟩ := hc i o ho
    exact ⟨(World.cell?_of_block (w := w) (a := ⟨b, _, none⟩) hh).trans c0, (World.cell?_of_block (w := w) (a := ⟨b, _, none⟩) hh).trans c1, (World.cell?_of_block (w := w) (a := ⟨b, _, none⟩) hh).trans c2⟩
  · obtain ⟨a1, a2, cs, fr, a3⟩ := hA _ had
    exact ⟨a1, a2, cs, fr, (hk _ a1 a2 ⟨cs, fr, a3⟩).trans a3⟩
theorem RowV.wider {w : World} {lo hi hi' : Nat} {v : Value} (h : RowV w lo hi v) (hh : hi ≤ hi') : RowV w lo hi' v := by
  obtain ⟨A, n, c, xs, hv, hnc, hn, hr, hA⟩ := h
  exact ⟨A, n, c, xs, hv, hnc, hn, hr, fun ad had => ⟨(hA ad had).1, by have := (hA ad had).2.1; omega, (hA ad had).2.2⟩⟩
theorem RowsV.keep {w w' : World} {lo hi : Nat} {vs : List Value} (h : RowsV w lo hi vs) (hk : ∀ b, lo ≤ b → b < hi → (∃ cs fr, w.heap[b]? = some (.cells cs 55 fr)) → w'.heap[b]? = w.heap[b]?)
    (hs : w.heap.size ≤ w'.heap.size) : RowsV w' lo hi vs := fun v hv => (h v hv).keep hk hs
/-- An own row of operations, as a row value. -/
theorem RowV.of_own {w : World} {lo base c n : Nat} {A : Option Addr} {xs : List OpV} (h : w.ownsRow base 55 3 (.slice A n c) n (opCells xs)) (hlo : lo ≤ base) (hn : n ≤ 5) : RowV w lo w.heap.size (.slice A n c) := by
  refine ⟨A, n, c, xs, rfl, ?_, hn, ROps.of_own h (by omega), fun ad had => ?_⟩
  · rcases h.2 with ⟨h1, h2⟩ | ⟨g, cap, cur, h1, h2, h3, h4, h5, h6, h7⟩
    · omega
    · injection h1 with _ _ hc
      subst hc
      exact h4
  · subst had
    rcases h.2 with ⟨h1, h2⟩ | ⟨g, cap, cur, h1, h2, h3, h4, h5, h6, h7⟩
    · cases h1
    · injection h1 with ha _ _
      injection ha with ha
      subst ha
      exact ⟨by simp; omega, lt_of_block h3, cur, _, h3⟩
theorem own_form {w : World} {base : Nat} {e : TypeId} {size n : Nat} {v : Value} {xs : List Value} (h : w.ownsRow base e size v n xs) : ∃ A c, v = .slice A n c := by
  rcases h.2 with ⟨h1, h2⟩ | ⟨g, cap, cur, h1, _⟩
  · exact ⟨none, 0, by rw [h1, h2]⟩
  · exact ⟨_, _, h1⟩

theorem own_only {w w' : World} {rb L : Nat} {e : TypeId} {size n : Nat} {v : Value} {xs : List Value} (h : w.ownsRow L e size v n xs) (ho : Only rb w w') (hrb : rb < L) : w'.ownsRow L e size v n xs := by
  refine World.ownsRow.kept h ho ?_
  cases hv : v.ownBlock with
  | none => exact .inl rfl
  | some g =>
    refine .inr (fun e => ?_)
    injection e with e
    have := (World.ownsRow.lt h g hv).1
    omega
theorem Only.grown {rb : Nat} {a w w' : World} {row : Option Nat} (h : Only rb a w) (hg : w.grownBy w' row) (hr : ∀ k, row = some k → a.heap.size ≤ k) : Only rb a w' :=
  ⟨hg.os.trans h.os, hg.tape.trans h.tape, hg.output.trans h.output, Nat.le_trans h.size hg.size, fun i hi hne =>
    (hg.block i (Nat.lt_of_lt_of_le hi h.size) (fun e => by have := hr i e.symm; omega)).trans (h.block i hi hne)⟩
theorem Only.own {rb : Nat} {a w w' : World} {L : Nat} {e : TypeId} {size n : Nat} {v : Value} {xs : List Value} (h : Only rb a w) (hown : w.ownsRow L e size v n xs) (hL : a.heap.size ≤ L) (hg : w.grownBy w' v.ownBlock) : Only rb a w' :=
  h.grown hg fun k hk => Nat.le_trans hL (World.ownsRow.lt hown k hk).1
theorem RowsV.only {w w' : World} {rb lo hi : Nat} {vs : List Value} (h : RowsV w lo hi vs) (ho : Only rb w w') (hhi : hi ≤ w.heap.size) (hrb : rb < lo) : RowsV w' lo hi vs :=
  h.keep (fun b h1 h2 _ => ho.heap (by omega) (by omega)) ho.size
theorem RowsV.grown {w w' : World} {lo hi L : Nat} {vs : List Value} {size n : Nat} {v : Value} {xs : List Value} (h : RowsV w lo hi vs) (hown : w.ownsRow L 23 size v n xs) (hg : w.grownBy w' v.ownBlock) (hhi : hi ≤ w.heap.size) : RowsV w' lo hi vs := by
  refine h.keep (fun b h1 h2 h3 => hg.block b (by omega) (fun e => ?_)) hg.size
  obtain ⟨cs, fr, h3⟩ := h3
  rcases hown.2 with ⟨h4, h5⟩ | ⟨g, cap, cur, h4, _, h6, _⟩
  · rw [h4] at e; simp [Value.ownBlock] at e
  · rw [h4] at e
    simp [Value.ownBlock] at e
    subst e
    rw [h3] at h6
    injection h6 with h6
    injection h6 with _ h6 _
    exact absurd h6 (by decide)

def lenOf : Value → Nat | .slice _ n _ => n | _ => 0
/-- What the inner loop of 'programs' carries. -/
def Inner (ws : World) (rb p0 : Nat) (v : Value) (k left : Int) (w : World) : Prop :=
  ∃ (n : Nat) (xs : List OpV) (p : Nat), w.ownsRow ws.heap.size 55 3 v n (opCells xs) ∧ 0 ≤ k ∧ n + k.toNat ≤ 4 ∧ 0 ≤ left ∧ left ≤ 16 ∧ Rd w rb p ∧ p ≤ p0 + 2 * n ∧ Only rb ws w
/-- What the outer loop of 'programs' carries. -/
def Outer (w0 : World) (rb p0 : Nat) (v : Value) (left : Int) (vs : List Value) (w : World) : Prop :=
  ∃ p : Nat, w.ownsRow w0.heap.size 23 1 v vs.length vs ∧ vs.length ≤ 4 ∧ RowsV w w0.heap.size w.heap.size vs ∧ 0 ≤ left ∧ left ≤ 16 ∧ Rd w rb p ∧ p ≤ p0 + 20 * vs.length ∧ Only rb w0 w
def Programs (w0 : World) (rb p0 : Nat) (e : Ending) (w : World) : Prop :=
  ∃ (v : Value) (vs : List Value) (left : Int), e = .returned v ∧ Outer w0 rb p0 v left vs w

theorem Rd.lt_size {w : World} {rb p : Nat} (h : Rd w rb p) : rb < w.heap.size := h.lt
theorem Rd.alloc {w : World} {rb p : Nat} (h : Rd w rb p) (o : Obj) : Rd (w.alloc o) rb p := h.below ((Below.refl _ _).alloc (Nat.le_refl _) _)
theorem lit3 {w : World} {H : Nat} (hH : w.heap.size = H) (a b c : Int) : RInts (w.alloc (.cells #[.int .i64 a, .int .i64 b, .int .i64 c] 3)) (some ⟨H, 0, none⟩) 3 [a, b, c] := by subst hH; exact RInts.lit w [a, b, c] _ (by simp)
theorem lit4 {w : World} {H : Nat} (hH : w.heap.size = H) (a b c d : Int) : RInts (w.alloc (.cells #[.int .i64 a, .int .i64 b, .int .i64 c, .int .i64 d] 3)) (some ⟨H, 0, none⟩) 4 [a, b, c, d] := by subst hH; exact RInts.lit w [a, b, c, d] _ (by simp)
theorem lit5 {w : World} {H : Nat} (hH : w.heap.size = H) (a b c d e : Int) : RInts (w.alloc (.cells #[.int .i64 a, .int .i64 b, .int .i64 c, .int .i64 d, .int .i64 e] 3)) (some ⟨H, 0, none⟩) 5 [a, b, c, d, e] := by subst hH; exact RInts.lit w [a, b, c, d, e] _ (by simp)
theorem lit6 {w : World} {H : Nat} (hH : w.heap.size = H) (a b c d e f : Int) : RInts (w.alloc (.cells #[.int .i64 a, .int .i64 b, .int .i64 c, .int .i64 d, .int .i64 e, .int .i64 f] 3)) (some ⟨H, 0, none⟩) 6 [a, b, c, d, e, f] := by subst hH; exact RInts.lit w [a, b, c, d, e, f] _ (by simp)
theorem far_lit {rb H : Nat} (h : rb < H) : ∀ ad : Addr, some (⟨H, 0, none⟩ : Addr) = some ad → ad.block ≠ rb := by
  intro ad e
  injection e with e
  subst e
  simp; omega

theorem own_one {w : World} {base : Nat} {e : TypeId} {size n : Nat} {v : Value} {xs : List Value} (h : w.ownsRow base e size v n xs) : v.oneCell' = true := by
  obtain ⟨A, c, rfl⟩ := own_form h
  rfl
theorem Rd.grown {w w' : World} {rb p : Nat} {row : Option Nat} (h : Rd w rb p) (hg : w.grownBy w' row) (hr : ∀ k, row = some k → rb < k) : Rd w' rb p := by
  have hlt := h.lt
  obtain ⟨A, m, c, hh, hm, hc⟩ := h
  have hk : ∀ b, b ≤ rb → w'.heap[b]? = w.heap[b]? := fun b hb => hg.block b (by omega) (fun e => by have := hr b e.symm; omega)
  refine ⟨A, m, c, (hk rb (Nat.le_refl _)).trans hh, hm, fun h0 => ?_⟩
  obtain ⟨b, off, f, hA, hbl, hf⟩ := hc h0
  exact ⟨b, off, f, hA, hbl, fun i hi => ⟨(hf i hi).1, (hf i hi).2.1, (World.cell?_of_block (w := w) (a := ⟨b, _, none⟩) (hk b (by omega))).trans (hf i hi).2.2⟩⟩

section
variable {w : World} {ops : Array Oper} {rest : List Oper} {o : Oper} {a : Act} {Q : Exit → Act → World → Prop}
/-- append of one row. -/
theorem app_row (s x : Operand) {base : Nat} {v : Value} {n : Nat} {vs : List Value} (hown : w.ownsRow base 23 1 v n vs) (hbase : base ≤ w.heap.size)
    {u : Value} (hu : u.oneCell' = true) {H : Nat} {T : TypeId} (hH : w.heap[H]? = some (.cells #[u] T (0, 0))) (hn : n ≤ 1099511627776) {c : Nat}
    (hgd : o.guard = none) (ho : o.op = .call { callee := .builtin .append, args := #[s, x], argTypes := #[93, 93] }) (hs : a.eval s = v) (hx : a.eval x = .slice (some ⟨H, 0, none⟩) 1 c)
    (h : ∀ v' w', w'.ownsRow base 23 1 v' (n + 1) (vs ++ [u]) → w.grownBy w' v.ownBlock → wpList Try.prog ops Q rest (a.put o.dst v') w') : wpList Try.prog ops Q (o :: rest) a w := by
  obtain ⟨i0, hi, hz0, hz1, hz2⟩ := info_parts rowInfo
  refine wpList_app hgd s x _ ho base _ i0 _ 1 24 Try.underlying93 hi hz0 hz1 hz2 rfl (by decide) v n _ hs hown _ 1 c [u] hx ⟨rfl, by simpa using hu, fun _ => ⟨_, rfl, fun j u' hu' => ?_⟩⟩ (by simp only [maxLen]; omega) (by omega) hbase ?_
  · match j, hu' with
    | 0, hu' =>
      simp at hu'; subst hu'
      rw [addr_add, cell_of_row w H (0 + 0) _ T (0, 0) hH]; rfl
  · intro v' w' h1 h2 h3
    exact h v' w' h1 h2
end

/-- What a round of the outer loop comes to. -/
theorem outer_step {w0 wr w w1 w' : World} {rb p0 p' n : Nat} {v lv v' : Value} {vs : List Value} {xs : List OpV} {left : Int} (hown : wr.ownsRow w0.heap.size 23 1 v vs.length vs)
    (hrows : RowsV wr w0.heap.size wr.heap.size vs) (hO : Only rb w0 wr) (hrb : rb < w0.heap.size) (hO3 : Only rb wr w) (hl : w.ownsRow wr.heap.size 55 3 lv n (opCells xs)) (hn : n ≤ 5)
    (ob : Obj) (hw1 : w1 = w.alloc ob) (hown' : w'.ownsRow w0.heap.size 23 1 v' (vs.length + 1) (vs ++ [lv])) (hg : w1.grownBy w' v.ownBlock) (hr : Rd w rb p') (hv : vs.length < 4)
    (h0 : 0 ≤ left) (h1 : left ≤ 16) (hp : p' ≤ p0 + 20 * (vs.length + 1)) : Outer w0 rb p0 v' left (vs ++ [lv]) w' := by
  have hsz := hO.size
  have hsz3 := hO3.size
  have hownw : w1.ownsRow w0.heap.size 23 1 v vs.length vs := by rw [hw1]; exact World.ownsRow.alloc (own_only hown hO3 hrb) _
  have hsz1 : w1.heap.size = w.heap.size + 1 := by rw [hw1]; simp
  obtain ⟨A, c, rfl⟩ := own_form hl
  have hlv : RowV w w0.heap.size w.heap.size (.slice A n c) := RowV.of_own hl (by omega) hn
  have hlv1 : RowsV w1 w0.heap.size w.heap.size [.slice A n c] := by
    intro u hu
    simp at hu
    subst hu
    rw [hw1]
    exact hlv.keep (fun b h1 h2 _ => Below.heap_alloc _ _ _ h2) (by simp)
  have hlv2 := hlv1.grown hownw hg (by omega)
  have hvs1 : RowsV w1 w0.heap.size wr.heap.size vs := by
    rw [hw1]
    exact (hrows.only hO3 (Nat.le_refl _) hrb).keep (fun b h1 h2 _ => Below.heap_alloc _ _ _ (by omega)) (by simp)
  have hvs2 := hvs1.grown hownw hg (by omega)
  have hgs := hg.size
  refine ⟨p', by simpa using hown', by simp; omega, ?_, h0, h1, ?_, by simp; omega, ?_⟩
  · intro u hu
    simp only [List.mem_append, List.mem_singleton] at hu
    rcases hu with hu | hu
    · exact (hvs2 u hu).wider (by omega)
    · exact (hlv2 u (by simp [hu])).wider (by omega)
  · exact Rd.grown (w := w1) (by rw [hw1]; exact hr.alloc _) hg fun k hk => by have := (World.ownsRow.lt hownw k hk).1; omega
  · have : Only rb w0 w1 := by rw [hw1]; exact (hO.trans hO3).alloc _
    exact this.own hownw (Nat.le_refl _) hg

set_option maxHeartbeats 2000000 in
theorem programs_any (rb p most : Nat) (w0 : World) (h : Rd w0 rb p) (hp : p ≤ 50000) (hm : most ≤ 16) :
    Calls Try.prog 95 #[.pointer (some ⟨rb, 0, none⟩), .int .i64 (most : Int)] w0 (Programs w0 rb (p + 2)) := by
  have hlt := h.lt
  go_enter Try.func95, Try.ntmps95
  go_wp2_with fail
  refine (one_any rb p _ _ _ _ _ ((h.alloc _).alloc _) (by omega) (lit3 (by simp) 2 3 1) (by omega) (far_lit (by omega))).mono ?_
  rintro e w1 ⟨items, rfl, hi, hr1, ho1⟩
  go_wp2_with fail
  have hlt1 := hr1.lt
  refine (one_any rb _ _ _ _ _ _ (hr1.alloc _) (by omega) (lit5 rfl 3 2 4 3 1) (by omega) (far_lit hlt1)).mono ?_
  rintro e w2 ⟨n, rfl, hn, hr2, ho2⟩
  have hown : w2.ownsRow w0.heap.size 23 1 (.slice (some ⟨w0.heap.size, 0, none⟩) 0 0) 0 [] :=
    own_only (World.ownsRow.alloc (own_only (World.ownsRow.alloc (World.ownsRow_made w0 #[] 0 (Nat.le_refl _) (by decide) rfl) _) ho1 hlt) _) ho2 hlt
  have hO : Only rb w0 w2 := (((Only.refl rb w0).alloc _).alloc _).trans ho1 |>.trans (((Only.refl rb w1).alloc _).trans ho2)
  have hn4 : 1 ≤ n ∧ n ≤ 4 := by simp at hn; omega
  have hi4 : 1 ≤ items ∧ items ≤ 3 := by simp at hi; omega
  have HST : Hid (Outer w0 rb (p + 2) (.slice (some ⟨w0.heap.size, 0, none⟩) 0 0) (most : Int) [] w2) :=
    ⟨p + 1 + 1, hown, by simp, by intro v hv; simp at hv, by omega, by omega, hr2, by simp, hO⟩
  clear hown hO hr2 hr1 ho1 ho2 hn hi
  go_wp2_with fail
  go_loopw [5, 6] (fun v l w => ∃ (left : Int) (vs : List Value), l = .int .i64 left ∧ (vs.length : Int) ≤ n ∧ Outer w0 rb (p + 2) v left vs w) (fun v _ _ => 4 - lenOf v)
  case atStart => exact ⟨(most : Int), [], rfl, by simp; try omega, HST.out⟩
  case round =>
    obtain ⟨wo, rfl⟩ : ∃ wo : World, wo = wr := ⟨_, rfl⟩
    obtain ⟨left, vs, rfl, hvn, q, hown, hv4, hrows, hl0, hl1, hr, hq, hO⟩ := hrel
    obtain ⟨A, c, rfl⟩ := own_form hown
    have hlr := hr.lt
    by_cases hlen : (vs.length : Int) < n
    · go_wp2_with fail
      refine (one_any rb q _ _ _ _ _ ((hr.alloc _).alloc _) (by omega) (lit4 (by simp) 2 3 1 4) (by omega) (far_lit (by omega))).mono ?_
      rintro e w3 ⟨k, rfl, hk, hr3, ho3⟩
      have hk4 : 1 ≤ k ∧ k ≤ 4 := by simp at hk; omega
      have HIN : Hid (Inner wo rb (q + 1) (.slice (some ⟨wo.heap.size, 0, none⟩) 0 0) k left w3) :=
        ⟨0, [], q + 1, own_only (World.ownsRow.alloc (World.ownsRow_made wo #[] 0 (Nat.le_refl _) (by decide) rfl) _) ho3 hlr, by omega, by omega, hl0, hl1, hr3, by omega,
          (((Only.refl rb wo).alloc _).alloc _).trans ho3⟩
      have HOUT := Lib.hid (And.intro hown (And.intro hrows (And.intro hO hr)))
      clear hown hrows hO hr hr3 ho3 hk
      go_wp2_with fail
      go_loopw [6, 10, 11] (fun l v k w => ∃ (left k' : Int), l = .int .i64 left ∧ k = .int .i64 k' ∧ Inner wo rb (q + 1) v k' left w) (fun _ _ k _ => (intOf k).toNat)
      case atStart => exact ⟨left, k, rfl, rfl, HIN.out⟩
      case round =>
        clear HIN
        obtain ⟨left, k, rfl, rfl, nx, xs, q3, hown, hk0, hk1, hl0, hl1, hr, hq3, hO⟩ := hrel
        by_cases hkk : 0 < k
        · by_cases hll : 1 < left
          · go_wp2_with fail
            have hlrr := hr.lt
            refine (one_any rb _ _ _ _ _ _ (hr.alloc _) (by omega) (lit4 rfl 0 1 0 1) (by omega) (far_lit hlrr)).mono ?_
            rintro e w4 ⟨kd, rfl, hkd, hr4, ho4⟩
            go_wp2_with fail
            refine (pick_any rb _ items _ hr4 (by omega) (by omega)).mono ?_
            rintro e w5 ⟨it, rfl, hr5, _, hit, ho5⟩
            have hO5 := ((hO.alloc _).trans ho4).trans ho5
            have hown5 := own_only (own_only (hown.alloc _) ho4 hlr) ho5 hlr
            have hs5 := hO5.size
            go_wp2_with (at_builtin; refine app_ops (.tmp 38) (.tmp 47) (hown5.alloc _) (by simp; omega) (ROps.lit1 _ ⟨_, _, _⟩ _) (by omega) rfl rfl rfl rfl ?_; intro v6 w6 hown6 hg6 hat6)
            have hg6' := World.grownBy.trans (World.grownBy_alloc w5 _ _) hg6
            have hO6 := hO5.own hown5 (Nat.le_refl _) hg6'
            have hr6 := hr5.grown hg6' fun k hk => by have := (World.ownsRow.lt hown5 k hk).1; omega
            go_wp2_with fail
            go_roundw
            case rel => exact ⟨left - 1, k - 1, rfl, rfl, nx + 1, _, _, hown6, by omega, by omega, by omega, by omega, hr6, by omega, hO6⟩
            case measure => simp [intOf]; omega
          · skip
            obtain ⟨Al, cl, rfl⟩ := own_form hown
            by_cases hlp : 0 < left
            · go_wp2_with fail
              refine (pick_any rb _ 10 _ hr (by omega) (by omega)).mono ?_
              rintro e w4 ⟨pv, rfl, hr4, _, _, ho4⟩
              have hown4 := own_only hown ho4 hlr
              have hO4 := hO.trans ho4
              have hlr4 := hr4.lt
              have hgo4 : w4.ownsRow w0.heap.size 23 1 (.slice A vs.length c) vs.length vs := own_only HOUT.out.1 hO4 hlt
              have hs4 := hO4.size
              have hs0 := HOUT.out.2.2.1.size
              by_cases hpv : 0 < pv
              · go_wp2_with fail
                refine (one_any rb _ _ _ _ _ _ (hr4.alloc _) (by omega) (lit6 rfl 2 2 2 2 2 3) (by omega) (far_lit hlr4)).mono ?_
                rintro e w5 ⟨kd, rfl, hkd, hr5, ho5⟩
                have hown5 := own_only (hown4.alloc _) ho5 hlr
                have hO5 := (hO4.alloc _).trans ho5
                have hgo5 := own_only (hgo4.alloc _) ho5 hlt
                have hs5 := hO5.size
                go_wp2_with (first | (at_builtin; refine app_ops (.tmp 58) (.tmp 64) (hown5.alloc _) (by simp; omega) (ROps.lit1 _ ⟨_, _, _⟩ _) (by omega) rfl rfl rfl rfl ?_; intro v6 w6 hown6 hg6 hat6; obtain ⟨A6, c6, rfl⟩ := own_form hown6; have hg6' := World.grownBy.trans (World.grownBy_alloc w5 _ _) hg6; have hO6 := hO5.own hown5 (Nat.le_refl _) hg6'; have hr6 := hr5.grown hg6' (fun k hk => by have := (World.ownsRow.lt hown5 k hk).1; omega); have hgo6 := own_only HOUT.out.1 hO6 hlt; have hs6 := hO6.size) | (at_builtin; refine app_row (.tmp 68) (.tmp 70) (hgo6.alloc _) (by simp; omega) (own_one hown6) (heap_alloc_new _ _) (by omega) rfl rfl rfl rfl ?_; intro v7 w7 hown7 hg7))
                have hout := outer_step (left := left - 1) (p0 := p + 2) HOUT.out.1 HOUT.out.2.1 HOUT.out.2.2.1 hlt hO6 hown6 (by omega) _ rfl hown7 hg7 hr6 (by omega) (by omega) (by omega) (by omega)
                go_wp2_with fail
                go_roundw
                case rel => exact ⟨left - 1, vs ++ [_], rfl, by simp; omega, hout⟩
                case measure => obtain ⟨q7, h7, _⟩ := hout; obtain ⟨A7, c7, rfl⟩ := own_form h7; simp [lenOf]; omega
              · go_wp2_with (at_builtin; refine app_row (.tmp 68) (.tmp 70) (hgo4.alloc _) (by simp; omega) (own_one hown4) (heap_alloc_new _ _) (by omega) rfl rfl rfl rfl ?_; intro v7 w7 hown7 hg7)
                have hout := outer_step (left := left) (p0 := p + 2) HOUT.out.1 HOUT.out.2.1 HOUT.out.2.2.1 hlt hO4 hown4 (by omega) _ rfl hown7 hg7 hr4 (by omega) (by omega) (by omega) (by omega)
                go_wp2_with fail
                go_roundw
                case rel => exact ⟨left, vs ++ [_], rfl, by simp; omega, hout⟩
                case measure => obtain ⟨q7, h7, _⟩ := hout; obtain ⟨A7, c7, rfl⟩ := own_form h7; simp [lenOf]; omega
            · have hgo4 : wr.ownsRow w0.heap.size 23 1 (.slice A vs.length c) vs.length vs := own_only HOUT.out.1 hO hlt
              have hs4 := hO.size
              have hs0 := HOUT.out.2.2.1.size
              go_wp2_with (at_builtin; refine app_row (.tmp 68) (.tmp 70) (hgo4.alloc _) (by simp; omega) (own_one hown) (heap_alloc_new _ _) (by omega) rfl rfl rfl rfl ?_; intro v7 w7 hown7 hg7)
              have hout := outer_step (left := left) (p0 := p + 2) HOUT.out.1 HOUT.out.2.1 HOUT.out.2.2.1 hlt hO hown (by omega) _ rfl hown7 hg7 hr (by omega) (by omega) (by omega) (by omega)
              go_wp2_with fail
              go_roundw
              case rel => exact ⟨left, vs ++ [_], rfl, by simp; omega, hout⟩
              case measure => obtain ⟨q7, h7, _⟩ := hout; obtain ⟨A7, c7, rfl⟩ := own_form h7; simp [lenOf]; omega

        · skip
          obtain ⟨Al, cl, rfl⟩ := own_form hown
          by_cases hlp : 0 < left
          · go_wp2_with fail
            refine (pick_any rb _ 10 _ hr (by omega) (by omega)).mono ?_
            rintro e w4 ⟨pv, rfl, hr4, _, _, ho4⟩
            have hown4 := own_only hown ho4 hlr
            have hO4 := hO.trans ho4
            have hlr4 := hr4.lt
            have hgo4 : w4.ownsRow w0.heap.size 23 1 (.slice A vs.length c) vs.length vs := own_only HOUT.out.1 hO4 hlt
            have hs4 := hO4.size
            have hs0 := HOUT.out.2.2.1.size
            by_cases hpv : 0 < pv
            · go_wp2_with fail
              refine (one_any rb _ _ _ _ _ _ (hr4.alloc _) (by omega) (lit6 rfl 2 2 2 2 2 3) (by omega) (far_lit hlr4)).mono ?_
              rintro e w5 ⟨kd, rfl, hkd, hr5, ho5⟩
              have hown5 := own_only (hown4.alloc _) ho5 hlr
              have hO5 := (hO4.alloc _).trans ho5
              have hgo5 := own_only (hgo4.alloc _) ho5 hlt
              have hs5 := hO5.size
              go_wp2_with (first | (at_builtin; refine app_ops (.tmp 58) (.tmp 64) (hown5.alloc _) (by simp; omega) (ROps.lit1 _ ⟨_, _, _⟩ _) (by omega) rfl rfl rfl rfl ?_; intro v6 w6 hown6 hg6 hat6; obtain ⟨A6, c6, rfl⟩ := own_form hown6; have hg6' := World.grownBy.trans (World.grownBy_alloc w5 _ _) hg6; have hO6 := hO5.own hown5 (Nat.le_refl _) hg6'; have hr6 := hr5.grown hg6' (fun k hk => by have := (World.ownsRow.lt hown5 k hk).1; omega); have hgo6 := own_only HOUT.out.1 hO6 hlt; have hs6 := hO6.size) | (at_builtin; refine app_row (.tmp 68) (.tmp 70) (hgo6.alloc _) (by simp; omega) (own_one hown6) (heap_alloc_new _ _) (by omega) rfl rfl rfl rfl ?_; intro v7 w7 hown7 hg7))
              have hout := outer_step (left := left - 1) (p0 := p + 2) HOUT.out.1 HOUT.out.2.1 HOUT.out.2.2.1 hlt hO6 hown6 (by omega) _ rfl hown7 hg7 hr6 (by omega) (by omega) (by omega) (by omega)
              go_wp2_with fail
              go_roundw
              case rel => exact ⟨left - 1, vs ++ [_], rfl, by simp; omega, hout⟩
              case measure => obtain ⟨q7, h7, _⟩ := hout; obtain ⟨A7, c7, rfl⟩ := own_form h7; simp [lenOf]; omega
            · go_wp2_with (at_builtin; refine app_row (.tmp 68) (.tmp 70) (hgo4.alloc _) (by simp; omega) (own_one hown4) (heap_alloc_new _ _) (by omega) rfl rfl rfl rfl ?_; intro v7 w7 hown7 hg7)
              have hout := outer_step (left := left) (p0 := p + 2) HOUT.out.1 HOUT.out.2.1 HOUT.out.2.2.1 hlt hO4 hown4 (by omega) _ rfl hown7 hg7 hr4 (by omega) (by omega) (by omega) (by omega)
              go_wp2_with fail
              go_roundw
              case rel => exact ⟨left, vs ++ [_], rfl, by simp; omega, hout⟩
              case measure => obtain ⟨q7, h7, _⟩ := hout; obtain ⟨A7, c7, rfl⟩ := own_form h7; simp [lenOf]; omega
          · have hgo4 : wr.ownsRow w0.heap.size 23 1 (.slice A vs.length c) vs.length vs := own_only HOUT.out.1 hO hlt
            have hs4 := hO.size
            have hs0 := HOUT.out.2.2.1.size
            go_wp2_with (at_builtin; refine app_row (.tmp 68) (.tmp 70) (hgo4.alloc _) (by simp; omega) (own_one hown) (heap_alloc_new _ _) (by omega) rfl rfl rfl rfl ?_; intro v7 w7 hown7 hg7)
            have hout := outer_step (left := left) (p0 := p + 2) HOUT.out.1 HOUT.out.2.1 HOUT.out.2.2.1 hlt hO hown (by omega) _ rfl hown7 hg7 hr (by omega) (by omega) (by omega) (by omega)
            go_wp2_with fail
            go_roundw
            case rel => exact ⟨left, vs ++ [_], rfl, by simp; omega, hout⟩
            case measure => obtain ⟨q7, h7, _⟩ := hout; obtain ⟨A7, c7, rfl⟩ := own_form h7; simp [lenOf]; omega

    · go_wp2_with fail
      go_ret
      exact ⟨_, vs, left, rfl, q, hown, hv4, hrows, hl0, hl1, hr, hq, hO⟩
end Go.Proofs.Ytmookobaljcpbaa
namespace Go.Proofs.Ytmookobaljcpbaa
open Go.RowKit Go.BigFrame
set_option linter.unusedVariables false

theorem ROps.drop {w : World} {A : Option Addr} {n : Nat} {xs : List OpV} (h : ROps w A n xs) {k c : Nat} (hk : k ≤ n) (hc : n ≤ c) :
    ROps w (if c = k then A else A.map (·.add (k * 3))) (n - k) (xs.drop k) := by
  obtain ⟨h1, h2, h3⟩ := h
  refine ⟨by simp; omega, by omega, fun hn => ?_⟩
  obtain ⟨b, off, rfl, hlt, hcell⟩ := h3 (by omega)
  rw [if_neg (by omega)]
  refine ⟨b, off + k * 3, by simp [addr_add], hlt, fun i o ho => ?_⟩
  rw [List.getElem?_drop] at ho
  have := hcell _ o ho
  have e1 : off + (k + i) * 3 = off + k * 3 + i * 3 := by omega
  rw [e1] at this
  exact this

def tot (vs : List Value) : Nat := (vs.map lenOf).sum
theorem tot_set (vs : List Value) (t : Nat) (u x : Value) (h : vs[t]? = some x) : tot (vs.set t u) + lenOf x = tot vs + lenOf u := by
  induction vs generalizing t with
  | nil => simp at h
  | cons y r ih =>
    cases t with
    | zero => simp at h; subst h; simp [tot]; omega
    | succ t =>
      have := ih t (by simpa using h)
      simp [tot] at *
      omega
theorem tot_le (vs : List Value) (k : Nat) (h : ∀ v ∈ vs, lenOf v ≤ k) : tot vs ≤ vs.length * k := by
  induction vs with
  | nil => simp [tot]
  | cons y r ih =>
    have h1 := ih (fun v hv => h v (by simp [hv]))
    have h2 := h y (by simp)
    simp [tot] at *
    rw [Nat.add_mul]; omega

/-- The cut of a row. -/
theorem RowV.cut {w : World} {lo hi n c k : Nat} {A : Option Addr} (h : RowV w lo hi (.slice A n c)) (hk : k ≤ n) : RowV w lo hi (.slice (if c = k then A else A.map (·.add (k * 3))) (n - k) (c - k)) := by
  obtain ⟨A', n', c', xs, hv, hnc, hn, hr, hA⟩ := h
  injection hv with h1 h2 h3
  subst h1; subst h2; subst h3
  refine ⟨_, _, _, _, rfl, by omega, by omega, hr.drop hk hnc, fun ad had => ?_⟩
  split at had
  · exact hA _ had
  · cases A with
    | none => cases had
    | some a =>
      simp at had
      subst had
      have : (a.add (k * 3)).block = a.block := by unfold Addr.add; split <;> rfl
      rw [this]
      exact hA _ rfl

/-- What the great loop of goodSchedule carries. -/
def Good (w0 : World) (rb L P K : Nat) (lv ov : Value) (w : World) : Prop := K ≤ 4 ∧
  ∃ (n : Nat) (xs : List OpV) (vs : List Value) (p : Nat), w.ownsRow w0.heap.size 23 1 lv K vs ∧ RowsV w w0.heap.size L vs ∧ w.ownsRow L 55 3 ov n (opCells xs) ∧
    n + tot vs ≤ 20 ∧ Rd w rb p ∧ p ≤ P + 4 * n ∧ Only rb w0 w ∧ L ≤ w.heap.size
/-- What the loop over the rows carries: only rows that are not empty are listed. -/
def Some_ (ws : World) (rb p k : Nat) (vs : List Value) (sv : Value) (w : World) : Prop :=
  ∃ (ts : List Int), ts.length ≤ k ∧ w.ownsRow ws.heap.size 3 1 sv ts.length (intCells ts) ∧ (∀ x ∈ ts, 0 ≤ x ∧ ∃ A n c, vs[x.toNat]? = some (.slice A n c) ∧ 0 < n) ∧ Rd w rb p ∧ Only rb ws w
def GoodPost (w0 : World) (rb : Nat) (e : Ending) (w : World) : Prop :=
  ∃ (v : Value) (n : Nat) (xs : List OpV) (p : Nat), e = .returned v ∧ w.ownsRow w0.heap.size 55 3 v n (opCells xs) ∧ n ≤ 20 ∧ Rd w rb p ∧ p ≤ 60000 ∧ Only rb w0 w


theorem mem_snoc {P : Int → Prop} {ts : List Int} {x : Int} (h : ∀ y ∈ ts, P y) (hx : P x) : ∀ y ∈ ts ++ [x], P y := by
  intro y hy
  simp only [List.mem_append, List.mem_singleton] at hy
  rcases hy with hy | rfl
  · exact h y hy
  · exact hx
theorem own_len {w : World} {base : Nat} {e : TypeId} {size n : Nat} {v : Value} {xs : List Value} (h : w.ownsRow base e size v n xs) : lenOf v = n := by
  obtain ⟨A, c, rfl⟩ := own_form h
  rfl
theorem row_len {w : World} {lo hi n c : Nat} {A : Option Addr} (h : RowV w lo hi (.slice A n c)) : n ≤ 5 := by
  obtain ⟨A', n', c', xs, hv, hnc, hn, _⟩ := h
  injection hv with h1 h2 h3
  omega
theorem own_block {w : World} {base : Nat} {e : TypeId} {size n : Nat} {v : Value} {xs : List Value} (h : w.ownsRow base e size v n xs) (hn : 0 < n) : ∃ g c, v = .slice (some ⟨g, 0, none⟩) n c ∧ base ≤ g ∧ g < w.heap.size := by
  rcases h.2 with ⟨h1, h2⟩ | ⟨g, cap, cur, h1, h2, h3, _⟩
  · omega
  · exact ⟨g, cap, h1, h2, lt_of_block h3⟩

theorem own_base {w : World} {base base' : Nat} {e : TypeId} {size n : Nat} {v : Value} {xs : List Value} (h : w.ownsRow base e size v n xs) (hb : base' ≤ base) : w.ownsRow base' e size v n xs := by
  refine ⟨h.1, ?_⟩
  rcases h.2 with h2 | ⟨g, cap, cur, h1, h2, r⟩
  · exact .inl h2
  · exact .inr ⟨g, cap, cur, h1, by omega, r⟩
theorem own_apart {w w' : World} {b1 b2 : Nat} {e1 e2 : TypeId} {s1 s2 n1 n2 : Nat} {v1 v2 : Value} {x1 x2 : List Value} (h1 : w.ownsRow b1 e1 s1 v1 n1 x1) (h2 : w.ownsRow b2 e2 s2 v2 n2 x2) (hne : e1 ≠ e2)
    (hg : w.grownBy w' v2.ownBlock) : w'.ownsRow b1 e1 s1 v1 n1 x1 := by
  refine World.ownsRow.kept h1 hg ?_
  rcases h1.2 with ⟨rfl, _⟩ | ⟨g, cap, cur, rfl, _, hh, _⟩
  · exact .inl rfl
  · refine .inr (fun e => ?_)
    rcases h2.2 with ⟨rfl, _⟩ | ⟨g', cap', cur', rfl, _, hh', _⟩
    · simp [Value.ownBlock] at e
    · simp [Value.ownBlock] at e
      subst e
      rw [hh] at hh'
      injection hh' with hh'
      injection hh' with _ hh' _
      exact hne hh'

/-- What a round of the great loop comes to: the row t is cut by k operations, which went to 'out'. -/
theorem good_step {w0 w w6 : World} {rb L P K n nt ct k p t g cl : Nat} {ov v' : Value} {vs : List Value} {xs ys : List OpV} {A : Option Addr} (hrb : rb < w0.heap.size) (hK : K ≤ 4)
    (hlv : w.ownsRow w0.heap.size 23 1 (.slice (some ⟨g, 0, none⟩) K cl) K vs) (hrows : RowsV w w0.heap.size L vs) (hL : L ≤ w.heap.size) (hov : w.ownsRow L 55 3 ov n (opCells xs)) (hL0 : w0.heap.size ≤ L)
    (hsum : n + tot vs ≤ 20) (hr : Rd w rb p) (hO : Only rb w0 w) (ht : vs[t]? = some (.slice A nt ct)) (hk1 : 1 ≤ k) (hk2 : k ≤ nt)
    (hown6 : w6.ownsRow L 55 3 v' (n + k) (opCells (xs ++ ys))) (hg6 : w.grownBy w6 ov.ownBlock) (hp : p ≤ P + 4 * (n + k)) :
    Good w0 rb L P K (.slice (some ⟨g, 0, none⟩) K cl) v' (w6.setCell ⟨g, t, none⟩ (.slice (if ct = k then A else A.map (·.add (k * 3))) (nt - k) (ct - k))) ∧ w6.cell? ⟨g, t, none⟩ = some (.slice A nt ct) ∧ w6.frozen? ⟨g, t, none⟩ = false := by
  have htl : t < vs.length := by
    rcases Nat.lt_or_ge t vs.length with h | h
    · exact h
    · rw [List.getElem?_eq_none h] at ht; cases ht
  have hvl : vs.length = K := by simpa using hlv.1
  have hg0 := World.ownsRow.lt hlv g rfl
  have hO6 := hO.own hov (by omega) hg6
  have hr6 := hr.grown hg6 fun j hj => by have := (World.ownsRow.lt hov j hj).1; omega
  have hlv6 := own_apart hlv hov (by decide) hg6
  have hs6 := hg6.size
  have hrows6 : RowsV w6 w0.heap.size L vs := by
    refine hrows.keep (fun b h1 h2 _ => hg6.block b (by omega) (fun e => ?_)) hs6
    have := (World.ownsRow.lt hov b e.symm).1
    omega
  have hst := hlv6.stored t (.slice (if ct = k then A else A.map (·.add (k * 3))) (nt - k) (ct - k))
  refine ⟨⟨hK, n + k, xs ++ ys, vs.set t (.slice (if ct = k then A else A.map (·.add (k * 3))) (nt - k) (ct - k)), p, hst.1, ?_, ?_, ?_, ?_, hp, ?_, by simp [World.setCell]; omega⟩, ?_, hlv6.frozenAt t⟩
  · have hkeep : ∀ b, w0.heap.size ≤ b → b < L → (∃ cs fr, w6.heap[b]? = some (.cells cs 55 fr)) → (w6.setCell ⟨g, t, none⟩ (.slice (if ct = k then A else A.map (·.add (k * 3))) (nt - k) (ct - k))).heap[b]? = w6.heap[b]? := by
      intro b _ _ ⟨cs, fr, hb⟩
      refine Below.heap_setCell _ _ _ _ (fun e => ?_)
      simp at e
      subst e
      rcases hlv6.2 with ⟨h1, _⟩ | ⟨g', cap', cur', h1, _, hh', _⟩
      · cases h1
      · injection h1 with h1 _ _
        injection h1 with h1
        injection h1 with h1
        subst h1
        rw [hb] at hh'
        injection hh' with hh'
        injection hh' with _ hh' _
        exact absurd hh' (by decide)
    intro u hu
    rcases List.mem_or_eq_of_mem_set hu with hu | rfl
    · exact (hrows6 u hu).keep hkeep (by simp [World.setCell])
    · exact ((hrows6 _ (List.mem_of_getElem? ht)).cut (by omega)).keep hkeep (by simp [World.setCell])
  · exact own_apart (e2 := 23) hown6 hlv6 (by decide) (by simpa [Value.ownBlock] using hst.2)
  · have := tot_set vs t (.slice (if ct = k then A else A.map (·.add (k * 3))) (nt - k) (ct - k)) _ ht
    simp [lenOf] at this
    omega
  · exact hr6.grown hst.2 fun j hj => by injection hj with hj; omega
  · exact hO6.grown hst.2 fun j hj => by injection hj with hj; omega
  · have := hlv6.cellAt t (by omega)
    rw [this]; exact ht

set_option maxRecDepth 100000 in
set_option maxHeartbeats 2000000 in
theorem goodSchedule_any (rb p most : Nat) (w0 : World) (h : Rd w0 rb p) (hp : p ≤ 50000) (hm : most ≤ 16) :
    Calls Try.prog 73 #[.pointer (some ⟨rb, 0, none⟩), .int .i64 (most : Int)] w0 (GoodPost w0 rb) := by
  have hlt := h.lt
  go_enter Try.func73, Try.ntmps73
  go_wp2_with fail
  refine (programs_any rb p most w0 h hp hm).mono ?_
  rintro e w1 ⟨lv, vs, left, rfl, q, hlv, hv4, hrows, _, _, hr1, hq1, hO1⟩
  have hlt1 := hr1.lt
  go_wp2_with fail
  refine (pick_any rb q 4 _ (hr1.alloc _) (by omega) (by omega)).mono ?_
  rintro e w2 ⟨sw, rfl, hr2, _, _, ho2⟩
  have hs2 := ho2.size
  have hs1 := hO1.size
  have ht5 : ∀ v ∈ vs, lenOf v ≤ 5 := by
    intro v hv
    obtain ⟨A, n, c, xs, rfl, _, hn, _⟩ := hrows v hv
    exact hn
  have htot := tot_le vs 5 ht5
  have HST : Hid (Good w0 rb w1.heap.size 50100 vs.length lv (.slice (some ⟨w1.heap.size, 0, none⟩) 0 0) w2) :=
    ⟨hv4, 0, [], vs, q + 1, own_only (hlv.alloc _) ho2 hlt, (hrows.keep (fun b h1 h2 _ => Below.heap_alloc _ _ _ h2) (by simp)).only ho2 (by simp) hlt,
      own_only (World.ownsRow_made w1 #[] 0 (Nat.le_refl _) (by decide) rfl) ho2 hlt1, by omega, hr2, by omega, (hO1.alloc _).trans ho2, by simp at hs2; omega⟩
  obtain ⟨Al, cl, rfl⟩ := own_form hlv
  generalize hk : vs.length = K at *
  have HK := Lib.hid hk
  clear hk hlv hrows hr1 hq1 hO1 hr2 ho2 ht5 htot
  go_wp2_with fail
  go_loopw [6] (fun ov w => Good w0 rb w1.heap.size 50100 K (.slice Al K cl) ov w) (fun ov _ => 21 - lenOf ov)
  case atStart => exact HST.out
  case round =>
    clear HST HK vs
    obtain ⟨wo, rfl⟩ : ∃ wo : World, wo = wr := ⟨_, rfl⟩
    obtain ⟨hK4, n, xs, vs, p3, hlv, hrows, hov, hsum, hr, hp3, hO, hLw⟩ := hrel
    have hlr := hr.lt
    have hvl : vs.length = K := by simpa using hlv.1
    have HIN : Hid (Some_ wo rb p3 0 vs (.slice (some ⟨wo.heap.size, 0, none⟩) 0 0) (wo.alloc (.cells #[] 3))) :=
      ⟨[], by simp, World.ownsRow_made wo #[] 0 (Nat.le_refl _) (by decide) rfl, by simp, hr.alloc _, (Only.refl _ _).alloc _⟩
    have HO := Lib.hid (And.intro hlv (And.intro hrows (And.intro hov (And.intro hr (And.intro hO hvl)))))
    clear hlv hrows hov hr hO hvl
    go_wp2_with fail
    go_loopw [8, 9] (fun sv t w => ∃ k : Nat, k ≤ K ∧ t = .int .i64 k ∧ Some_ wo rb p3 k vs sv w) (fun _ t _ => K - (intOf t).toNat)
    case atStart => exact ⟨0, by omega, rfl, HIN.out⟩
    case round =>
      clear HIN
      obtain ⟨k, hk, rfl, ts, htk, hts, hin, hr, hOi⟩ := hrel
      by_cases hkK : k < K
      · have hlw := own_only HO.out.1 hOi hlt
        obtain ⟨g, cl', hve, hg1, hg2⟩ := own_block hlw (by omega)
        injection hve with hA _ hc
        subst hA; subst hc
        have hcell : wr.cell? ⟨g, k, none⟩ = vs[k]? := by simpa using hlw.cellAt k (by omega)
        obtain ⟨u, hu⟩ : ∃ u, vs[k]? = some u := ⟨vs[k]'(by have := HO.out.2.2.2.2.2; omega), List.getElem?_eq_getElem _⟩
        obtain ⟨A, nt, ct, ys, rfl, hnc, hn5, hro, hAA⟩ := HO.out.2.1 u (List.mem_of_getElem? hu)
        rw [hu] at hcell
        have HU := Lib.hid hu
        clear hu hro hAA hlw
        have hsz := hOi.size
        by_cases hnt : 0 < nt
        · go_wp2_with (at_builtin; refine app_ints (.tmp 32) (.tmp 34) (hts.alloc _) (by simp; omega) (lit1 rfl (k : Int)) (by omega) rfl rfl rfl rfl ?_; intro v6 w6 hown6 hg6 hat6)
          have hg6' := World.grownBy.trans (World.grownBy_alloc wr _ _) hg6
          have hO6 := hOi.own hts (Nat.le_refl _) hg6'
          have hr6 := hr.grown hg6' fun j hj => by have := (World.ownsRow.lt hts j hj).1; omega
          go_wp2_with fail
          go_roundw
          case rel => exact ⟨k + 1, by omega, by go_num, ts ++ [(k : Int)], by simp; omega, by simpa using hown6, mem_snoc hin ⟨by omega, _, _, _, by simpa using HU.out, hnt⟩, hr6, hO6⟩
          case measure => simp [intOf]; omega
        · go_wp2_with fail
          go_roundw
          case rel => exact ⟨k + 1, by omega, by go_num, ts, by omega, hts, hin, hr, hOi⟩
          case measure => simp [intOf]; omega
      · obtain ⟨As, cs, rfl⟩ := own_form hts
        have hsz := hOi.size
        by_cases hts0 : ts.length = 0
        · have hovr := own_only HO.out.2.2.1 hOi hlt1
          have hO' := HO.out.2.2.2.2.1.trans hOi
          go_wp2_with fail
          go_ret
          exact ⟨_, n, xs, p3, rfl, own_base hovr (by omega), by omega, hr, by omega, hO'⟩
        · go_wp2_with fail
          refine (pick_any rb p3 _ _ hr (by omega) (by omega)).mono ?_
          rintro e w4 ⟨pv, rfl, hr4, _, hpv, ho4⟩
          obtain ⟨hpv0, hpv1⟩ := hpv (by omega)
          have hso := HO.out.2.2.2.2.1.size
          have hs4 := ho4.size
          obtain ⟨b, off, x, hAs, _, hx, hc4⟩ := (RInts.of_own (own_only hts ho4 (by omega)) (by omega)).at_ (k := pv.toNat) (by omega)
          subst hAs
          obtain ⟨hx0, A, nt, ct, hvx, hnt⟩ := hin x (List.mem_of_getElem? hx)
          obtain ⟨X, rfl⟩ := Int.eq_ofNat_of_zero_le hx0
          rw [Int.toNat_natCast] at hvx
          have hxK : X < K := by
            have h1 := HO.out.2.2.2.2.2
            rcases Nat.lt_or_ge X vs.length with h | h
            · omega
            · rw [List.getElem?_eq_none h] at hvx; cases hvx
          have hlw4 := own_only (own_only HO.out.1 hOi hlt) ho4 hlt
          obtain ⟨g, cl', hve, hg1, hg2⟩ := own_block hlw4 (by omega)
          injection hve with hA _ hc
          subst hA; subst hc
          have hcell4 : w4.cell? ⟨g, X, none⟩ = some (.slice A nt ct) := by rw [hlw4.cellAt X (by omega)]; exact hvx
          have HU := Lib.hid hvx
          have hnt5 := row_len (HO.out.2.1 _ (List.mem_of_getElem? hvx))
          clear hvx hx hin hlw4 hts
          by_cases hsw : sw = 0
          · go_wp2_with fail
            refine (pick_any rb _ _ _ hr4 (by omega) (by omega)).mono ?_
            rintro e w5 ⟨pk, rfl, hr5, _, hpk, ho5⟩
            obtain ⟨hpk0, hpk1⟩ := hpk (by omega)
            obtain ⟨k, rfl⟩ := Int.eq_ofNat_of_zero_le hpk0
            have hs5 := ho5.size
            have ho45 := ho4.trans ho5
            have hlwf := own_only (own_only HO.out.1 hOi hlt) ho45 hlt
            have hcell5 : w5.cell? ⟨g, X, none⟩ = some (.slice A nt ct) := by rw [hlwf.cellAt X (by omega)]; exact HU.out
            have hov5 := own_only (own_only HO.out.2.2.1 hOi hlt1) ho45 hlt1
            have hrows5 := (HO.out.2.1.only hOi (by omega) hlt).only ho45 (by omega) hlt
            obtain ⟨A', n', c', ys, hv', hnc, hn5, hro, _⟩ := hrows5 _ (List.mem_of_getElem? HU.out)
            injection hv' with e1 e2 e3
            subst e1; subst e2; subst e3
            have hro' := hro.take (k := 1 + k) (by omega)
            have HR := Lib.hid (And.intro hlwf (And.intro hrows5 (And.intro hov5 hro')))
            clear hlwf hrows5 hro hro'
            go_wp2_with (at_builtin; refine app_ops (.tmp 56) (.tmp 62) hov5 (by omega) HR.out.2.2.2 (by omega) rfl rfl rfl rfl ?_; intro v6 w6 hown6 hg6 hat6; obtain ⟨hgood, hcell6, hfr6⟩ := good_step (k := 1 + k) (P := 50100) hlt hK4 HR.out.1 HR.out.2.1 (by omega) hov5 (by omega) hsum hr5 ((HO.out.2.2.2.2.1.trans hOi).trans ho45) HU.out (by omega) (by omega) hown6 hg6 (by omega))
            all_goals
              go_roundw
              case rel =>
                first
                  | (have e : ct = 1 + k := by assumption
                     rw [if_pos e, show ct - (1 + k) = 0 from by omega] at hgood
                     exact hgood)
                  | (rw [if_neg (by omega)] at hgood
                     exact hgood)
              case measure =>
                have e6 := own_len hown6
                have e5 := own_len hov5
                omega
          · have hlwf := own_only (own_only HO.out.1 hOi hlt) ho4 hlt
            have hcell5 : w4.cell? ⟨g, X, none⟩ = some (.slice A nt ct) := by rw [hlwf.cellAt X (by omega)]; exact HU.out
            have hov5 := own_only (own_only HO.out.2.2.1 hOi hlt1) ho4 hlt1
            have hrows5 := (HO.out.2.1.only hOi (by omega) hlt).only ho4 (by omega) hlt
            obtain ⟨A', n', c', ys, hv', hnc, hn5, hro, _⟩ := hrows5 _ (List.mem_of_getElem? HU.out)
            injection hv' with e1 e2 e3
            subst e1; subst e2; subst e3
            have hro' := hro.take (k := 1) (by omega)
            have HR := Lib.hid (And.intro hlwf (And.intro hrows5 (And.intro hov5 hro')))
            clear hlwf hrows5 hro hro'
            go_wp2_with (at_builtin; refine app_ops (.tmp 56) (.tmp 62) hov5 (by omega) HR.out.2.2.2 (by omega) rfl rfl rfl rfl ?_; intro v6 w6 hown6 hg6 hat6; obtain ⟨hgood, hcell6, hfr6⟩ := good_step (k := 1) (P := 50100) hlt hK4 HR.out.1 HR.out.2.1 (by omega) hov5 (by omega) hsum hr4 ((HO.out.2.2.2.2.1.trans hOi).trans ho4) HU.out (by omega) (by omega) hown6 hg6 (by omega))
            all_goals
              go_roundw
              case rel =>
                first
                  | (have e : ct = 1 := by assumption
                     rw [if_pos e, show ct - (1) = 0 from by omega] at hgood
                     exact hgood)
                  | (rw [if_neg (by omega)] at hgood
                     exact hgood)
              case measure =>
                have e6 := own_len hown6
                have e5 := own_len hov5
                omega
end Go.Proofs.Ytmookobaljcpbaa
namespace Go.Proofs.Ytmookobaljcpbaa
open Go.RowKit Go.BigFrame
set_option linter.unusedVariables false

theorem opCells_set (xs : List OpV) : ∀ (i : Nat) (o : OpV), xs[i]? = some o → ∀ v : Int,
    (opCells xs).set (i * 3) (.int .i64 v) = opCells (xs.set i ⟨v, o.kind, o.item⟩) ∧ (opCells xs).set (i * 3 + 1) (.int .i64 v) = opCells (xs.set i ⟨o.tx, v, o.item⟩) ∧
    (opCells xs).set (i * 3 + 2) (.int .i64 v) = opCells (xs.set i ⟨o.tx, o.kind, v⟩) := by
  induction xs with
  | nil => intro i o h; simp at h
  | cons x r ih =>
    intro i o h v
    cases i with
    | zero => simp at h; subst h; simp [opCells]
    | succ i =>
      obtain ⟨h0, h1, h2⟩ := ih i o (by simpa using h) v
      have e : (i + 1) * 3 = i * 3 + 3 := by omega
      refine ⟨?_, ?_, ?_⟩
      · rw [e]; simp [opCells, h0]
      · rw [e]; simp [opCells, h1]
      · rw [e]; simp [opCells, h2]

def BentPost (w0 : World) (rb L n : Nat) (v : Value) (e : Ending) (w : World) : Prop :=
  ∃ (xs : List OpV) (p : Nat), e = .returned v ∧ w.ownsRow L 55 3 v n (opCells xs) ∧ Rd w rb p ∧ p ≤ 80000 ∧ Only rb w0 w

theorem bent_step {w0 w : World} {rb L n p g c : Nat} {xs : List OpV} (hown : w.ownsRow L 55 3 (.slice (some ⟨g, 0, none⟩) n c) n (opCells xs)) (hr : Rd w rb p) (hp : p ≤ 80000) (hO : Only rb w0 w)
    (hL : w0.heap.size ≤ L) (hrb : rb < w0.heap.size) (i : Nat) (hi : i < n) (v : Int) :
    BentPost w0 rb L n (.slice (some ⟨g, 0, none⟩) n c) (.returned (.slice (some ⟨g, 0, none⟩) n c)) (w.setCell ⟨g, i * 3, none⟩ (.int .i64 v)) ∧
    BentPost w0 rb L n (.slice (some ⟨g, 0, none⟩) n c) (.returned (.slice (some ⟨g, 0, none⟩) n c)) (w.setCell ⟨g, i * 3 + 1, none⟩ (.int .i64 v)) ∧
    BentPost w0 rb L n (.slice (some ⟨g, 0, none⟩) n c) (.returned (.slice (some ⟨g, 0, none⟩) n c)) (w.setCell ⟨g, i * 3 + 2, none⟩ (.int .i64 v)) := by
  have hl := hown.1
  rw [length_opCells] at hl
  have e : xs[i]? = some (xs[i]'(by omega)) := List.getElem?_eq_getElem (by omega)
  have hset := opCells_set xs i _ e v
  have hg := World.ownsRow.lt hown g rfl
  have hk : ∀ j, Rd (w.setCell ⟨g, j, none⟩ (.int .i64 v)) rb p ∧ Only rb w0 (w.setCell ⟨g, j, none⟩ (.int .i64 v)) := fun j =>
    ⟨hr.grown (hown.stored j _).2 fun k hk => by injection hk with hk; omega, hO.grown (hown.stored j _).2 fun k hk => by injection hk with hk; omega⟩
  have h0 := (hown.stored (i * 3) (.int .i64 v)).1
  have h1 := (hown.stored (i * 3 + 1) (.int .i64 v)).1
  have h2 := (hown.stored (i * 3 + 2) (.int .i64 v)).1
  rw [hset.1] at h0
  rw [hset.2.1] at h1
  rw [hset.2.2] at h2
  exact ⟨⟨_, p, rfl, h0, (hk _).1, hp, (hk _).2⟩, ⟨_, p, rfl, h1, (hk _).1, hp, (hk _).2⟩, ⟨_, p, rfl, h2, (hk _).1, hp, (hk _).2⟩⟩

theorem own_cells3 {w : World} {L n c g : Nat} {xs : List OpV} (hown : w.ownsRow L 55 3 (.slice (some ⟨g, 0, none⟩) n c) n (opCells xs)) {i : Nat} (hi : i < n) : ∃ o : OpV,
    w.cell? ⟨g, i * 3, none⟩ = some (.int .i64 o.tx) ∧ w.cell? ⟨g, i * 3 + 1, none⟩ = some (.int .i64 o.kind) ∧ w.cell? ⟨g, i * 3 + 2, none⟩ = some (.int .i64 o.item) := by
  have hl := hown.1
  rw [length_opCells] at hl
  have e : xs[i]? = some (xs[i]'(by omega)) := List.getElem?_eq_getElem (by omega)
  obtain ⟨c0, c1, c2⟩ := opCells_at xs i _ e
  exact ⟨_, (hown.cellAt _ (by omega)).trans c0, (hown.cellAt _ (by omega)).trans c1, (hown.cellAt _ (by omega)).trans c2⟩

set_option maxRecDepth 100000 in
set_option maxHeartbeats 2000000 in
theorem bent_any (rb p L n c : Nat) (A : Option Addr) (xs : List OpV) (w0 w : World) (h : Rd w rb p) (hp : p ≤ 70000) (hown : w.ownsRow L 55 3 (.slice A n c) n (opCells xs)) (hn : n ≤ 20) (hO : Only rb w0 w)
    (hL : w0.heap.size ≤ L) (hrb : rb < w0.heap.size) :
    Calls Try.prog 72 #[.pointer (some ⟨rb, 0, none⟩), .slice A n c] w (BentPost w0 rb L n (.slice A n c)) := by
  have hsz := hO.size
  go_enter Try.func72, Try.ntmps72
  go_wp2_with fail
  refine (pick_any rb p 40 w h (by omega) (by omega)).mono ?_
  rintro e w1 ⟨k, rfl, hr1, _, _, ho1⟩
  have hown1 := own_only hown ho1 (by omega)
  have hO1 := hO.trans ho1
  have hend : Hid (BentPost w0 rb L n (.slice A n c) (.returned (.slice A n c)) w1) := ⟨xs, _, rfl, hown1, hr1, by omega, hO1⟩
  by_cases hn0 : 0 < n
  · obtain ⟨g, c', hve, hg1, hg2⟩ := own_block hown1 hn0
    injection hve with hA _ hc
    subst hA; subst hc
    clear hown
    by_cases h0 : k = 0
    · go_wp2_with fail
      refine (pick_any rb _ _ _ hr1 (by omega) (by omega)).mono ?_
      rintro e w2 ⟨i, rfl, hr2, _, hi, ho2⟩
      obtain ⟨hi0, hi1⟩ := hi (by omega)
      obtain ⟨i, rfl⟩ := Int.eq_ofNat_of_zero_le hi0
      have hown2 := own_only hown1 ho2 (by omega)
      have hs2 := ho2.size
      have hlt2 := hr2.lt
      go_wp2_with fail
      refine (one_any rb _ _ _ _ _ _ (hr2.alloc _) (by omega) (lit3 rfl 4 (-1) 2) (by omega) (far_lit hlt2)).mono ?_
      rintro e w3 ⟨v, rfl, _, hr3, ho3⟩
      have hown3 := own_only (hown2.alloc _) ho3 (by omega)
      have hst := (bent_step hown3 hr3 (by omega) (((hO1.trans ho2).alloc _).trans ho3) hL hrb i (by omega) v).2.1
      obtain ⟨o, d0, d1, d2⟩ := own_cells3 hown3 (i := i) (by omega)
      have hf := hown3.frozenAt (i * 3 + 1)
      go_wp2_with fail
      go_ret
      exact hst
    · by_cases h1 : k = 1
      · go_wp2_with fail
        refine (pick_any rb _ _ _ hr1 (by omega) (by omega)).mono ?_
        rintro e w2 ⟨i, rfl, hr2, _, hi, ho2⟩
        obtain ⟨hi0, hi1⟩ := hi (by omega)
        obtain ⟨i, rfl⟩ := Int.eq_ofNat_of_zero_le hi0
        have hown2 := own_only hown1 ho2 (by omega)
        have hs2 := ho2.size
        have hlt2 := hr2.lt
        go_wp2_with fail
        refine (one_any rb _ _ _ _ _ _ (hr2.alloc _) (by omega) (lit3 rfl 4 (-1) 0) (by omega) (far_lit hlt2)).mono ?_
        rintro e w3 ⟨v, rfl, _, hr3, ho3⟩
        have hown3 := own_only (hown2.alloc _) ho3 (by omega)
        have hst := (bent_step hown3 hr3 (by omega) (((hO1.trans ho2).alloc _).trans ho3) hL hrb i (by omega) v).1
        obtain ⟨o, d0, d1, d2⟩ := own_cells3 hown3 (i := i) (by omega)
        have hf := hown3.frozenAt (i * 3)
        go_wp2_with fail
        go_ret
        exact hst
      · by_cases h2 : k = 2
        · go_wp2_with fail
          refine (pick_any rb _ _ _ hr1 (by omega) (by omega)).mono ?_
          rintro e w2 ⟨i, rfl, hr2, _, hi, ho2⟩
          obtain ⟨hi0, hi1⟩ := hi (by omega)
          obtain ⟨i, rfl⟩ := Int.eq_ofNat_of_zero_le hi0
          have hown2 := own_only hown1 ho2 (by omega)
          have hs2 := ho2.size
          have hlt2 := hr2.lt
          go_wp2_with fail
          refine (one_any rb _ _ _ _ _ _ (hr2.alloc _) (by omega) (lit3 rfl 3 (-1) 1) (by omega) (far_lit hlt2)).mono ?_
          rintro e w3 ⟨v, rfl, _, hr3, ho3⟩
          have hown3 := own_only (hown2.alloc _) ho3 (by omega)
          have hst := (bent_step hown3 hr3 (by omega) (((hO1.trans ho2).alloc _).trans ho3) hL hrb i (by omega) v).2.2
          obtain ⟨o, d0, d1, d2⟩ := own_cells3 hown3 (i := i) (by omega)
          have hf := hown3.frozenAt (i * 3 + 2)
          go_wp2_with fail
          go_ret
          exact hst
        · clear hown1 hr1 ho1 hO1
          go_wp2_with fail
          go_ret
          exact hend.out
  · have hn1 : n = 0 := by omega
    subst hn1
    clear hown hown1 hr1 ho1 hO1
    by_cases h0 : k = 0
    · go_wp2_with fail
      go_ret
      exact hend.out
    · by_cases h1 : k = 1
      · go_wp2_with fail
        go_ret
        exact hend.out
      · by_cases h2 : k = 2
        · go_wp2_with fail
          go_ret
          exact hend.out
        · go_wp2_with fail
          go_ret
          exact hend.out

/-- Some operations, at most twenty, in memory of the call's own. -/
def Drawn (w0 : World) (e : Ending) (w : World) : Prop :=
  ∃ (A : Option Addr) (n c : Nat) (xs : List OpV), e = .returned (.slice A n c) ∧ w.ownsRow w0.heap.size 55 3 (.slice A n c) n (opCells xs) ∧ n ≤ 20 ∧ Below w0.heap.size w0 w

def SomeSched (w0 : World) (rb : Nat) (e : Ending) (w : World) : Prop :=
  ∃ (A : Option Addr) (n c p : Nat) (xs : List OpV), e = .returned (.slice A n c) ∧ w.ownsRow w0.heap.size 55 3 (.slice A n c) n (opCells xs) ∧ n ≤ 20 ∧ Rd w rb p ∧ p ≤ 80000 ∧ Only rb w0 w

set_option maxHeartbeats 400000 in
theorem someSchedule_any (rb p : Nat) (w : World) (h : Rd w rb p) (hp : p ≤ 50000) :
    Calls Try.prog 40 #[.pointer (some ⟨rb, 0, none⟩)] w (SomeSched w rb) := by
  have hlt := h.lt
  go_enter Try.func40, Try.ntmps40
  go_wp2_with fail
  refine (goodSchedule_any rb p 16 w h hp (by omega)).mono ?_
  rintro e w1 ⟨v, n, xs, q, rfl, hown, hn, hr, hq, hO⟩
  obtain ⟨A, c, rfl⟩ := own_form hown
  go_wp2_with fail
  refine (bent_any rb q w.heap.size n c A xs w w1 hr (by omega) hown hn hO (Nat.le_refl _) hlt).mono ?_
  rintro e w2 ⟨xs', q', rfl, hown', hr', hq', hO'⟩
  go_wp2_with fail
  go_ret
  exact ⟨A, n, c, q', xs', rfl, hown', hn, hr', hq', hO'⟩

end Go.Proofs.Ytmookobaljcpbaa
namespace Go.Proofs.Ytmookobaljcpbaa
open Go.RowKit Go.BigFrame
set_option linter.unusedVariables false

set_option maxHeartbeats 400000 in
theorem DrawIsSerial_any (A : Option Addr) (n c : Nat) (w : World) (hx : RBytes w A n) (hc : n ≤ c) :
    Calls Try.prog 9 #[.slice A n c] w (Drawn w) := by
  go_enter Try.func9, Try.ntmps9
  go_wp2_with fail
  refine (newReader_any A n c w hx hc).mono ?_
  rintro e w1 ⟨rb, rfl, hrb, hr, hb⟩
  go_wp2_with fail
  refine (someSchedule_any rb 0 w1 hr (by omega)).mono ?_
  rintro e w2 ⟨A', n', c', p', xs, rfl, hown, hn', _, _, hO⟩
  go_wp2_with fail
  go_ret
  have hs := hb.size
  exact ⟨A', n', c', xs, rfl, own_base hown hs, hn', hb.trans ⟨hO.os, hO.tape, hO.output, hO.size, fun k hk => hO.heap (by omega) (by omega)⟩⟩

set_option maxHeartbeats 400000 in
theorem DrawStampsOf_any (A : Option Addr) (n c : Nat) (w : World) (hx : RBytes w A n) (hc : n ≤ c) :
    Calls Try.prog 16 #[.slice A n c] w (Drawn w) := by
  go_enter Try.func16, Try.ntmps16
  go_wp2_with fail
  refine (newReader_any A n c w hx hc).mono ?_
  rintro e w1 ⟨rb, rfl, hrb, hr, hb⟩
  go_wp2_with fail
  refine (someSchedule_any rb 0 w1 hr (by omega)).mono ?_
  rintro e w2 ⟨A', n', c', p', xs, rfl, hown, hn', _, _, hO⟩
  go_wp2_with fail
  go_ret
  have hs := hb.size
  exact ⟨A', n', c', xs, rfl, own_base hown hs, hn', hb.trans ⟨hO.os, hO.tape, hO.output, hO.size, fun k hk => hO.heap (by omega) (by omega)⟩⟩

end Go.Proofs.Ytmookobaljcpbaa
namespace Go.Proofs.Ytmookobaljcpbaa
open Go.RowKit Go.BigFrame
set_option linter.unusedVariables false

theorem ser_of {s : List OpV} (hv : validS s = true) : orNil (validS s && vordI s (stI s)) (serialI s (stI s)) = serialI s (stI s) := by
  rw [hv, vordI_stI hv]; rfl

set_option maxRecDepth 100000 in
set_option maxHeartbeats 2000000 in
theorem law_isSerial (A : Option Addr) (n c : Nat) (w : World) (hin : BytesIn w A n c) :
    Calls Try.prog 3 #[.slice A n c] w fun e w' => e = .returned (.bool true) ∧ Below w.heap.size w w' := by
  obtain ⟨hx, hnc⟩ := hin
  have hn := hx.1
  by_cases hbig : 1048576 < n
  · clear hx
    go_enter Try.func3, Try.ntmps3
    go_wp2_with fail
    go_ret
    exact ⟨rfl, Below.refl _ _⟩
  · have HD := Lib.hid (DrawIsSerial_any A n c w hx hnc)
    clear hx
    go_enter Try.func3, Try.ntmps3
    go_wp2_with fail
    refine HD.out.mono ?_
    rintro e w1 ⟨S, m, d, s, rfl, hown, hm, hb1⟩
    have hmd : m ≤ d := by obtain ⟨A', c', he, h⟩ := own_form2 hown; injection he with _ _ he; omega
    have HS := Lib.hid (ROps.of_own hown (by omega))
    obtain ⟨bi, hbi⟩ : ∃ bi, isSerV s = bi := ⟨_, rfl⟩
    obtain ⟨bv, hbv⟩ : ∃ bv, validS s = bv := ⟨_, rfl⟩
    have c1 : ∀ W : World, ROps W S m s → Calls Try.prog 10 #[.slice S m d] W fun e w' => e = .returned (.bool bi) ∧ Below W.heap.size W w' := fun W h => by
      have := IsSerial_any S m d s W h hmd; rw [hbi] at this; exact this
    have c2 : ∀ W : World, ROps W S m s → Calls Try.prog 11 #[.slice S m d] W fun e w' => e = .returned (.bool bi) ∧ Below W.heap.size W w' := fun W h => by
      have := sIsSerial_any S m d s W h; rw [hbi] at this; exact this
    have c3 : ∀ W : World, ROps W S m s → Calls Try.prog 12 #[.slice S m d] W fun e w' => e = .returned (.bool bv) ∧ Below W.heap.size W w' := fun W h => by
      have := ValidSchedule_any S m d s W h hmd; rw [hbv] at this; exact this
    have C1 := Lib.hid c1
    have C2 := Lib.hid c2
    have C3 := Lib.hid c3
    have HV := Lib.hid hbv
    have HI := Lib.hid hbi
    clear hown HD c1 c2 c3 hbv hbi
    go_wp2_with fail
    refine (C1.out w1 HS.out).mono ?_
    rintro e w2 ⟨rfl, hb2⟩
    have hb02 : Below w.heap.size w w2 := hb1.trans (hb2.mono hb1.size)
    have HS2 := Lib.hid (HS.out.below hb2 (Nat.le_refl _))
    clear hb2
    go_wp2_with fail
    refine (C2.out w2 HS2.out).mono ?_
    rintro e w3 ⟨rfl, hb3⟩
    have hb03 : Below w.heap.size w w3 := hb02.trans (hb3.mono hb02.size)
    have HS3 := Lib.hid (HS2.out.below hb3 (Nat.le_refl _))
    clear hb3
    have hbb : (bi == bi) = true := by simp
    cases bv
    · cases bi
      all_goals
        go_wp2_with fail
        refine (C3.out w3 HS3.out).mono ?_
        rintro e w4 ⟨rfl, hb4⟩
        have hb04 : Below w.heap.size w w4 := hb03.trans (hb4.mono hb03.size)
        have HS4 := Lib.hid (HS3.out.below hb4 (Nat.le_refl _))
        clear hb4
        go_wp2_with fail
        refine (C2.out w4 HS4.out).mono ?_
        rintro e w5 ⟨rfl, hb5⟩
        go_wp2_with fail
        go_ret
        exact ⟨rfl, hb04.trans (hb5.mono hb04.size)⟩
    · have hE : Hid ((serialI s (stI s) == s) = bi) := by
        show _ = _
        rw [serial_stamps HV.out, ← HI.out]
        unfold isSerV
        rw [HV.out, Bool.and_true]
      have c4 : ∀ W : World, ROps W S m s → Calls Try.prog 15 #[.slice S m d] W (RetInts W (stI s)) := fun W h => by
        have := StampsOf_any S m d s W h hmd; rw [HV.out] at this; exact this
      have c5 : ∀ (W : World) (T : Option Addr) (k g : Nat), ROps W S m s → RInts W T k (stI s) → (∀ ad, T = some ad → ad.block < W.heap.size) → Calls Try.prog 14 #[.slice S m d, .slice T k g] W (RetOps W (serialI s (stI s))) := fun W T k g h h2 h3 => by
        have := SerialBy_any S T m d k g s (stI s) W h hmd h2 h3; rw [ser_of HV.out] at this; exact this
      have C4 := Lib.hid c4
      have C5 := Lib.hid c5
      clear c4 c5 HI
      generalize serialI s (stI s) = rs at *
      generalize stI s = st at *
      cases bi
      all_goals
        go_wp2_with fail
        refine (C3.out w3 HS3.out).mono ?_
        rintro e w4 ⟨rfl, hb4⟩
        have hb04 : Below w.heap.size w w4 := hb03.trans (hb4.mono hb03.size)
        have HS4 := Lib.hid (HS3.out.below hb4 (Nat.le_refl _))
        clear hb4
        go_wp2_with fail
        refine (C4.out w4 HS4.out).mono ?_
        rintro e w5 ⟨T, g, rfl, hg, hf, hb5⟩
        have hb05 : Below w.heap.size w w5 := hb04.trans (hb5.mono hb04.size)
        have HS5 := Lib.hid (HS4.out.below hb5 (Nat.le_refl _))
        have HC5 := Lib.hid (C5.out w5 T _ g HS5.out hf.1 (fun ad h => hf.blk ad h))
        clear hb5 hf
        go_wp2_with fail
        refine HC5.out.mono ?_
        rintro e w6 ⟨R, r, rfl, hr, ⟨hf6, _⟩, hb6⟩
        have hb06 : Below w.heap.size w w6 := hb05.trans (hb6.mono hb05.size)
        have HE6 := Lib.hid (equalOps_any R S rs.length m r d rs s w6 hf6 (HS5.out.below hb6 (Nat.le_refl _)))
        rw [hE.out] at HE6
        clear hf6 hb6
        go_wp2_with fail
        refine HE6.out.mono ?_
        rintro e w7 ⟨rfl, hb7⟩
        go_wp2_with fail
        go_ret
        exact ⟨rfl, hb06.trans (hb7.mono hb06.size)⟩
end Go.Proofs.Ytmookobaljcpbaa
