/-
  The generator of schedules once more: its operations are valid.
-/
import Derived.Test.YtddkjbibjjehjaaDoorGen4
import Derived.Test.YtddkjbibjjehjaaDoorValid
namespace Go.Proofs.YtddkjbibjjehjaaDoor
open Go.RowKit Go.BigFrame
set_option linter.unusedVariables false

def OpsOk (xs : List OpV) : Prop := ∀ o ∈ xs, validOp o = true
theorem ops_nil : OpsOk [] := fun o h => by cases h
theorem ops_snoc {xs : List OpV} {o : OpV} (h : OpsOk xs) (ho : validOp o = true) : OpsOk (xs ++ [o]) := fun q hq => by
  rcases List.mem_append.1 hq with h1 | h1
  · exact h q h1
  · rw [List.mem_singleton.1 h1]; exact ho
theorem ops_app {xs ys : List OpV} (h : OpsOk xs) (h' : OpsOk ys) : OpsOk (xs ++ ys) := fun q hq => by
  rcases List.mem_append.1 hq with h1 | h1
  · exact h q h1
  · exact h' q h1
theorem ops_drop {xs : List OpV} (h : OpsOk xs) (k : Nat) : OpsOk (xs.drop k) := fun q hq => h q (List.mem_of_mem_drop hq)
theorem ops_take {xs : List OpV} (h : OpsOk xs) (k : Nat) : OpsOk (xs.take k) := fun q hq => h q (List.mem_of_mem_take hq)
theorem valid_acc {t k x : Int} (ht : 0 ≤ t ∧ t ≤ 3) (hk : k ∈ ([0, 1, 0, 1] : List Int)) {m : Int} (hx : 0 ≤ x ∧ x < m) (hm : m ≤ 3) : validOp ⟨t, k, x⟩ = true := by
  simp only [List.mem_cons, List.not_mem_nil, or_false] at hk
  have hx2 : x ≤ 2 := by omega
  rcases hk with rfl | rfl | rfl | rfl <;> simp [validOp, inR, isAcc, isEnd, ht.1, ht.2, hx.1, hx2]
theorem valid_end {t k : Int} (ht : 0 ≤ t ∧ t ≤ 3) (hk : k ∈ ([2, 2, 2, 2, 2, 3] : List Int)) : validOp ⟨t, k, 0⟩ = true := by
  simp only [List.mem_cons, List.not_mem_nil, or_false] at hk
  rcases hk with rfl | rfl | rfl | rfl | rfl | rfl <;> simp [validOp, inR, isAcc, isEnd, ht.1, ht.2]
/-- A value that is a row of at most five operations, its block between lo and hi. -/
def RowVW (w : World) (lo hi : Nat) (v : Value) : Prop :=
  ∃ (A : Option Addr) (n c : Nat) (xs : List OpV), v = .slice A n c ∧ n ≤ c ∧ n ≤ 5 ∧ (ROps w A n xs ∧ OpsOk xs) ∧
    ∀ ad, A = some ad → lo ≤ ad.block ∧ ad.block < hi ∧ ∃ cs fr, w.heap[ad.block]? = some (.cells cs 38 fr)
def RowsVW (w : World) (lo hi : Nat) (vs : List Value) : Prop := ∀ v ∈ vs, RowVW w lo hi v
theorem RowVW.keep {w w' : World} {lo hi : Nat} {v : Value} (h : RowVW w lo hi v) (hk : ∀ b, lo ≤ b → b < hi → (∃ cs fr, w.heap[b]? = some (.cells cs 38 fr)) → w'.heap[b]? = w.heap[b]?)
    (hs : w.heap.size ≤ w'.heap.size) : RowVW w' lo hi v := by
  obtain ⟨A, n, c, xs, hv, hnc, hn, ⟨⟨h1, h2, h3⟩, hit⟩, hA⟩ := h
  refine ⟨A, n, c, xs, hv, hnc, hn, ⟨⟨h1, h2, fun h0 => ?_⟩, hit⟩, fun ad had => ?_⟩
  · obtain ⟨b, off, rfl, hb, hc⟩ := h3 h0
    obtain ⟨a1, a2, a3⟩ := hA _ rfl
    have hh := hk b a1 a2 a3
    refine ⟨b, off, rfl, by omega, fun i o ho => ?_⟩
    obtain ⟨c0, c1, c2⟩ := hc i o ho
    exact ⟨(World.cell?_of_block (w := w) (a := ⟨b, _, none⟩) hh).trans c0, (World.cell?_of_block (w := w) (a := ⟨b, _, none⟩) hh).trans c1, (World.cell?_of_block (w := w) (a := ⟨b, _, none⟩) hh).trans c2⟩
  · obtain ⟨a1, a2, cs, fr, a3⟩ := hA _ had
    exact ⟨a1, a2, cs, fr, (hk _ a1 a2 ⟨cs, fr, a3⟩).trans a3⟩
theorem RowVW.wider {w : World} {lo hi hi' : Nat} {v : Value} (h : RowVW w lo hi v) (hh : hi ≤ hi') : RowVW w lo hi' v := by
  obtain ⟨A, n, c, xs, hv, hnc, hn, hr, hA⟩ := h
  exact ⟨A, n, c, xs, hv, hnc, hn, hr, fun ad had => ⟨(hA ad had).1, by have := (hA ad had).2.1; omega, (hA ad had).2.2⟩⟩
theorem RowsVW.keep {w w' : World} {lo hi : Nat} {vs : List Value} (h : RowsVW w lo hi vs) (hk : ∀ b, lo ≤ b → b < hi → (∃ cs fr, w.heap[b]? = some (.cells cs 38 fr)) → w'.heap[b]? = w.heap[b]?)
    (hs : w.heap.size ≤ w'.heap.size) : RowsVW w' lo hi vs := fun v hv => (h v hv).keep hk hs
/-- An own row of operations, as a row value. -/
theorem RowVW.of_own {w : World} {lo base c n : Nat} {A : Option Addr} {xs : List OpV} (h : w.ownsRow base 38 3 (.slice A n c) n (opCells xs)) (hlo : lo ≤ base) (hn : n ≤ 5) (hit : OpsOk xs) : RowVW w lo w.heap.size (.slice A n c) := by
  refine ⟨A, n, c, xs, rfl, ?_, hn, ⟨ROps.of_own h (by omega), hit⟩, fun ad had => ?_⟩
  · rcases h.2 with ⟨h1, h2⟩ | ⟨g, cap, cur, h1, h2, h3, h4, h5, h6, h7⟩
    · omega
    · injection h1 with _ _ hc
      subst hc
      exact h4
  · subst had
    rcases h.2 with ⟨h1, h2⟩ | ⟨g, cap, cur, h1, h2, h3, h4, h5, h6, h7⟩
    · cases h1
    · injection h1 with ha _ _
      injection ha with ha
      subst ha
      exact ⟨by simp; omega, lt_of_block h3, cur, _, h3⟩
theorem RowsVW.only {w w' : World} {rb lo hi : Nat} {vs : List Value} (h : RowsVW w lo hi vs) (ho : Only rb w w') (hhi : hi ≤ w.heap.size) (hrb : rb < lo) : RowsVW w' lo hi vs :=
  h.keep (fun b h1 h2 _ => ho.heap (by omega) (by omega)) ho.size
theorem RowsVW.grown {w w' : World} {lo hi L : Nat} {vs : List Value} {size n : Nat} {v : Value} {xs : List Value} (h : RowsVW w lo hi vs) (hown : w.ownsRow L 22 size v n xs) (hg : w.grownBy w' v.ownBlock) (hhi : hi ≤ w.heap.size) : RowsVW w' lo hi vs := by
  refine h.keep (fun b h1 h2 h3 => hg.block b (by omega) (fun e => ?_)) hg.size
  obtain ⟨cs, fr, h3⟩ := h3
  rcases hown.2 with ⟨h4, h5⟩ | ⟨g, cap, cur, h4, _, h6, _⟩
  · rw [h4] at e; simp [Value.ownBlock] at e
  · rw [h4] at e
    simp [Value.ownBlock] at e
    subst e
    rw [h3] at h6
    injection h6 with h6
    injection h6 with _ h6 _
    exact absurd h6 (by decide)
/-- What the inner loop of 'programs' carries. -/
def InnerW (ws : World) (rb p0 : Nat) (v : Value) (k left : Int) (w : World) : Prop :=
  ∃ (n : Nat) (xs : List OpV) (p : Nat), w.ownsRow ws.heap.size 38 3 v n (opCells xs) ∧ 0 ≤ k ∧ n + k.toNat ≤ 4 ∧ 0 ≤ left ∧ left ≤ 16 ∧ Rd w rb p ∧ p ≤ p0 + 2 * n ∧ Only rb ws w ∧ OpsOk xs
/-- What the outer loop of 'programs' carries. -/
def OuterW (w0 : World) (rb p0 : Nat) (v : Value) (left : Int) (vs : List Value) (w : World) : Prop :=
  ∃ p : Nat, w.ownsRow w0.heap.size 22 1 v vs.length vs ∧ vs.length ≤ 4 ∧ RowsVW w w0.heap.size w.heap.size vs ∧ 0 ≤ left ∧ left ≤ 16 ∧ Rd w rb p ∧ p ≤ p0 + 20 * vs.length ∧ Only rb w0 w
def ProgramsW (w0 : World) (rb p0 : Nat) (e : Ending) (w : World) : Prop :=
  ∃ (v : Value) (vs : List Value) (left : Int), e = .returned v ∧ OuterW w0 rb p0 v left vs w
/-- What a round of the outer loop comes to. -/
theorem outer_stepW {w0 wr w w1 w' : World} {rb p0 p' n : Nat} {v lv v' : Value} {vs : List Value} {xs : List OpV} {left : Int} (hown : wr.ownsRow w0.heap.size 22 1 v vs.length vs)
    (hrows : RowsVW wr w0.heap.size wr.heap.size vs) (hO : Only rb w0 wr) (hrb : rb < w0.heap.size) (hO3 : Only rb wr w) (hl : w.ownsRow wr.heap.size 38 3 lv n (opCells xs)) (hn : n ≤ 5) (hit : OpsOk xs)
    (ob : Obj) (hw1 : w1 = w.alloc ob) (hown' : w'.ownsRow w0.heap.size 22 1 v' (vs.length + 1) (vs ++ [lv])) (hg : w1.grownBy w' v.ownBlock) (hr : Rd w rb p') (hv : vs.length < 4)
    (h0 : 0 ≤ left) (h1 : left ≤ 16) (hp : p' ≤ p0 + 20 * (vs.length + 1)) : OuterW w0 rb p0 v' left (vs ++ [lv]) w' := by
  have hsz := hO.size
  have hsz3 := hO3.size
  have hownw : w1.ownsRow w0.heap.size 22 1 v vs.length vs := by rw [hw1]; exact World.ownsRow.alloc (own_only hown hO3 hrb) _
  have hsz1 : w1.heap.size = w.heap.size + 1 := by rw [hw1]; simp
  obtain ⟨A, c, rfl⟩ := own_form hl
  have hlv : RowVW w w0.heap.size w.heap.size (.slice A n c) := RowVW.of_own hl (by omega) hn hit
  have hlv1 : RowsVW w1 w0.heap.size w.heap.size [.slice A n c] := by
    intro u hu
    simp at hu
    subst hu
    rw [hw1]
    exact hlv.keep (fun b h1 h2 _ => Below.heap_alloc _ _ _ h2) (by simp)
  have hlv2 := hlv1.grown hownw hg (by omega)
  have hvs1 : RowsVW w1 w0.heap.size wr.heap.size vs := by
    rw [hw1]
    exact (hrows.only hO3 (Nat.le_refl _) hrb).keep (fun b h1 h2 _ => Below.heap_alloc _ _ _ (by omega)) (by simp)
  have hvs2 := hvs1.grown hownw hg (by omega)
  have hgs := hg.size
  refine ⟨p', by simpa using hown', by simp; omega, ?_, h0, h1, ?_, by simp; omega, ?_⟩
  · intro u hu
    simp only [List.mem_append, List.mem_singleton] at hu
    rcases hu with hu | hu
    · exact (hvs2 u hu).wider (by omega)
    · exact (hlv2 u (by simp [hu])).wider (by omega)
  · exact Rd.grown (w := w1) (by rw [hw1]; exact hr.alloc _) hg fun k hk => by have := (World.ownsRow.lt hownw k hk).1; omega
  · have : Only rb w0 w1 := by rw [hw1]; exact (hO.trans hO3).alloc _
    exact this.own hownw (Nat.le_refl _) hg
set_option maxHeartbeats 2000000 in
theorem programsW_any (B : Nat) (hB : B ≤ 60000) (rb p most : Nat) (w0 : World) (h : Rd w0 rb p) (hp : p ≤ B) (hm : most ≤ 16) :
    Calls Tryd.prog 47 #[.pointer (some ⟨rb, 0, none⟩), .int .i64 (most : Int)] w0 (ProgramsW w0 rb (p + 2)) := by
  have hlt := h.lt
  go_enter Tryd.func47, Tryd.ntmps47
  go_wp2_with fail
  refine (one_any rb p _ _ _ _ _ ((h.alloc _).alloc _) (by omega) (lit3 (by simp) 2 3 1) (by omega) (far_lit (by omega))).mono ?_
  rintro e w1 ⟨items, rfl, hi, hr1, ho1⟩
  go_wp2_with fail
  have hlt1 := hr1.lt
  refine (one_any rb _ _ _ _ _ _ (hr1.alloc _) (by omega) (lit5 rfl 3 2 4 3 1) (by omega) (far_lit hlt1)).mono ?_
  rintro e w2 ⟨n, rfl, hn, hr2, ho2⟩
  have hown : w2.ownsRow w0.heap.size 22 1 (.slice (some ⟨w0.heap.size, 0, none⟩) 0 0) 0 [] :=
    own_only (World.ownsRow.alloc (own_only (World.ownsRow.alloc (World.ownsRow_made w0 #[] 0 (Nat.le_refl _) (by decide) rfl) _) ho1 hlt) _) ho2 hlt
  have hO : Only rb w0 w2 := (((Only.refl rb w0).alloc _).alloc _).trans ho1 |>.trans (((Only.refl rb w1).alloc _).trans ho2)
  have hn4 : 1 ≤ n ∧ n ≤ 4 := by simp at hn; omega
  have hi4 : 1 ≤ items ∧ items ≤ 3 := by simp at hi; omega
  have HST : Hid (OuterW w0 rb (p + 2) (.slice (some ⟨w0.heap.size, 0, none⟩) 0 0) (most : Int) [] w2) :=
    ⟨p + 1 + 1, hown, by simp, by intro v hv; simp at hv, by omega, by omega, hr2, by simp, hO⟩
  clear hown hO hr2 hr1 ho1 ho2 hn hi
  go_wp2_with fail
  go_loopw [5, 6] (fun v l w => ∃ (left : Int) (vs : List Value), l = .int .i64 left ∧ (vs.length : Int) ≤ n ∧ OuterW w0 rb (p + 2) v left vs w) (fun v _ _ => 4 - lenOf v)
  case atStart => exact ⟨(most : Int), [], rfl, by simp; try omega, HST.out⟩
  case round =>
    obtain ⟨wo, rfl⟩ : ∃ wo : World, wo = wr := ⟨_, rfl⟩
    obtain ⟨left, vs, rfl, hvn, q, hown, hv4, hrows, hl0, hl1, hr, hq, hO⟩ := hrel
    obtain ⟨A, c, rfl⟩ := own_form hown
    have hlr := hr.lt
    by_cases hlen : (vs.length : Int) < n
    · go_wp2_with fail
      refine (one_any rb q _ _ _ _ _ ((hr.alloc _).alloc _) (by omega) (lit4 (by simp) 2 3 1 4) (by omega) (far_lit (by omega))).mono ?_
      rintro e w3 ⟨k, rfl, hk, hr3, ho3⟩
      have hk4 : 1 ≤ k ∧ k ≤ 4 := by simp at hk; omega
      have HIN : Hid (InnerW wo rb (q + 1) (.slice (some ⟨wo.heap.size, 0, none⟩) 0 0) k left w3) :=
        ⟨0, [], q + 1, own_only (World.ownsRow.alloc (World.ownsRow_made wo #[] 0 (Nat.le_refl _) (by decide) rfl) _) ho3 hlr, by omega, by omega, hl0, hl1, hr3, by omega,
          (((Only.refl rb wo).alloc _).alloc _).trans ho3, ops_nil⟩
      have HOUT := Lib.hid (And.intro hown (And.intro hrows (And.intro hO hr)))
      clear hown hrows hO hr hr3 ho3 hk
      go_wp2_with fail
      go_loopw [6, 10, 11] (fun l v k w => ∃ (left k' : Int), l = .int .i64 left ∧ k = .int .i64 k' ∧ InnerW wo rb (q + 1) v k' left w) (fun _ _ k _ => (intOf k).toNat)
      case atStart => exact ⟨left, k, rfl, rfl, HIN.out⟩
      case round =>
        clear HIN
        obtain ⟨left, k, rfl, rfl, nx, xs, q3, hown, hk0, hk1, hl0, hl1, hr, hq3, hO, hitm⟩ := hrel
        by_cases hkk : 0 < k
        · by_cases hll : 1 < left
          · go_wp2_with fail
            have hlrr := hr.lt
            refine (one_any rb _ _ _ _ _ _ (hr.alloc _) (by omega) (lit4 rfl 0 1 0 1) (by omega) (far_lit hlrr)).mono ?_
            rintro e w4 ⟨kd, rfl, hkd, hr4, ho4⟩
            go_wp2_with fail
            refine (pick_any rb _ items _ hr4 (by omega) (by omega)).mono ?_
            rintro e w5 ⟨it, rfl, hr5, _, hit, ho5⟩
            have hO5 := ((hO.alloc _).trans ho4).trans ho5
            have HVO := Lib.hid (valid_acc (t := (vs.length : Int)) (by omega) hkd (hit (by omega)) hi4.2)
            have hown5 := own_only (own_only (hown.alloc _) ho4 hlr) ho5 hlr
            have hs5 := hO5.size
            go_wp2_with (at_builtin; refine app_ops (.tmp 38) (.tmp 47) (hown5.alloc _) (by simp; omega) (ROps.lit1 _ ⟨_, _, _⟩ _) (by omega) rfl rfl rfl rfl ?_; intro v6 w6 hown6 hg6 hat6)
            have hg6' := World.grownBy.trans (World.grownBy_alloc w5 _ _) hg6
            have hO6 := hO5.own hown5 (Nat.le_refl _) hg6'
            have hr6 := hr5.grown hg6' fun k hk => by have := (World.ownsRow.lt hown5 k hk).1; omega
            go_wp2_with fail
            go_roundw
            case rel => exact ⟨left - 1, k - 1, rfl, rfl, nx + 1, _, _, hown6, by omega, by omega, by omega, by omega, hr6, by omega, hO6, ops_snoc hitm HVO.out⟩
            case measure => simp [intOf]; omega
          · skip
            obtain ⟨Al, cl, rfl⟩ := own_form hown
            by_cases hlp : 0 < left
            · go_wp2_with fail
              refine (pick_any rb _ 10 _ hr (by omega) (by omega)).mono ?_
              rintro e w4 ⟨pv, rfl, hr4, _, _, ho4⟩
              have hown4 := own_only hown ho4 hlr
              have hO4 := hO.trans ho4
              have hlr4 := hr4.lt
              have hgo4 : w4.ownsRow w0.heap.size 22 1 (.slice A vs.length c) vs.length vs := own_only HOUT.out.1 hO4 hlt
              have hs4 := hO4.size
              have hs0 := HOUT.out.2.2.1.size
              by_cases hpv : 0 < pv
              · go_wp2_with fail
                refine (one_any rb _ _ _ _ _ _ (hr4.alloc _) (by omega) (lit6 rfl 2 2 2 2 2 3) (by omega) (far_lit hlr4)).mono ?_
                rintro e w5 ⟨kd, rfl, hkd, hr5, ho5⟩
                have hown5 := own_only (hown4.alloc _) ho5 hlr
                have HVE := Lib.hid (valid_end (t := (vs.length : Int)) (by omega) hkd)
                have hO5 := (hO4.alloc _).trans ho5
                have hgo5 := own_only (hgo4.alloc _) ho5 hlt
                have hs5 := hO5.size
                go_wp2_with (first | (at_builtin; refine app_ops (.tmp 58) (.tmp 64) (hown5.alloc _) (by simp; omega) (ROps.lit1 _ ⟨_, _, _⟩ _) (by omega) rfl rfl rfl rfl ?_; intro v6 w6 hown6 hg6 hat6; obtain ⟨A6, c6, rfl⟩ := own_form hown6; have hg6' := World.grownBy.trans (World.grownBy_alloc w5 _ _) hg6; have hO6 := hO5.own hown5 (Nat.le_refl _) hg6'; have hr6 := hr5.grown hg6' (fun k hk => by have := (World.ownsRow.lt hown5 k hk).1; omega); have hgo6 := own_only HOUT.out.1 hO6 hlt; have hs6 := hO6.size) | (at_builtin; refine app_row (.tmp 68) (.tmp 70) (hgo6.alloc _) (by simp; omega) (own_one hown6) (heap_alloc_new _ _) (by omega) rfl rfl rfl rfl ?_; intro v7 w7 hown7 hg7))
                have hout := outer_stepW (left := left - 1) (p0 := p + 2) HOUT.out.1 HOUT.out.2.1 HOUT.out.2.2.1 hlt hO6 hown6 (by omega) (ops_snoc hitm HVE.out) _ rfl hown7 hg7 hr6 (by omega) (by omega) (by omega) (by omega)
                go_wp2_with fail
                go_roundw
                case rel => exact ⟨left - 1, vs ++ [_], rfl, by simp; omega, hout⟩
                case measure => obtain ⟨q7, h7, _⟩ := hout; obtain ⟨A7, c7, rfl⟩ := own_form h7; simp [lenOf]; omega
              · go_wp2_with (at_builtin; refine app_row (.tmp 68) (.tmp 70) (hgo4.alloc _) (by simp; omega) (own_one hown4) (heap_alloc_new _ _) (by omega) rfl rfl rfl rfl ?_; intro v7 w7 hown7 hg7)
                have hout := outer_stepW (left := left) (p0 := p + 2) HOUT.out.1 HOUT.out.2.1 HOUT.out.2.2.1 hlt hO4 hown4 (by omega) hitm _ rfl hown7 hg7 hr4 (by omega) (by omega) (by omega) (by omega)
                go_wp2_with fail
                go_roundw
                case rel => exact ⟨left, vs ++ [_], rfl, by simp; omega, hout⟩
                case measure => obtain ⟨q7, h7, _⟩ := hout; obtain ⟨A7, c7, rfl⟩ := own_form h7; simp [lenOf]; omega
            · have hgo4 : wr.ownsRow w0.heap.size 22 1 (.slice A vs.length c) vs.length vs := own_only HOUT.out.1 hO hlt
              have hs4 := hO.size
              have hs0 := HOUT.out.2.2.1.size
              go_wp2_with (at_builtin; refine app_row (.tmp 68) (.tmp 70) (hgo4.alloc _) (by simp; omega) (own_one hown) (heap_alloc_new _ _) (by omega) rfl rfl rfl rfl ?_; intro v7 w7 hown7 hg7)
              have hout := outer_stepW (left := left) (p0 := p + 2) HOUT.out.1 HOUT.out.2.1 HOUT.out.2.2.1 hlt hO hown (by omega) hitm _ rfl hown7 hg7 hr (by omega) (by omega) (by omega) (by omega)
              go_wp2_with fail
              go_roundw
              case rel => exact ⟨left, vs ++ [_], rfl, by simp; omega, hout⟩
              case measure => obtain ⟨q7, h7, _⟩ := hout; obtain ⟨A7, c7, rfl⟩ := own_form h7; simp [lenOf]; omega

        · skip
          obtain ⟨Al, cl, rfl⟩ := own_form hown
          by_cases hlp : 0 < left
          · go_wp2_with fail
            refine (pick_any rb _ 10 _ hr (by omega) (by omega)).mono ?_
            rintro e w4 ⟨pv, rfl, hr4, _, _, ho4⟩
            have hown4 := own_only hown ho4 hlr
            have hO4 := hO.trans ho4
            have hlr4 := hr4.lt
            have hgo4 : w4.ownsRow w0.heap.size 22 1 (.slice A vs.length c) vs.length vs := own_only HOUT.out.1 hO4 hlt
            have hs4 := hO4.size
            have hs0 := HOUT.out.2.2.1.size
            by_cases hpv : 0 < pv
            · go_wp2_with fail
              refine (one_any rb _ _ _ _ _ _ (hr4.alloc _) (by omega) (lit6 rfl 2 2 2 2 2 3) (by omega) (far_lit hlr4)).mono ?_
              rintro e w5 ⟨kd, rfl, hkd, hr5, ho5⟩
              have hown5 := own_only (hown4.alloc _) ho5 hlr
              have HVE := Lib.hid (valid_end (t := (vs.length : Int)) (by omega) hkd)
              have hO5 := (hO4.alloc _).trans ho5
              have hgo5 := own_only (hgo4.alloc _) ho5 hlt
              have hs5 := hO5.size
              go_wp2_with (first | (at_builtin; refine app_ops (.tmp 58) (.tmp 64) (hown5.alloc _) (by simp; omega) (ROps.lit1 _ ⟨_, _, _⟩ _) (by omega) rfl rfl rfl rfl ?_; intro v6 w6 hown6 hg6 hat6; obtain ⟨A6, c6, rfl⟩ := own_form hown6; have hg6' := World.grownBy.trans (World.grownBy_alloc w5 _ _) hg6; have hO6 := hO5.own hown5 (Nat.le_refl _) hg6'; have hr6 := hr5.grown hg6' (fun k hk => by have := (World.ownsRow.lt hown5 k hk).1; omega); have hgo6 := own_only HOUT.out.1 hO6 hlt; have hs6 := hO6.size) | (at_builtin; refine app_row (.tmp 68) (.tmp 70) (hgo6.alloc _) (by simp; omega) (own_one hown6) (heap_alloc_new _ _) (by omega) rfl rfl rfl rfl ?_; intro v7 w7 hown7 hg7))
              have hout := outer_stepW (left := left - 1) (p0 := p + 2) HOUT.out.1 HOUT.out.2.1 HOUT.out.2.2.1 hlt hO6 hown6 (by omega) (ops_snoc hitm HVE.out) _ rfl hown7 hg7 hr6 (by omega) (by omega) (by omega) (by omega)
              go_wp2_with fail
              go_roundw
              case rel => exact ⟨left - 1, vs ++ [_], rfl, by simp; omega, hout⟩
              case measure => obtain ⟨q7, h7, _⟩ := hout; obtain ⟨A7, c7, rfl⟩ := own_form h7; simp [lenOf]; omega
            · go_wp2_with (at_builtin; refine app_row (.tmp 68) (.tmp 70) (hgo4.alloc _) (by simp; omega) (own_one hown4) (heap_alloc_new _ _) (by omega) rfl rfl rfl rfl ?_; intro v7 w7 hown7 hg7)
              have hout := outer_stepW (left := left) (p0 := p + 2) HOUT.out.1 HOUT.out.2.1 HOUT.out.2.2.1 hlt hO4 hown4 (by omega) hitm _ rfl hown7 hg7 hr4 (by omega) (by omega) (by omega) (by omega)
              go_wp2_with fail
              go_roundw
              case rel => exact ⟨left, vs ++ [_], rfl, by simp; omega, hout⟩
              case measure => obtain ⟨q7, h7, _⟩ := hout; obtain ⟨A7, c7, rfl⟩ := own_form h7; simp [lenOf]; omega
          · have hgo4 : wr.ownsRow w0.heap.size 22 1 (.slice A vs.length c) vs.length vs := own_only HOUT.out.1 hO hlt
            have hs4 := hO.size
            have hs0 := HOUT.out.2.2.1.size
            go_wp2_with (at_builtin; refine app_row (.tmp 68) (.tmp 70) (hgo4.alloc _) (by simp; omega) (own_one hown) (heap_alloc_new _ _) (by omega) rfl rfl rfl rfl ?_; intro v7 w7 hown7 hg7)
            have hout := outer_stepW (left := left) (p0 := p + 2) HOUT.out.1 HOUT.out.2.1 HOUT.out.2.2.1 hlt hO hown (by omega) hitm _ rfl hown7 hg7 hr (by omega) (by omega) (by omega) (by omega)
            go_wp2_with fail
            go_roundw
            case rel => exact ⟨left, vs ++ [_], rfl, by simp; omega, hout⟩
            case measure => obtain ⟨q7, h7, _⟩ := hout; obtain ⟨A7, c7, rfl⟩ := own_form h7; simp [lenOf]; omega

    · go_wp2_with fail
      go_ret
      exact ⟨_, vs, left, rfl, q, hown, hv4, hrows, hl0, hl1, hr, hq, hO⟩
/-- The cut of a row. -/
theorem RowVW.cut {w : World} {lo hi n c k : Nat} {A : Option Addr} (h : RowVW w lo hi (.slice A n c)) (hk : k ≤ n) : RowVW w lo hi (.slice (if c = k then A else A.map (·.add (k * 3))) (n - k) (c - k)) := by
  obtain ⟨A', n', c', xs, hv, hnc, hn, hr, hA⟩ := h
  injection hv with h1 h2 h3
  subst h1; subst h2; subst h3
  refine ⟨_, _, _, _, rfl, by omega, by omega, ⟨hr.1.drop hk hnc, ops_drop hr.2 k⟩, fun ad had => ?_⟩
  split at had
  · exact hA _ had
  · cases A with
    | none => cases had
    | some a =>
      simp at had
      subst had
      have : (a.add (k * 3)).block = a.block := by unfold Addr.add; split <;> rfl
      rw [this]
      exact hA _ rfl
/-- What the great loop of goodSchedule carries. -/
def GoodW (w0 : World) (rb L P K : Nat) (lv ov : Value) (w : World) : Prop := K ≤ 4 ∧
  ∃ (n : Nat) (xs : List OpV) (vs : List Value) (p : Nat), w.ownsRow w0.heap.size 22 1 lv K vs ∧ RowsVW w w0.heap.size L vs ∧ w.ownsRow L 38 3 ov n (opCells xs) ∧
    n + tot vs ≤ 20 ∧ Rd w rb p ∧ p ≤ P + 4 * n ∧ Only rb w0 w ∧ L ≤ w.heap.size ∧ OpsOk xs
/-- What the loop over the rows carries: only rows that are not empty are listed. -/
def Some_W (ws : World) (rb p k : Nat) (vs : List Value) (sv : Value) (w : World) : Prop :=
  ∃ (ts : List Int), ts.length ≤ k ∧ w.ownsRow ws.heap.size 3 1 sv ts.length (intCells ts) ∧ (∀ x ∈ ts, 0 ≤ x ∧ ∃ A n c, vs[x.toNat]? = some (.slice A n c) ∧ 0 < n) ∧ Rd w rb p ∧ Only rb ws w
def GoodPostW (B : Nat) (w0 : World) (rb : Nat) (e : Ending) (w : World) : Prop :=
  ∃ (v : Value) (n : Nat) (xs : List OpV) (p : Nat), e = .returned v ∧ w.ownsRow w0.heap.size 38 3 v n (opCells xs) ∧ n ≤ 20 ∧ Rd w rb p ∧ p ≤ (B + 10000) ∧ Only rb w0 w ∧ OpsOk xs
theorem row_lenW {w : World} {lo hi n c : Nat} {A : Option Addr} (h : RowVW w lo hi (.slice A n c)) : n ≤ 5 := by
  obtain ⟨A', n', c', xs, hv, hnc, hn, _⟩ := h
  injection hv with h1 h2 h3
  omega
/-- What a round of the great loop comes to: the row t is cut by k operations, which went to 'out'. -/
theorem good_stepW {w0 w w6 : World} {rb L P K n nt ct k p t g cl : Nat} {ov v' : Value} {vs : List Value} {xs ys : List OpV} {A : Option Addr} (hrb : rb < w0.heap.size) (hK : K ≤ 4)
    (hlv : w.ownsRow w0.heap.size 22 1 (.slice (some ⟨g, 0, none⟩) K cl) K vs) (hrows : RowsVW w w0.heap.size L vs) (hL : L ≤ w.heap.size) (hov : w.ownsRow L 38 3 ov n (opCells xs)) (hL0 : w0.heap.size ≤ L)
    (hsum : n + tot vs ≤ 20) (hr : Rd w rb p) (hO : Only rb w0 w) (ht : vs[t]? = some (.slice A nt ct)) (hk1 : 1 ≤ k) (hk2 : k ≤ nt)
    (hown6 : w6.ownsRow L 38 3 v' (n + k) (opCells (xs ++ ys))) (hg6 : w.grownBy w6 ov.ownBlock) (hp : p ≤ P + 4 * (n + k)) (hix : OpsOk xs) (hiy : OpsOk ys) :
    GoodW w0 rb L P K (.slice (some ⟨g, 0, none⟩) K cl) v' (w6.setCell ⟨g, t, none⟩ (.slice (if ct = k then A else A.map (·.add (k * 3))) (nt - k) (ct - k))) ∧ w6.cell? ⟨g, t, none⟩ = some (.slice A nt ct) ∧ w6.frozen? ⟨g, t, none⟩ = false := by
  have htl : t < vs.length := by
    rcases Nat.lt_or_ge t vs.length with h | h
    · exact h
    · rw [List.getElem?_eq_none h] at ht; cases ht
  have hvl : vs.length = K := by simpa using hlv.1
  have hg0 := World.ownsRow.lt hlv g rfl
  have hO6 := hO.own hov (by omega) hg6
  have hr6 := hr.grown hg6 fun j hj => by have := (World.ownsRow.lt hov j hj).1; omega
  have hlv6 := own_apart hlv hov (by decide) hg6
  have hs6 := hg6.size
  have hrows6 : RowsVW w6 w0.heap.size L vs := by
    refine hrows.keep (fun b h1 h2 _ => hg6.block b (by omega) (fun e => ?_)) hs6
    have := (World.ownsRow.lt hov b e.symm).1
    omega
  have hst := hlv6.stored t (.slice (if ct = k then A else A.map (·.add (k * 3))) (nt - k) (ct - k))
  refine ⟨⟨hK, n + k, xs ++ ys, vs.set t (.slice (if ct = k then A else A.map (·.add (k * 3))) (nt - k) (ct - k)), p, hst.1, ?_, ?_, ?_, ?_, hp, ?_, by simp [World.setCell]; omega, ops_app hix hiy⟩, ?_, hlv6.frozenAt t⟩
  · have hkeep : ∀ b, w0.heap.size ≤ b → b < L → (∃ cs fr, w6.heap[b]? = some (.cells cs 38 fr)) → (w6.setCell ⟨g, t, none⟩ (.slice (if ct = k then A else A.map (·.add (k * 3))) (nt - k) (ct - k))).heap[b]? = w6.heap[b]? := by
      intro b _ _ ⟨cs, fr, hb⟩
      refine Below.heap_setCell _ _ _ _ (fun e => ?_)
      simp at e
      subst e
      rcases hlv6.2 with ⟨h1, _⟩ | ⟨g', cap', cur', h1, _, hh', _⟩
      · cases h1
      · injection h1 with h1 _ _
        injection h1 with h1
        injection h1 with h1
        subst h1
        rw [hb] at hh'
        injection hh' with hh'
        injection hh' with _ hh' _
        exact absurd hh' (by decide)
    intro u hu
    rcases List.mem_or_eq_of_mem_set hu with hu | rfl
    · exact (hrows6 u hu).keep hkeep (by simp [World.setCell])
    · exact ((hrows6 _ (List.mem_of_getElem? ht)).cut (by omega)).keep hkeep (by simp [World.setCell])
  · exact own_apart (e2 := 22) hown6 hlv6 (by decide) (by simpa [Value.ownBlock] using hst.2)
  · have := tot_set vs t (.slice (if ct = k then A else A.map (·.add (k * 3))) (nt - k) (ct - k)) _ ht
    simp [lenOf] at this
    omega
  · exact hr6.grown hst.2 fun j hj => by injection hj with hj; omega
  · exact hO6.grown hst.2 fun j hj => by injection hj with hj; omega
  · have := hlv6.cellAt t (by omega)
    rw [this]; exact ht
set_option maxRecDepth 100000 in
set_option maxHeartbeats 2000000 in
theorem goodScheduleW_any (B : Nat) (hB : B ≤ 60000) (rb p most : Nat) (w0 : World) (h : Rd w0 rb p) (hp : p ≤ B) (hm : most ≤ 16) :
    Calls Tryd.prog 30 #[.pointer (some ⟨rb, 0, none⟩), .int .i64 (most : Int)] w0 (GoodPostW B w0 rb) := by
  have hlt := h.lt
  go_enter Tryd.func30, Tryd.ntmps30
  go_wp2_with fail
  refine (programsW_any B hB rb p most w0 h (by omega) hm).mono ?_
  rintro e w1 ⟨lv, vs, left, rfl, q, hlv, hv4, hrows, _, _, hr1, hq1, hO1⟩
  have hlt1 := hr1.lt
  go_wp2_with fail
  refine (pick_any rb q 4 _ (hr1.alloc _) (by omega) (by omega)).mono ?_
  rintro e w2 ⟨sw, rfl, hr2, _, _, ho2⟩
  have hs2 := ho2.size
  have hs1 := hO1.size
  have ht5 : ∀ v ∈ vs, lenOf v ≤ 5 := by
    intro v hv
    obtain ⟨A, n, c, xs, rfl, _, hn, _⟩ := hrows v hv
    exact hn
  have htot := tot_le vs 5 ht5
  have HST : Hid (GoodW w0 rb w1.heap.size (B + 100) vs.length lv (.slice (some ⟨w1.heap.size, 0, none⟩) 0 0) w2) :=
    ⟨hv4, 0, [], vs, q + 1, own_only (hlv.alloc _) ho2 hlt, (hrows.keep (fun b h1 h2 _ => Below.heap_alloc _ _ _ h2) (by simp)).only ho2 (by simp) hlt,
      own_only (World.ownsRow_made w1 #[] 0 (Nat.le_refl _) (by decide) rfl) ho2 hlt1, by omega, hr2, by omega, (hO1.alloc _).trans ho2, by simp at hs2; omega, ops_nil⟩
  obtain ⟨Al, cl, rfl⟩ := own_form hlv
  generalize hk : vs.length = K at *
  have HK := Lib.hid hk
  clear hk hlv hrows hr1 hq1 hO1 hr2 ho2 ht5 htot
  go_wp2_with fail
  go_loopw [6] (fun ov w => GoodW w0 rb w1.heap.size (B + 100) K (.slice Al K cl) ov w) (fun ov _ => 21 - lenOf ov)
  case atStart => exact HST.out
  case round =>
    clear HST HK vs
    obtain ⟨wo, rfl⟩ : ∃ wo : World, wo = wr := ⟨_, rfl⟩
    obtain ⟨hK4, n, xs, vs, p3, hlv, hrows, hov, hsum, hr, hp3, hO, hLw, hitx⟩ := hrel
    have hlr := hr.lt
    have hvl : vs.length = K := by simpa using hlv.1
    have HIN : Hid (Some_W wo rb p3 0 vs (.slice (some ⟨wo.heap.size, 0, none⟩) 0 0) (wo.alloc (.cells #[] 3))) :=
      ⟨[], by simp, World.ownsRow_made wo #[] 0 (Nat.le_refl _) (by decide) rfl, by simp, hr.alloc _, (Only.refl _ _).alloc _⟩
    have HO := Lib.hid (And.intro hlv (And.intro hrows (And.intro hov (And.intro hr (And.intro hO hvl)))))
    clear hlv hrows hov hr hO hvl
    go_wp2_with fail
    go_loopw [8, 9] (fun sv t w => ∃ k : Nat, k ≤ K ∧ t = .int .i64 k ∧ Some_W wo rb p3 k vs sv w) (fun _ t _ => K - (intOf t).toNat)
    case atStart => exact ⟨0, by omega, rfl, HIN.out⟩
    case round =>
      clear HIN
      obtain ⟨k, hk, rfl, ts, htk, hts, hin, hr, hOi⟩ := hrel
      by_cases hkK : k < K
      · have hlw := own_only HO.out.1 hOi hlt
        obtain ⟨g, cl', hve, hg1, hg2⟩ := own_block hlw (by omega)
        injection hve with hA _ hc
        subst hA; subst hc
        have hcell : wr.cell? ⟨g, k, none⟩ = vs[k]? := by simpa using hlw.cellAt k (by omega)
        obtain ⟨u, hu⟩ : ∃ u, vs[k]? = some u := ⟨vs[k]'(by have := HO.out.2.2.2.2.2; omega), List.getElem?_eq_getElem _⟩
        obtain ⟨A, nt, ct, ys, rfl, hnc, hn5, hro, hAA⟩ := HO.out.2.1 u (List.mem_of_getElem? hu)
        rw [hu] at hcell
        have HU := Lib.hid hu
        clear hu hro hAA hlw
        have hsz := hOi.size
        by_cases hnt : 0 < nt
        · go_wp2_with (at_builtin; refine app_ints (.tmp 32) (.tmp 34) (hts.alloc _) (by simp; omega) (lit1 rfl (k : Int)) (by omega) rfl rfl rfl rfl ?_; intro v6 w6 hown6 hg6 hat6)
          have hg6' := World.grownBy.trans (World.grownBy_alloc wr _ _) hg6
          have hO6 := hOi.own hts (Nat.le_refl _) hg6'
          have hr6 := hr.grown hg6' fun j hj => by have := (World.ownsRow.lt hts j hj).1; omega
          go_wp2_with fail
          go_roundw
          case rel => exact ⟨k + 1, by omega, by go_num, ts ++ [(k : Int)], by simp; omega, by simpa using hown6, mem_snoc hin ⟨by omega, _, _, _, by simpa using HU.out, hnt⟩, hr6, hO6⟩
          case measure => simp [intOf]; omega
        · go_wp2_with fail
          go_roundw
          case rel => exact ⟨k + 1, by omega, by go_num, ts, by omega, hts, hin, hr, hOi⟩
          case measure => simp [intOf]; omega
      · obtain ⟨As, cs, rfl⟩ := own_form hts
        have hsz := hOi.size
        by_cases hts0 : ts.length = 0
        · have hovr := own_only HO.out.2.2.1 hOi hlt1
          have hO' := HO.out.2.2.2.2.1.trans hOi
          go_wp2_with fail
          go_ret
          exact ⟨_, n, xs, p3, rfl, own_base hovr (by omega), by omega, hr, by omega, hO', hitx⟩
        · go_wp2_with fail
          refine (pick_any rb p3 _ _ hr (by omega) (by omega)).mono ?_
          rintro e w4 ⟨pv, rfl, hr4, _, hpv, ho4⟩
          obtain ⟨hpv0, hpv1⟩ := hpv (by omega)
          have hso := HO.out.2.2.2.2.1.size
          have hs4 := ho4.size
          obtain ⟨b, off, x, hAs, _, hx, hc4⟩ := (RInts.of_own (own_only hts ho4 (by omega)) (by omega)).at_ (k := pv.toNat) (by omega)
          subst hAs
          obtain ⟨hx0, A, nt, ct, hvx, hnt⟩ := hin x (List.mem_of_getElem? hx)
          obtain ⟨X, rfl⟩ := Int.eq_ofNat_of_zero_le hx0
          rw [Int.toNat_natCast] at hvx
          have hxK : X < K := by
            have h1 := HO.out.2.2.2.2.2
            rcases Nat.lt_or_ge X vs.length with h | h
            · omega
            · rw [List.getElem?_eq_none h] at hvx; cases hvx
          have hlw4 := own_only (own_only HO.out.1 hOi hlt) ho4 hlt
          obtain ⟨g, cl', hve, hg1, hg2⟩ := own_block hlw4 (by omega)
          injection hve with hA _ hc
          subst hA; subst hc
          have hcell4 : w4.cell? ⟨g, X, none⟩ = some (.slice A nt ct) := by rw [hlw4.cellAt X (by omega)]; exact hvx
          have HU := Lib.hid hvx
          have hnt5 := row_lenW (HO.out.2.1 _ (List.mem_of_getElem? hvx))
          clear hvx hx hin hlw4 hts
          by_cases hsw : sw = 0
          · go_wp2_with fail
            refine (pick_any rb _ _ _ hr4 (by omega) (by omega)).mono ?_
            rintro e w5 ⟨pk, rfl, hr5, _, hpk, ho5⟩
            obtain ⟨hpk0, hpk1⟩ := hpk (by omega)
            obtain ⟨k, rfl⟩ := Int.eq_ofNat_of_zero_le hpk0
            have hs5 := ho5.size
            have ho45 := ho4.trans ho5
            have hlwf := own_only (own_only HO.out.1 hOi hlt) ho45 hlt
            have hcell5 : w5.cell? ⟨g, X, none⟩ = some (.slice A nt ct) := by rw [hlwf.cellAt X (by omega)]; exact HU.out
            have hov5 := own_only (own_only HO.out.2.2.1 hOi hlt1) ho45 hlt1
            have hrows5 := (HO.out.2.1.only hOi (by omega) hlt).only ho45 (by omega) hlt
            obtain ⟨A', n', c', ys, hv', hnc, hn5, hro, _⟩ := hrows5 _ (List.mem_of_getElem? HU.out)
            injection hv' with e1 e2 e3
            subst e1; subst e2; subst e3
            have hro' := hro.1.take (k := 1 + k) (by omega)
            have hity := ops_take hro.2 (1 + k)
            have HR := Lib.hid (And.intro hlwf (And.intro hrows5 (And.intro hov5 hro')))
            clear hlwf hrows5 hro hro'
            go_wp2_with (at_builtin; refine app_ops (.tmp 56) (.tmp 62) hov5 (by omega) HR.out.2.2.2 (by omega) rfl rfl rfl rfl ?_; intro v6 w6 hown6 hg6 hat6; obtain ⟨hgood, hcell6, hfr6⟩ := good_stepW (k := 1 + k) (P := (B + 100)) hlt hK4 HR.out.1 HR.out.2.1 (by omega) hov5 (by omega) hsum hr5 ((HO.out.2.2.2.2.1.trans hOi).trans ho45) HU.out (by omega) (by omega) hown6 hg6 (by omega) hitx hity)
            all_goals
              go_roundw
              case rel =>
                first
                  | (have e : ct = 1 + k := by assumption
                     rw [if_pos e, show ct - (1 + k) = 0 from by omega] at hgood
                     exact hgood)
                  | (rw [if_neg (by omega)] at hgood
                     exact hgood)
              case measure =>
                have e6 := own_len hown6
                have e5 := own_len hov5
                omega
          · have hlwf := own_only (own_only HO.out.1 hOi hlt) ho4 hlt
            have hcell5 : w4.cell? ⟨g, X, none⟩ = some (.slice A nt ct) := by rw [hlwf.cellAt X (by omega)]; exact HU.out
            have hov5 := own_only (own_only HO.out.2.2.1 hOi hlt1) ho4 hlt1
            have hrows5 := (HO.out.2.1.only hOi (by omega) hlt).only ho4 (by omega) hlt
            obtain ⟨A', n', c', ys, hv', hnc, hn5, hro, _⟩ := hrows5 _ (List.mem_of_getElem? HU.out)
            injection hv' with e1 e2 e3
            subst e1; subst e2; subst e3
            have hro' := hro.1.take (k := 1) (by omega)
            have hity := ops_take hro.2 1
            have HR := Lib.hid (And.intro hlwf (And.intro hrows5 (And.intro hov5 hro')))
            clear hlwf hrows5 hro hro'
            go_wp2_with (at_builtin; refine app_ops (.tmp 56) (.tmp 62) hov5 (by omega) HR.out.2.2.2 (by omega) rfl rfl rfl rfl ?_; intro v6 w6 hown6 hg6 hat6; obtain ⟨hgood, hcell6, hfr6⟩ := good_stepW (k := 1) (P := (B + 100)) hlt hK4 HR.out.1 HR.out.2.1 (by omega) hov5 (by omega) hsum hr4 ((HO.out.2.2.2.2.1.trans hOi).trans ho4) HU.out (by omega) (by omega) hown6 hg6 (by omega) hitx hity)
            all_goals
              go_roundw
              case rel =>
                first
                  | (have e : ct = 1 := by assumption
                     rw [if_pos e, show ct - (1) = 0 from by omega] at hgood
                     exact hgood)
                  | (rw [if_neg (by omega)] at hgood
                     exact hgood)
              case measure =>
                have e6 := own_len hown6
                have e5 := own_len hov5
                omega
end Go.Proofs.YtddkjbibjjehjaaDoor
