/-
  The texts that the proof rests on, joined: part 2.
-/
import Derived.Deep.RegionHeld
import Derived.Outline
import Derived.StillTailTactics
import Derived.RangeFuncNested
import Derived.RangeFuncBound
import Derived.RangeFuncCalls
import Derived.RangeFuncLeaves
import Derived.Shelf.Abstract
import Derived.Shelf.RegionOpen
import Derived.WalkKit
import Derived.Lib.SliceRun
import Derived.OwnWalkIn
import Derived.TacticsInMore
import Derived.LoopNIn
import Derived.LoopIn
import Derived.Stop.RegionWithIn
import Derived.Laws.EntriesVeiled
import Derived.Test.YtofcpfabjfhjoaaPkSnapL1
namespace Go.Proofs.Ytofcpfabjfhjoaa
open Go.RowKit Go.BigFrame
set_option linter.unusedVariables false

theorem ROps.drop {w : World} {A : Option Addr} {n : Nat} {xs : List OpV} (h : ROps w A n xs) {k c : Nat} (hk : k ≤ n) (hc : n ≤ c) :
    ROps w (if c = k then A else A.map (·.add (k * 3))) (n - k) (xs.drop k) := by
  obtain ⟨h1, h2, h3⟩ := h
  refine ⟨by simp; omega, by omega, fun hn => ?_⟩
  obtain ⟨b, off, rfl, hlt, hcell⟩ := h3 (by omega)
  rw [if_neg (by omega)]
  refine ⟨b, off + k * 3, by simp [addr_add], hlt, fun i o ho => ?_⟩
  rw [List.getElem?_drop] at ho
  have := hcell _ o ho
  have e1 : off + (k + i) * 3 = off + k * 3 + i * 3 := by omega
  rw [e1] at this
  exact this

def tot (vs : List Value) : Nat := (vs.map lenOf).sum
theorem tot_set (vs : List Value) (t : Nat) (u x : Value) (h : vs[t]? = some x) : tot (vs.set t u) + lenOf x = tot vs + lenOf u := by
  induction vs generalizing t with
  | nil => simp at h
  | cons y r ih =>
    cases t with
    | zero => simp at h; subst h; simp [tot]; omega
    | succ t =>
      have := ih t (by simpa using h)
      simp [tot] at *
      omega
theorem tot_le (vs : List Value) (k : Nat) (h : ∀ v ∈ vs, lenOf v ≤ k) : tot vs ≤ vs.length * k := by
  induction vs with
  | nil => simp [tot]
  | cons y r ih =>
    have h1 := ih (fun v hv => h v (by simp [hv]))
    have h2 := h y (by simp)
    simp [tot] at *
    rw [Nat.add_mul]; omega

/-- The cut of a row. -/
theorem RowV.cut {w : World} {lo hi n c k : Nat} {A : Option Addr} (h : RowV w lo hi (.slice A n c)) (hk : k ≤ n) : RowV w lo hi (.slice (if c = k then A else A.map (·.add (k * 3))) (n - k) (c - k)) := by
  obtain ⟨A', n', c', xs, hv, hnc, hn, hr, hA⟩ := h
  injection hv with h1 h2 h3
  subst h1; subst h2; subst h3
  refine ⟨_, _, _, _, rfl, by omega, by omega, hr.drop hk hnc, fun ad had => ?_⟩
  split at had
  · exact hA _ had
  · cases A with
    | none => cases had
    | some a =>
      simp at had
      subst had
      have : (a.add (k * 3)).block = a.block := by unfold Addr.add; split <;> rfl
      rw [this]
      exact hA _ rfl

/-- What the great loop of goodSchedule carries. -/
def Good (w0 : World) (rb L P K : Nat) (lv ov : Value) (w : World) : Prop := K ≤ 4 ∧
  ∃ (n : Nat) (xs : List OpV) (vs : List Value) (p : Nat), w.ownsRow w0.heap.size 23 1 lv K vs ∧ RowsV w w0.heap.size L vs ∧ w.ownsRow L 46 3 ov n (opCells xs) ∧
    n + tot vs ≤ 20 ∧ Rd w rb p ∧ p ≤ P + 4 * n ∧ Only rb w0 w ∧ L ≤ w.heap.size
/-- What the loop over the rows carries: only rows that are not empty are listed. -/
def Some_ (ws : World) (rb p k : Nat) (vs : List Value) (sv : Value) (w : World) : Prop :=
  ∃ (ts : List Int), ts.length ≤ k ∧ w.ownsRow ws.heap.size 3 1 sv ts.length (intCells ts) ∧ (∀ x ∈ ts, 0 ≤ x ∧ ∃ A n c, vs[x.toNat]? = some (.slice A n c) ∧ 0 < n) ∧ Rd w rb p ∧ Only rb ws w
def GoodPost (w0 : World) (rb : Nat) (e : Ending) (w : World) : Prop :=
  ∃ (v : Value) (n : Nat) (xs : List OpV) (p : Nat), e = .returned v ∧ w.ownsRow w0.heap.size 46 3 v n (opCells xs) ∧ n ≤ 20 ∧ Rd w rb p ∧ p ≤ 60000 ∧ Only rb w0 w


theorem mem_snoc {P : Int → Prop} {ts : List Int} {x : Int} (h : ∀ y ∈ ts, P y) (hx : P x) : ∀ y ∈ ts ++ [x], P y := by
  intro y hy
  simp only [List.mem_append, List.mem_singleton] at hy
  rcases hy with hy | rfl
  · exact h y hy
  · exact hx
theorem own_len {w : World} {base : Nat} {e : TypeId} {size n : Nat} {v : Value} {xs : List Value} (h : w.ownsRow base e size v n xs) : lenOf v = n := by
  obtain ⟨A, c, rfl⟩ := own_form h
  rfl
theorem row_len {w : World} {lo hi n c : Nat} {A : Option Addr} (h : RowV w lo hi (.slice A n c)) : n ≤ 5 := by
  obtain ⟨A', n', c', xs, hv, hnc, hn, _⟩ := h
  injection hv with h1 h2 h3
  omega
theorem own_block {w : World} {base : Nat} {e : TypeId} {size n : Nat} {v : Value} {xs : List Value} (h : w.ownsRow base e size v n xs) (hn : 0 < n) : ∃ g c, v = .slice (some ⟨g, 0, none⟩) n c ∧ base ≤ g ∧ g < w.heap.size := by
  rcases h.2 with ⟨h1, h2⟩ | ⟨g, cap, cur, h1, h2, h3, _⟩
  · omega
  · exact ⟨g, cap, h1, h2, lt_of_block h3⟩

theorem own_base {w : World} {base base' : Nat} {e : TypeId} {size n : Nat} {v : Value} {xs : List Value} (h : w.ownsRow base e size v n xs) (hb : base' ≤ base) : w.ownsRow base' e size v n xs := by
  refine ⟨h.1, ?_⟩
  rcases h.2 with h2 | ⟨g, cap, cur, h1, h2, r⟩
  · exact .inl h2
  · exact .inr ⟨g, cap, cur, h1, by omega, r⟩
theorem own_apart {w w' : World} {b1 b2 : Nat} {e1 e2 : TypeId} {s1 s2 n1 n2 : Nat} {v1 v2 : Value} {x1 x2 : List Value} (h1 : w.ownsRow b1 e1 s1 v1 n1 x1) (h2 : w.ownsRow b2 e2 s2 v2 n2 x2) (hne : e1 ≠ e2)
    (hg : w.grownBy w' v2.ownBlock) : w'.ownsRow b1 e1 s1 v1 n1 x1 := by
  refine World.ownsRow.kept h1 hg ?_
  rcases h1.2 with ⟨rfl, _⟩ | ⟨g, cap, cur, rfl, _, hh, _⟩
  · exact .inl rfl
  · refine .inr (fun e => ?_)
    rcases h2.2 with ⟨rfl, _⟩ | ⟨g', cap', cur', rfl, _, hh', _⟩
    · simp [Value.ownBlock] at e
    · simp [Value.ownBlock] at e
      subst e
      rw [hh] at hh'
      injection hh' with hh'
      injection hh' with _ hh' _
      exact hne hh'

/-- What a round of the great loop comes to: the row t is cut by k operations, which went to 'out'. -/
theorem good_step {w0 w w6 : World} {rb L P K n nt ct k p t g cl : Nat} {ov v' : Value} {vs : List Value} {xs ys : List OpV} {A : Option Addr} (hrb : rb < w0.heap.size) (hK : K ≤ 4)
    (hlv : w.ownsRow w0.heap.size 23 1 (.slice (some ⟨g, 0, none⟩) K cl) K vs) (hrows : RowsV w w0.heap.size L vs) (hL : L ≤ w.heap.size) (hov : w.ownsRow L 46 3 ov n (opCells xs)) (hL0 : w0.heap.size ≤ L)
    (hsum : n + tot vs ≤ 20) (hr : Rd w rb p) (hO : Only rb w0 w) (ht : vs[t]? = some (.slice A nt ct)) (hk1 : 1 ≤ k) (hk2 : k ≤ nt)
    (hown6 : w6.ownsRow L 46 3 v' (n + k) (opCells (xs ++ ys))) (hg6 : w.grownBy w6 ov.ownBlock) (hp : p ≤ P + 4 * (n + k)) :
    Good w0 rb L P K (.slice (some ⟨g, 0, none⟩) K cl) v' (w6.setCell ⟨g, t, none⟩ (.slice (if ct = k then A else A.map (·.add (k * 3))) (nt - k) (ct - k))) ∧ w6.cell? ⟨g, t, none⟩ = some (.slice A nt ct) ∧ w6.frozen? ⟨g, t, none⟩ = false := by
  have htl : t < vs.length := by
    rcases Nat.lt_or_ge t vs.length with h | h
    · exact h
    · rw [List.getElem?_eq_none h] at ht; cases ht
  have hvl : vs.length = K := by simpa using hlv.1
  have hg0 := World.ownsRow.lt hlv g rfl
  have hO6 := hO.own hov (by omega) hg6
  have hr6 := hr.grown hg6 fun j hj => by have := (World.ownsRow.lt hov j hj).1; omega
  have hlv6 := own_apart hlv hov (by decide) hg6
  have hs6 := hg6.size
  have hrows6 : RowsV w6 w0.heap.size L vs := by
    refine hrows.keep (fun b h1 h2 _ => hg6.block b (by omega) (fun e => ?_)) hs6
    have := (World.ownsRow.lt hov b e.symm).1
    omega
  have hst := hlv6.stored t (.slice (if ct = k then A else A.map (·.add (k * 3))) (nt - k) (ct - k))
  refine ⟨⟨hK, n + k, xs ++ ys, vs.set t (.slice (if ct = k then A else A.map (·.add (k * 3))) (nt - k) (ct - k)), p, hst.1, ?_, ?_, ?_, ?_, hp, ?_, by simp [World.setCell]; omega⟩, ?_, hlv6.frozenAt t⟩
  · have hkeep : ∀ b, w0.heap.size ≤ b → b < L → (∃ cs fr, w6.heap[b]? = some (.cells cs 46 fr)) → (w6.setCell ⟨g, t, none⟩ (.slice (if ct = k then A else A.map (·.add (k * 3))) (nt - k) (ct - k))).heap[b]? = w6.heap[b]? := by
      intro b _ _ ⟨cs, fr, hb⟩
      refine Below.heap_setCell _ _ _ _ (fun e => ?_)
      simp at e
      subst e
      rcases hlv6.2 with ⟨h1, _⟩ | ⟨g', cap', cur', h1, _, hh', _⟩
      · cases h1
      · injection h1 with h1 _ _
        injection h1 with h1
        injection h1 with h1
        subst h1
        rw [hb] at hh'
        injection hh' with hh'
        injection hh' with _ hh' _
        exact absurd hh' (by decide)
    intro u hu
    rcases List.mem_or_eq_of_mem_set hu with hu | rfl
    · exact (hrows6 u hu).keep hkeep (by simp [World.setCell])
    · exact ((hrows6 _ (List.mem_of_getElem? ht)).cut (by omega)).keep hkeep (by simp [World.setCell])
  · exact own_apart (e2 := 23) hown6 hlv6 (by decide) (by simpa [Value.ownBlock] using hst.2)
  · have := tot_set vs t (.slice (if ct = k then A else A.map (·.add (k * 3))) (nt - k) (ct - k)) _ ht
    simp [lenOf] at this
    omega
  · exact hr6.grown hst.2 fun j hj => by injection hj with hj; omega
  · exact hO6.grown hst.2 fun j hj => by injection hj with hj; omega
  · have := hlv6.cellAt t (by omega)
    rw [this]; exact ht

set_option maxRecDepth 100000 in
set_option maxHeartbeats 2000000 in
theorem goodSchedule_any (rb p most : Nat) (w0 : World) (h : Rd w0 rb p) (hp : p ≤ 50000) (hm : most ≤ 16) :
    Calls Try.prog 116 #[.pointer (some ⟨rb, 0, none⟩), .int .i64 (most : Int)] w0 (GoodPost w0 rb) := by
  have hlt := h.lt
  go_enter Try.func116, Try.ntmps116
  go_wp2_with fail
  refine (programs_any rb p most w0 h hp hm).mono ?_
  rintro e w1 ⟨lv, vs, left, rfl, q, hlv, hv4, hrows, _, _, hr1, hq1, hO1⟩
  have hlt1 := hr1.lt
  go_wp2_with fail
  refine (pick_any rb q 4 _ (hr1.alloc _) (by omega) (by omega)).mono ?_
  rintro e w2 ⟨sw, rfl, hr2, _, _, ho2⟩
  have hs2 := ho2.size
  have hs1 := hO1.size
  have ht5 : ∀ v ∈ vs, lenOf v ≤ 5 := by
    intro v hv
    obtain ⟨A, n, c, xs, rfl, _, hn, _⟩ := hrows v hv
    exact hn
  have htot := tot_le vs 5 ht5
  have HST : Hid (Good w0 rb w1.heap.size 50100 vs.length lv (.slice (some ⟨w1.heap.size, 0, none⟩) 0 0) w2) :=
    ⟨hv4, 0, [], vs, q + 1, own_only (hlv.alloc _) ho2 hlt, (hrows.keep (fun b h1 h2 _ => Below.heap_alloc _ _ _ h2) (by simp)).only ho2 (by simp) hlt,
      own_only (World.ownsRow_made w1 #[] 0 (Nat.le_refl _) (by decide) rfl) ho2 hlt1, by omega, hr2, by omega, (hO1.alloc _).trans ho2, by simp at hs2; omega⟩
  obtain ⟨Al, cl, rfl⟩ := own_form hlv
  generalize hk : vs.length = K at *
  have HK := Lib.hid hk
  clear hk hlv hrows hr1 hq1 hO1 hr2 ho2 ht5 htot
  go_wp2_with fail
  go_loopw [6] (fun ov w => Good w0 rb w1.heap.size 50100 K (.slice Al K cl) ov w) (fun ov _ => 21 - lenOf ov)
  case atStart => exact HST.out
  case round =>
    clear HST HK vs
    obtain ⟨wo, rfl⟩ : ∃ wo : World, wo = wr := ⟨_, rfl⟩
    obtain ⟨hK4, n, xs, vs, p3, hlv, hrows, hov, hsum, hr, hp3, hO, hLw⟩ := hrel
    have hlr := hr.lt
    have hvl : vs.length = K := by simpa using hlv.1
    have HIN : Hid (Some_ wo rb p3 0 vs (.slice (some ⟨wo.heap.size, 0, none⟩) 0 0) (wo.alloc (.cells #[] 3))) :=
      ⟨[], by simp, World.ownsRow_made wo #[] 0 (Nat.le_refl _) (by decide) rfl, by simp, hr.alloc _, (Only.refl _ _).alloc _⟩
    have HO := Lib.hid (And.intro hlv (And.intro hrows (And.intro hov (And.intro hr (And.intro hO hvl)))))
    clear hlv hrows hov hr hO hvl
    go_wp2_with fail
    go_loopw [8, 9] (fun sv t w => ∃ k : Nat, k ≤ K ∧ t = .int .i64 k ∧ Some_ wo rb p3 k vs sv w) (fun _ t _ => K - (intOf t).toNat)
    case atStart => exact ⟨0, by omega, rfl, HIN.out⟩
    case round =>
      clear HIN
      obtain ⟨k, hk, rfl, ts, htk, hts, hin, hr, hOi⟩ := hrel
      by_cases hkK : k < K
      · have hlw := own_only HO.out.1 hOi hlt
        obtain ⟨g, cl', hve, hg1, hg2⟩ := own_block hlw (by omega)
        injection hve with hA _ hc
        subst hA; subst hc
        have hcell : wr.cell? ⟨g, k, none⟩ = vs[k]? := by simpa using hlw.cellAt k (by omega)
        obtain ⟨u, hu⟩ : ∃ u, vs[k]? = some u := ⟨vs[k]'(by have := HO.out.2.2.2.2.2; omega), List.getElem?_eq_getElem _⟩
        obtain ⟨A, nt, ct, ys, rfl, hnc, hn5, hro, hAA⟩ := HO.out.2.1 u (List.mem_of_getElem? hu)
        rw [hu] at hcell
        have HU := Lib.hid hu
        clear hu hro hAA hlw
        have hsz := hOi.size
        by_cases hnt : 0 < nt
        · go_wp2_with (at_builtin; refine app_ints (.tmp 32) (.tmp 34) (hts.alloc _) (by simp; omega) (lit1 rfl (k : Int)) (by omega) rfl rfl rfl rfl ?_; intro v6 w6 hown6 hg6 hat6)
          have hg6' := World.grownBy.trans (World.grownBy_alloc wr _ _) hg6
          have hO6 := hOi.own hts (Nat.le_refl _) hg6'
          have hr6 := hr.grown hg6' fun j hj => by have := (World.ownsRow.lt hts j hj).1; omega
          go_wp2_with fail
          go_roundw
          case rel => exact ⟨k + 1, by omega, by go_num, ts ++ [(k : Int)], by simp; omega, by simpa using hown6, mem_snoc hin ⟨by omega, _, _, _, by simpa using HU.out, hnt⟩, hr6, hO6⟩
          case measure => simp [intOf]; omega
        · go_wp2_with fail
          go_roundw
          case rel => exact ⟨k + 1, by omega, by go_num, ts, by omega, hts, hin, hr, hOi⟩
          case measure => simp [intOf]; omega
      · obtain ⟨As, cs, rfl⟩ := own_form hts
        have hsz := hOi.size
        by_cases hts0 : ts.length = 0
        · have hovr := own_only HO.out.2.2.1 hOi hlt1
          have hO' := HO.out.2.2.2.2.1.trans hOi
          go_wp2_with fail
          go_ret
          exact ⟨_, n, xs, p3, rfl, own_base hovr (by omega), by omega, hr, by omega, hO'⟩
        · go_wp2_with fail
          refine (pick_any rb p3 _ _ hr (by omega) (by omega)).mono ?_
          rintro e w4 ⟨pv, rfl, hr4, _, hpv, ho4⟩
          obtain ⟨hpv0, hpv1⟩ := hpv (by omega)
          have hso := HO.out.2.2.2.2.1.size
          have hs4 := ho4.size
          obtain ⟨b, off, x, hAs, _, hx, hc4⟩ := (RInts.of_own (own_only hts ho4 (by omega)) (by omega)).at_ (k := pv.toNat) (by omega)
          subst hAs
          obtain ⟨hx0, A, nt, ct, hvx, hnt⟩ := hin x (List.mem_of_getElem? hx)
          obtain ⟨X, rfl⟩ := Int.eq_ofNat_of_zero_le hx0
          rw [Int.toNat_natCast] at hvx
          have hxK : X < K := by
            have h1 := HO.out.2.2.2.2.2
            rcases Nat.lt_or_ge X vs.length with h | h
            · omega
            · rw [List.getElem?_eq_none h] at hvx; cases hvx
          have hlw4 := own_only (own_only HO.out.1 hOi hlt) ho4 hlt
          obtain ⟨g, cl', hve, hg1, hg2⟩ := own_block hlw4 (by omega)
          injection hve with hA _ hc
          subst hA; subst hc
          have hcell4 : w4.cell? ⟨g, X, none⟩ = some (.slice A nt ct) := by rw [hlw4.cellAt X (by omega)]; exact hvx
          have HU := Lib.hid hvx
          have hnt5 := row_len (HO.out.2.1 _ (List.mem_of_getElem? hvx))
          clear hvx hx hin hlw4 hts
          by_cases hsw : sw = 0
          · go_wp2_with fail
            refine (pick_any rb _ _ _ hr4 (by omega) (by omega)).mono ?_
            rintro e w5 ⟨pk, rfl, hr5, _, hpk, ho5⟩
            obtain ⟨hpk0, hpk1⟩ := hpk (by omega)
            obtain ⟨k, rfl⟩ := Int.eq_ofNat_of_zero_le hpk0
            have hs5 := ho5.size
            have ho45 := ho4.trans ho5
            have hlwf := own_only (own_only HO.out.1 hOi hlt) ho45 hlt
            have hcell5 : w5.cell? ⟨g, X, none⟩ = some (.slice A nt ct) := by rw [hlwf.cellAt X (by omega)]; exact HU.out
            have hov5 := own_only (own_only HO.out.2.2.1 hOi hlt1) ho45 hlt1
            have hrows5 := (HO.out.2.1.only hOi (by omega) hlt).only ho45 (by omega) hlt
            obtain ⟨A', n', c', ys, hv', hnc, hn5, hro, _⟩ := hrows5 _ (List.mem_of_getElem? HU.out)
            injection hv' with e1 e2 e3
            subst e1; subst e2; subst e3
            have hro' := hro.take (k := 1 + k) (by omega)
            have HR := Lib.hid (And.intro hlwf (And.intro hrows5 (And.intro hov5 hro')))
            clear hlwf hrows5 hro hro'
            go_wp2_with (at_builtin; refine app_ops (.tmp 56) (.tmp 62) hov5 (by omega) HR.out.2.2.2 (by omega) rfl rfl rfl rfl ?_; intro v6 w6 hown6 hg6 hat6; obtain ⟨hgood, hcell6, hfr6⟩ := good_step (k := 1 + k) (P := 50100) hlt hK4 HR.out.1 HR.out.2.1 (by omega) hov5 (by omega) hsum hr5 ((HO.out.2.2.2.2.1.trans hOi).trans ho45) HU.out (by omega) (by omega) hown6 hg6 (by omega))
            all_goals
              go_roundw
              case rel =>
                first
                  | (have e : ct = 1 + k := by assumption
                     rw [if_pos e, show ct - (1 + k) = 0 from by omega] at hgood
                     exact hgood)
                  | (rw [if_neg (by omega)] at hgood
                     exact hgood)
              case measure =>
                have e6 := own_len hown6
                have e5 := own_len hov5
                omega
          · have hlwf := own_only (own_only HO.out.1 hOi hlt) ho4 hlt
            have hcell5 : w4.cell? ⟨g, X, none⟩ = some (.slice A nt ct) := by rw [hlwf.cellAt X (by omega)]; exact HU.out
            have hov5 := own_only (own_only HO.out.2.2.1 hOi hlt1) ho4 hlt1
            have hrows5 := (HO.out.2.1.only hOi (by omega) hlt).only ho4 (by omega) hlt
            obtain ⟨A', n', c', ys, hv', hnc, hn5, hro, _⟩ := hrows5 _ (List.mem_of_getElem? HU.out)
            injection hv' with e1 e2 e3
            subst e1; subst e2; subst e3
            have hro' := hro.take (k := 1) (by omega)
            have HR := Lib.hid (And.intro hlwf (And.intro hrows5 (And.intro hov5 hro')))
            clear hlwf hrows5 hro hro'
            go_wp2_with (at_builtin; refine app_ops (.tmp 56) (.tmp 62) hov5 (by omega) HR.out.2.2.2 (by omega) rfl rfl rfl rfl ?_; intro v6 w6 hown6 hg6 hat6; obtain ⟨hgood, hcell6, hfr6⟩ := good_step (k := 1) (P := 50100) hlt hK4 HR.out.1 HR.out.2.1 (by omega) hov5 (by omega) hsum hr4 ((HO.out.2.2.2.2.1.trans hOi).trans ho4) HU.out (by omega) (by omega) hown6 hg6 (by omega))
            all_goals
              go_roundw
              case rel =>
                first
                  | (have e : ct = 1 := by assumption
                     rw [if_pos e, show ct - (1) = 0 from by omega] at hgood
                     exact hgood)
                  | (rw [if_neg (by omega)] at hgood
                     exact hgood)
              case measure =>
                have e6 := own_len hown6
                have e5 := own_len hov5
                omega
end Go.Proofs.Ytofcpfabjfhjoaa
namespace Go.Proofs.Ytofcpfabjfhjoaa
open Go.RowKit Go.BigFrame
set_option linter.unusedVariables false

theorem RowIs.grown {w w' : World} {g : Nat} {T : TypeId} {vs : List Value} {row : Option Nat} (h : RowIs w g T vs) (hg : w.grownBy w' row) (hne : row ≠ some g) : RowIs w' g T vs :=
  (hg.block g h.lt hne.symm).trans h
theorem own_ne {w : World} {base : Nat} {e : TypeId} {size n : Nat} {v : Value} {xs : List Value} (h : w.ownsRow base e size v n xs) {g : Nat} {T : TypeId} {vs : List Value} (hr : RowIs w g T vs) (hT : T ≠ e) : v.ownBlock ≠ some g := by
  rcases h.2 with ⟨rfl, _⟩ | ⟨g', cap, cur, rfl, _, hh, _⟩
  · simp [Value.ownBlock]
  · intro e'
    simp [Value.ownBlock] at e'
    subst e'
    unfold RowIs at hr
    rw [hr] at hh
    injection hh with hh
    injection hh with _ hh _
    exact hT hh
theorem nb_app {v v' : Value} {b K : Nat} (h : v.ownBlock ≠ some b) (hat : v'.ownBlock = v.ownBlock ∨ v'.ownBlock = some K) (hb : b < K) : v'.ownBlock ≠ some b := by
  rcases hat with e | e
  · rw [e]; exact h
  · rw [e]; intro e'; injection e' with e'; omega
theorem own_lt {w : World} {base : Nat} {e : TypeId} {size n : Nat} {v : Value} {xs : List Value} (h : w.ownsRow base e size v n xs) {b : Nat} (hb : w.heap.size ≤ b) : v.ownBlock ≠ some b := by
  intro e'
  have := (World.ownsRow.lt h b e').2
  omega
theorem own_grown {w w' : World} {base : Nat} {e : TypeId} {size n : Nat} {v : Value} {xs : List Value} (h : w.ownsRow base e size v n xs) {row : Option Nat} (hg : w.grownBy w' row) (hne : ∀ b, row = some b → v.ownBlock ≠ some b) : w'.ownsRow base e size v n xs := by
  refine World.ownsRow.kept h hg ?_
  cases hv : v.ownBlock with
  | none => exact .inl rfl
  | some b =>
    refine .inr (fun e => ?_)
    exact hne b e.symm hv
theorem op_ne_int : (46 : TypeId) ≠ 3 := by decide
theorem ints_ne_op : (25 : TypeId) ≠ 46 := by decide
theorem ints_ne_int : (25 : TypeId) ≠ 3 := by decide

theorem ROps.litH {w : World} {H : Nat} (hH : w.heap.size = H) (o : OpV) (t : TypeId) : ROps (w.alloc (.cells #[.int .i64 o.tx, .int .i64 o.kind, .int .i64 o.item] t)) (some ⟨H, 0, none⟩) 1 [o] := by subst hH; exact ROps.lit1 w o t

/-- A call hands back operations and integers, in new memory. -/
def RetOI (w0 : World) (xs : List OpV) (ys : List Int) (e : Ending) (w : World) : Prop :=
  ∃ A c B d, e = .returned (.tuple #[.slice A xs.length c, .slice B ys.length d]) ∧ xs.length ≤ c ∧ ys.length ≤ d ∧ FreshOps w0 w A xs.length xs ∧ FreshInts w0 w B ys.length ys ∧ Below w0.heap.size w0 w
theorem RetOI.nil {w0 w : World} (h : Below w0.heap.size w0 w) : RetOI w0 [] [] (.returned (.tuple #[.slice none 0 0, .slice none 0 0])) w :=
  ⟨none, 0, none, 0, rfl, Nat.le_refl _, Nat.le_refl _, FreshOps.none_, FreshInts.none_, h⟩
theorem RetOI.mk {w0 w : World} {xs : List OpV} {ys : List Int} {A B : Option Addr} {n m c d : Nat} (hn : xs.length = n) (hm : ys.length = m) (hc : n ≤ c) (hd : m ≤ d) (h1 : FreshOps w0 w A n xs) (h2 : FreshInts w0 w B m ys) (hb : Below w0.heap.size w0 w) :
    RetOI w0 xs ys (.returned (.tuple #[.slice A n c, .slice B m d])) w := by
  subst hn; subst hm
  exact ⟨A, c, B, d, rfl, hc, hd, h1, h2, hb⟩
theorem RetOI.later {w0 w1 : World} {xs : List OpV} {ys : List Int} {e : Ending} {w : World} (hb : Below w0.heap.size w0 w1) (h : RetOI w1 xs ys e w) : RetOI w0 xs ys e w := by
  obtain ⟨A, c, B, d, rfl, hc, hd, ⟨a1, a2⟩, ⟨b1, b2⟩, hb'⟩ := h
  have hs := hb.size
  exact ⟨A, c, B, d, rfl, hc, hd, ⟨a1, fun ad had => by obtain ⟨b, cur, h3, h4, h5⟩ := a2 ad had; exact ⟨b, cur, h3, by omega, h5⟩⟩,
    ⟨b1, fun ad had => by obtain ⟨b, cur, h3, h4, h5⟩ := b2 ad had; exact ⟨b, cur, h3, by omega, h5⟩⟩, hb.trans (hb'.mono hs)⟩
end Go.Proofs.Ytofcpfabjfhjoaa
namespace Go.Proofs.Ytofcpfabjfhjoaa
open Go.RowKit Go.BigFrame
set_option linter.unusedVariables false

theorem intsInfo : (Try.prog.info? 25).map (fun i => (i.zero, i.size, i.bytes)) = some (some (.slice none 0 0), 1, 24) := by kernel_rfl


section
variable {w : World} {ops : Array Oper} {o : Oper} {a : Act} {K : Act → World → Prop} {Q : Exit → Act → World → Prop} {E : Prop}
/-- append, at a step of a region that draws its order. -/
theorem step_app {P : Program} (hgd : o.guard = none) (s x : Operand) (t : TypeId)
    (ho : o.op = .call { callee := .builtin .append, args := #[s, x], argTypes := #[t, t] })
    (base : Nat) (e : TypeId) (i : TypeInfo) (z : Value) (size bytes : Nat) (ht : P.underlying t = some (.slice e)) (hi : P.info? e = some i) (hz : i.zero = some z)
    (hsize : i.size = size) (hby : i.bytes = bytes) (hzs : z.cells.size = size) (hsz : 0 < size)
    (v : Value) (n : Nat) (xs : List Value) (hs : a.eval s = v) (hown : w.ownsRow base e size v n xs)
    (A : Option Addr) (m c : Nat) (news : List Value) (hx : a.eval x = .slice A m c) (hr : Src w size A m news)
    (h63 : n + m ≤ maxLen) (hbytes : (n + m) * bytes ≤ 140737488355328) (hbase : base ≤ w.heap.size)
    (h : ∀ v' w', w'.ownsRow base e size v' (n + m) (xs ++ news) → w.grownBy w' v.ownBlock → (v'.ownBlock = v.ownBlock ∨ v'.ownBlock = some w.heap.size) → K (a.put o.dst v') w') :
    if Region.wanted o (yielded ops a.tmps) = true then Oper.wp P o a w K Q else E := by
  have hw : Region.wanted o (yielded ops a.tmps) = true := by simp [Region.wanted, hgd]
  rw [if_pos hw]
  obtain ⟨v', w', hrun, h2, h3, h4⟩ := run_app (P := P) base t o.type e i z size bytes ht hi hz hsize hby hzs hsz v n xs hown A m c news hr h63 hbytes hbase
  unfold Oper.wp execOp
  simp only [ho, resolve, invoke, builtin, Sem.run_bind, Sem.run_pure, Result.andThen_ok, List.map_toArray, List.map_cons, List.map_nil, hs, hx, hrun]
  exact h v' w' h2 h3 h4
theorem step_ints (s x : Operand) {base : Nat} {v : Value} {n : Nat} {xs : List Int} (hown : w.ownsRow base 3 1 v n (intCells xs)) (hbase : base ≤ w.heap.size)
    {A : Option Addr} {m c : Nat} {ys : List Int} (hr : RInts w A m ys) (hn : n ≤ 1099511627776)
    (hgd : o.guard = none) (ho : o.op = .call { callee := .builtin .append, args := #[s, x], argTypes := #[25, 25] }) (hs : a.eval s = v) (hx : a.eval x = .slice A m c)
    (h : ∀ v' w', w'.ownsRow base 3 1 v' (n + m) (intCells (xs ++ ys)) → w.grownBy w' v.ownBlock → (v'.ownBlock = v.ownBlock ∨ v'.ownBlock = some w.heap.size) → K (a.put o.dst v') w') :
    if Region.wanted o (yielded ops a.tmps) = true then Oper.wp Try.prog o a w K Q else E := by
  obtain ⟨i0, hi, hz0, hz1, hz2⟩ := info_parts intInfo
  have hm := hr.2.1
  refine step_app hgd s x _ ho base _ i0 _ 1 8 Try.underlying25 hi hz0 hz1 hz2 rfl (by decide) v n _ hs hown A m c _ hx hr.src (by simp only [maxLen]; omega) (by omega) hbase ?_
  intro v' w' h1 h2 h3
  have e : intCells xs ++ intCells ys = intCells (xs ++ ys) := by simp [intCells]
  rw [e] at h1
  exact h v' w' h1 h2 h3
theorem step_rows (s x : Operand) {base : Nat} {v : Value} {n : Nat} {rv : List Value} (hown : w.ownsRow base 25 1 v n rv) (hbase : base ≤ w.heap.size)
    {A : Option Addr} {m c : Nat} {rs : List Value} (hr : Src w 1 A m rs) (hn : n + m ≤ 1099511627776)
    (hgd : o.guard = none) (ho : o.op = .call { callee := .builtin .append, args := #[s, x], argTypes := #[43, 43] }) (hs : a.eval s = v) (hx : a.eval x = .slice A m c)
    (h : ∀ v' w', w'.ownsRow base 25 1 v' (n + m) (rv ++ rs) → w.grownBy w' v.ownBlock → (v'.ownBlock = v.ownBlock ∨ v'.ownBlock = some w.heap.size) → K (a.put o.dst v') w') :
    if Region.wanted o (yielded ops a.tmps) = true then Oper.wp Try.prog o a w K Q else E := by
  obtain ⟨i0, hi, hz0, hz1, hz2⟩ := info_parts intsInfo
  exact step_app hgd s x _ ho base _ i0 _ 1 24 Try.underlying43 hi hz0 hz1 hz2 rfl (by decide) v n _ hs hown A m c _ hx hr (by simp only [maxLen]; omega) (by omega) hbase h
end

theorem rowsI_at3 {R : List Nat} (h : Rows4 R) {w : World} {A : Option Addr} (hr : RInts w A 4 (rowsI R)) {t : Nat} (ht : t < 4) : ∃ b off, A = some ⟨b, off, none⟩ ∧ b < w.heap.size ∧ w.cell? ⟨b, off + t, none⟩ = some (.int .i64 ((R.getD t 0 : Nat) : Int)) ∧ R.getD t 0 < 16 := by
  obtain ⟨b, off, x, hA, hlt, hx, hc⟩ := hr.at_ ht
  obtain ⟨h1, h2⟩ := rowsI_at h (T := t) (by omega)
  refine ⟨b, off, hA, hlt, ?_, h2⟩
  rw [hc]
  simp only [intCells, List.getElem?_map, hx, Option.map_some] at h1
  exact h1
theorem FreshInts.lat {w0 w w' : World} {A : Option Addr} {n : Nat} {xs : List Int} (h : FreshInts w0 w A n xs) (hb : Below w.heap.size w w') : FreshInts w0 w' A n xs :=
  ⟨h.1.below hb (Nat.le_refl _), fun ad had => by obtain ⟨b, cur, e, h1, h2, h3⟩ := h.2 ad had; exact ⟨b, cur, e, h1, (hb.block b (lt_of_block h2)).trans h2, h3⟩⟩
theorem FreshInts.since {w0 w1 w : World} {A : Option Addr} {n : Nat} {xs : List Int} (h : FreshInts w1 w A n xs) (hs : w0.heap.size ≤ w1.heap.size) : FreshInts w0 w A n xs :=
  ⟨h.1, fun ad had => by obtain ⟨b, cur, e, h1, h2, h3⟩ := h.2 ad had; exact ⟨b, cur, e, by omega, h2, h3⟩⟩
/-- A row of integers is as it was when another block has turned. -/
theorem FreshInts.grownT {w0 w w' : World} {A : Option Addr} {n : Nat} {xs : List Int} {row : Option Nat} (h : FreshInts w0 w A n xs) (hg : w.grownBy w' row) (hne : ∀ g, row = some g → ∀ cur, w.heap[g]? ≠ some (.cells cur 3 (0, 0))) : FreshInts w0 w' A n xs := by
  have hblk : ∀ ad, A = some ad → ∃ b cur, ad = ⟨b, 0, none⟩ ∧ w0.heap.size ≤ b ∧ w.heap[b]? = some (.cells cur 3 (0, 0)) ∧ n ≤ cur.size ∧ w'.heap[b]? = w.heap[b]? := fun ad had => by
    obtain ⟨b, cur, e, h1, h2, h3⟩ := h.2 ad had
    exact ⟨b, cur, e, h1, h2, h3, hg.block b (lt_of_block h2) (fun e => hne b e.symm cur h2)⟩
  refine ⟨⟨h.1.1, h.1.2.1, fun hn => ?_⟩, fun ad had => ?_⟩
  · obtain ⟨b, off, hA, hlt, hc⟩ := h.1.2.2 hn
    obtain ⟨b', cur, e, _, _, _, hk⟩ := hblk _ hA
    injection e with e1 e2 _
    subst e1
    have hs := World.grownBy.size hg
    exact ⟨b, off, hA, by omega, fun i x hx => (World.cell?_of_block (w := w) (a := ⟨b, off + i, none⟩) hk).trans (hc i x hx)⟩
  · obtain ⟨b, cur, e, h1, h2, h3, hk⟩ := hblk ad had
    exact ⟨b, cur, e, h1, hk.trans h2, h3⟩

/-- These slice values are these lists, each in memory made since w0. -/
def RowsR (w0 w : World) (rv : List Value) (xss : List (List Int)) : Prop :=
  rv.length = xss.length ∧ ∀ (i : Nat) (xs : List Int), xss[i]? = some xs → ∃ B c, rv[i]? = some (.slice B xs.length c) ∧ xs.length ≤ c ∧ FreshInts w0 w B xs.length xs
theorem RowsR.nil {w0 w : World} : RowsR w0 w [] [] := ⟨rfl, fun i xs h => by simp at h⟩
theorem RowsR.below {w0 w w' : World} {rv : List Value} {xss : List (List Int)} (h : RowsR w0 w rv xss) (hb : Below w.heap.size w w') : RowsR w0 w' rv xss :=
  ⟨h.1, fun i xs hi => by obtain ⟨C, c, e, hmc, hr⟩ := h.2 i xs hi; exact ⟨C, c, e, hmc, hr.lat hb⟩⟩
theorem RowsR.since {w0 w1 w : World} {rv : List Value} {xss : List (List Int)} (h : RowsR w1 w rv xss) (hs : w0.heap.size ≤ w1.heap.size) : RowsR w0 w rv xss :=
  ⟨h.1, fun i xs hi => by obtain ⟨C, c, e, hmc, hr⟩ := h.2 i xs hi; exact ⟨C, c, e, hmc, hr.since hs⟩⟩
theorem RowsR.grown {w0 w w' : World} {rv : List Value} {xss : List (List Int)} {row : Option Nat} (h : RowsR w0 w rv xss) (hg : w.grownBy w' row) (hne : ∀ g, row = some g → ∀ cur, w.heap[g]? ≠ some (.cells cur 3 (0, 0))) : RowsR w0 w' rv xss :=
  ⟨h.1, fun i xs hi => by obtain ⟨C, c, e, hmc, hr⟩ := h.2 i xs hi; exact ⟨C, c, e, hmc, hr.grownT hg hne⟩⟩
theorem RowsR.append {w0 w : World} {rv rs : List Value} {xss yss : List (List Int)} (h : RowsR w0 w rv xss) (k : RowsR w0 w rs yss) : RowsR w0 w (rv ++ rs) (xss ++ yss) := by
  refine ⟨by simp [h.1, k.1], fun i xs hi => ?_⟩
  rcases Nat.lt_or_ge i xss.length with hlt | hge
  · rw [List.getElem?_append_left hlt] at hi
    obtain ⟨C, c, e, r⟩ := h.2 i xs hi
    exact ⟨C, c, by rw [List.getElem?_append_left (by rw [h.1]; exact hlt)]; exact e, r⟩
  · rw [List.getElem?_append_right hge] at hi
    obtain ⟨C, c, e, r⟩ := k.2 _ xs hi
    exact ⟨C, c, by rw [List.getElem?_append_right (by rw [h.1]; exact hge), h.1]; exact e, r⟩
theorem RowsR.one {w0 w : World} {rv : List Value} {xss : List (List Int)} (h : RowsR w0 w rv xss) : ∀ u ∈ rv, u.oneCell' = true := by
  intro u hu
  obtain ⟨i, hi⟩ := List.mem_iff_getElem?.1 hu
  have hl := (List.getElem?_eq_some_iff.1 hi).1
  obtain ⟨C, c, e, _⟩ := h.2 i _ (List.getElem?_eq_getElem (by rw [← h.1]; exact hl))
  rw [e] at hi
  injection hi with hi
  rw [← hi]; rfl
theorem RowsR.lit {w0 w : World} {B : Option Addr} {n c : Nat} {xs : List Int} (hn : xs.length = n) (hc : n ≤ c) (h : FreshInts w0 w B n xs) : RowsR w0 w [.slice B n c] [xs] := by
  subst hn
  refine ⟨rfl, fun i ys hi => ?_⟩
  match i, hi with
  | 0, hi =>
    simp only [List.getElem?_cons_zero, Option.some.injEq] at hi
    subst hi
    exact ⟨B, c, rfl, hc, h⟩
  | i + 1, hi => simp at hi
/-- The block of an owned row of slices is none of integers. -/
theorem own_noInt {w : World} {base n : Nat} {v : Value} {rv : List Value} (h : w.ownsRow base 25 1 v n rv) : ∀ g, v.ownBlock = some g → ∀ cur, w.heap[g]? ≠ some (.cells cur 3 (0, 0)) := by
  intro g hg cur hc
  rcases h.2 with ⟨h1, h2⟩ | ⟨g', cap, cur', h1, h2, h3, h4, h5, h6, h7⟩
  · rw [h1] at hg; cases hg
  · rw [h1] at hg
    have : g' = g := by simpa [Value.ownBlock] using hg
    subst this
    rw [h3] at hc
    injection hc with hc
    injection hc with _ ht _
    exact absurd ht (by decide)

/-- The row of rows, in a block made since w0. -/
def OuterR (w0 w : World) (A : Option Addr) (n : Nat) (rv : List Value) : Prop :=
  Src w 1 A n rv ∧ ∀ ad, A = some ad → ∃ b cur, ad = ⟨b, 0, none⟩ ∧ w0.heap.size ≤ b ∧ w.heap[b]? = some (.cells cur 25 (0, 0))
theorem OuterR.of_own {w0 w : World} {base n c : Nat} {A : Option Addr} {rv : List Value} (h : w.ownsRow base 25 1 (.slice A n c) n rv) (hb : w0.heap.size ≤ base) (h1 : ∀ u ∈ rv, u.oneCell' = true) : OuterR w0 w A n rv := by
  have hl : rv.length = n := by have := h.1; omega
  rcases h.2 with ⟨e1, e2⟩ | ⟨g, cap, cur, e1, e2, e3, e4, e5, e6, e7⟩
  · injection e1 with ha hb' hc
    subst ha
    subst e2
    exact ⟨⟨by omega, h1, fun h0 => absurd h0 (by omega)⟩, fun ad had => by cases had⟩
  · injection e1 with ha _ hc
    subst ha
    refine ⟨⟨by omega, h1, fun h0 => ⟨_, rfl, fun j u hu => h.cells (g := g) (by simp [Value.ownBlock]) j u hu⟩⟩, fun ad had => ?_⟩
    injection had with had
    subst had
    exact ⟨g, cur, rfl, by omega, e3⟩

/-- The call hands back these lists in new memory and changes nothing. -/
def RetLists (w0 : World) (xss : List (List Int)) (e : Ending) (w : World) : Prop :=
  ∃ A c rv, e = .returned (.slice A xss.length c) ∧ xss.length ≤ c ∧ OuterR w0 w A xss.length rv ∧ RowsR w0 w rv xss ∧ Below w0.heap.size w0 w
theorem RetLists.form {w0 w : World} {xss : List (List Int)} {e : Ending} (h : RetLists w0 xss e w) : ∃ A c n rv, e = .returned (.slice A n c) ∧ Hid (xss.length = n) ∧ n ≤ c ∧ OuterR w0 w A n rv ∧ RowsR w0 w rv xss ∧ Below w0.heap.size w0 w := by
  obtain ⟨A, c, rv, h⟩ := h
  exact ⟨A, c, _, rv, h.1, rfl, h.2⟩
theorem RetLists.nil {w0 w : World} (h : Below w0.heap.size w0 w) : RetLists w0 [] (.returned (.slice none 0 0)) w :=
  ⟨none, 0, [], rfl, Nat.le_refl _, ⟨⟨rfl, by simp, fun h => absurd h (by simp)⟩, fun ad h => by cases h⟩, RowsR.nil, h⟩
theorem RetLists.of_own {w0 w : World} {xss : List (List Int)} {A : Option Addr} {n c base : Nat} {rv : List Value} (hn : xss.length = n) (hc : n ≤ c) (h : w.ownsRow base 25 1 (.slice A n c) n rv) (hbase : w0.heap.size ≤ base) (hr : RowsR w0 w rv xss) (hb : Below w0.heap.size w0 w) : RetLists w0 xss (.returned (.slice A n c)) w := by
  subst hn; exact ⟨A, c, rv, rfl, hc, OuterR.of_own h hbase hr.one, hr, hb⟩
theorem RetLists.lit1 {w0 w1 : World} {xs : List Int} {A : Option Addr} {n c : Nat} (hn : xs.length = n) (hc : n ≤ c) (hf : FreshInts w0 w1 A n xs) (hb : Below w0.heap.size w0 w1) :
    RetLists w0 [xs] (.returned (.slice (some ⟨w1.heap.size, 0, none⟩) 1 1)) (w1.alloc (.cells #[.slice A n c] 25)) := by
  have hs := hb.size
  refine ⟨_, _, [.slice A n c], rfl, Nat.le_refl _, ⟨⟨rfl, by simp [Value.oneCell'], fun _ => ⟨_, rfl, fun j u hu => ?_⟩⟩, fun ad had => ?_⟩, RowsR.lit hn hc (hf.lat ((Below.refl _ _).alloc (Nat.le_refl _) _)), hb.alloc hs _⟩
  · match j, hu with
    | 0, hu =>
      simp only [List.getElem?_cons_zero, Option.some.injEq] at hu
      subst hu
      rw [addr_add]
      exact box_at _ _ _ _ _ (by simp)
    | j + 1, hu => simp at hu
  · injection had with had
    subst had
    exact ⟨_, _, rfl, hs, heap_alloc_new w1 _⟩
/-- What has been gathered. -/
def RowsInv (w wr : World) (ov : Value) (xss : List (List Int)) : Prop := ∃ (N : Nat) (rv : List Value), N ≤ 1024 ∧ xss.length = N ∧ Below w.heap.size w wr ∧ wr.ownsRow w.heap.size 25 1 ov N rv ∧ RowsR w wr rv xss
theorem RowsInv.later {w wr W : World} {ov : Value} {xss : List (List Int)} (h : RowsInv w wr ov xss) (hb : Below wr.heap.size wr W) : RowsInv w W ov xss := by
  obtain ⟨N, rv, hN, hl, h1, h2, h3⟩ := h
  exact ⟨N, rv, hN, hl, h1.trans (hb.mono h1.size), own_below h2 hb, h3.below hb⟩
end Go.Proofs.Ytofcpfabjfhjoaa
namespace Go.Proofs.Ytofcpfabjfhjoaa
open Go.RowKit Go.BigFrame
set_option linter.unusedVariables false

def vFold (p : Int → Bool) (L : List Int) : Int := L.foldl (fun v u => if p u then u else v) (-1)
theorem vFold_snoc {p : Int → Bool} {L : List Int} {j : Nat} {u : Int} (h : L[j]? = some u) : vFold p (L.take (j + 1)) = if p u then u else vFold p (L.take j) := by
  unfold vFold
  rw [take_snoc h, List.foldl_append]; rfl
def pI (s : List OpV) (o : OpV) (u : Int) : Bool := decide (commitI s u < firstI s o.tx) && (wI s u).testBit o.item.toNat
def verI (s : List OpV) (L : List Int) (k : Nat) (o : OpV) : Int := if (wI (s.take k) o.tx).testBit o.item.toNat then o.tx else vFold (pI s o) L

set_option maxRecDepth 100000 in
set_option maxHeartbeats 4000000 in
theorem versionOf_any (A LA : Option Addr) (n c lc k : Nat) (s : List OpV) (L : List Int) (o : OpV) (w : World) (hx : ROps w A n s) (hL : RInts w LA L.length L) (ho : s[k]? = some o) (hnc : n ≤ c) (hi : itemsOk s) (hit : 0 ≤ o.item ∧ o.item ≤ 2) :
    Calls Try.prog 91 #[.slice A n c, .slice LA L.length lc, .int .i64 (k : Int)] w fun e w' => e = .returned (.int .i64 (verI s L k o)) ∧ Below w.heap.size w w' := by
  have hn := hx.2.1
  have hl := hx.1
  have hlenL := hL.2.1
  have hk : k < n := by have := (List.getElem?_eq_some_iff.1 ho).1; omega
  obtain ⟨b, off, o', rfl, hbl, ho', c0, c1, c2⟩ := hx.at_ hk
  rw [ho] at ho'
  injection ho' with ho'
  subst ho'
  obtain ⟨T, kd, it⟩ := o
  simp only at c0 c1 c2 hit
  obtain ⟨X, rfl⟩ := Int.eq_ofNat_of_zero_le hit.1
  have hres : verI s L k ⟨T, kd, X⟩ = if (wI (s.take k) T).testBit X = true then T else vFold (pI s ⟨T, kd, X⟩) L := rfl
  obtain ⟨bw, hbw⟩ : ∃ bw, (wI (s.take k) T).testBit X = bw := ⟨_, rfl⟩
  have hwm := wTo_lt (s.take k) T (itemsOk_take hi k) (s.take k).length
  have hab := and_bit (wI (s.take k) T) X (by unfold wI; omega)
  rw [hbw] at hab hres
  have HRES := Lib.hid hres
  have hWr : ∀ (W : World), Below w.heap.size w W → Calls Try.prog 118 #[.slice (some ⟨b, off, none⟩) k c, .int .i64 T] W fun e w' => e = .returned (.int .i64 (wI (s.take k) T : Nat)) ∧ Below W.heap.size W w' := fun W hW =>
    writesOf_any _ k c (s.take k) T W ((hx.take (by omega)).below hW (Nat.le_refl _)) (itemsOk_take hi k)
  have HWr := Lib.hid hWr
  have HX := Lib.hid hx
  have HL := Lib.hid hL
  have HI := Lib.hid hi
  generalize hM : wI (s.take k) T = M at *
  clear hWr hres hbw hx hL hi hM hwm ho
  have hkc : (k : Int) ≤ (c : Int) := by omega
  have hk0 : (0 : Int) ≤ (k : Int) := by omega
  have hX0 : (0 : Int) ≤ (X : Int) := by omega
  have hX2 : X ≤ 2 := by omega
  clear hit
  cases bw
  · go_enter Try.func91, Try.ntmps91
    go_wp2_with fail
    obtain ⟨W, hW⟩ : ∃ W : World, W = w.alloc (.cells #[.int .i64 T, .int .i64 kd, .int .i64 (X : Int)] 46) := ⟨_, rfl⟩
    rw [← hW]
    obtain ⟨L0, L1, L2, hbW, hWs⟩ := op_box hW
    clear hW
    refine region_later (by kernel_rfl) (by kernel_rfl) ?_
    repeat (go_big_quiet_step ((first | (go_at_call 118; exact later_call _ (HWr.out _ (hbW.trans (Later.below_ _ hbW.size)))))))
    refine wpQuiet_nil ?_
    rintro _ ⟨u, rfl⟩
    go_wp2_with fail
    have d0 := L0 u
    have d2 := L2 u
    have hbu := hbW.trans (Later.below_ u hbW.size)
    obtain ⟨ui, hui⟩ : ∃ ui : World, u.1 = ui := ⟨_, rfl⟩
    rw [hui] at d0 d2 hbu
    rw [hui]
    clear L0 L1 L2 hui HWr
    go_loopw [8, 30] (fun v j wr => ∃ q : Nat, q ≤ L.length ∧ j = .int .i64 q ∧ v = .int .i64 (vFold (pI s ⟨T, kd, X⟩) (L.take q)) ∧ Below ui.heap.size ui wr) (fun _ j _ => L.length - (intOf j).toNat)
    case atStart => exact ⟨0, Nat.zero_le _, rfl, rfl, Below.refl _ _⟩
    case round =>
      obtain ⟨q, hq, rfl, rfl, hb⟩ := hrel
      have hbw := hbu.trans (hb.mono hbu.size)
      by_cases hlt : q < L.length
      · obtain ⟨bo, offo, U, rfl, hbo, hxx, hcx⟩ := (HL.out.below hbw (Nat.le_refl _)).at_ hlt
        have hsn := Lib.hid (vFold_snoc (p := pI s ⟨T, kd, X⟩) hxx)
        have hxs := HX.out.below hbw (Nat.le_refl _)
        have hC : ∀ v : Later wr, Calls Try.prog 85 #[.slice (some ⟨b, off, none⟩) n c, .int .i64 U] v.1 fun e w' => e = .returned (.int .i64 (commitI s U)) ∧ Below v.1.heap.size v.1 w' := fun v => commitOf_any _ n c s U v.1 (hxs.later v)
        have hF : ∀ v : Later wr, Calls Try.prog 84 #[.slice (some ⟨b, off, none⟩) n c, .int .i64 T] v.1 fun e w' => e = .returned (.int .i64 (firstI s T)) ∧ Below v.1.heap.size v.1 w' := fun v => firstOf_any _ n c s T v.1 (hxs.later v)
        have hW2 : ∀ v : Later wr, Calls Try.prog 118 #[.slice (some ⟨b, off, none⟩) n c, .int .i64 U] v.1 fun e w' => e = .returned (.int .i64 (wI s U : Nat)) ∧ Below v.1.heap.size v.1 w' := fun v => writesOf_any _ n c s U v.1 (hxs.later v) HI.out
        have HC := Lib.hid hC
        have HF := Lib.hid hF
        have HW2 := Lib.hid hW2
        obtain ⟨b3, hb3⟩ : ∃ b3, (wI s U).testBit X = b3 := ⟨_, rfl⟩
        have hwm2 := wTo_lt s U HI.out s.length
        have hab2 := and_bit (wI s U) X (by unfold wI; omega)
        rw [hb3] at hab2
        obtain ⟨cU, hcU⟩ : ∃ z, commitI s U = z := ⟨_, rfl⟩
        obtain ⟨fT, hfT⟩ : ∃ z, firstI s T = z := ⟨_, rfl⟩
        have hfi : pI s ⟨T, kd, X⟩ U = (decide (cU < fT) && b3) := by
          unfold pI
          simp only [Int.toNat_natCast]
          rw [hb3, hcU, hfT]
        rw [hcU] at HC
        rw [hfT] at HF
        generalize hM2 : wI s U = M2 at *
        obtain ⟨b2, hb2⟩ : ∃ b2, decide (cU < fT) = b2 := ⟨_, rfl⟩
        rw [hb2] at hfi
        have hb2' := hb2
        have HFI := Lib.hid hfi
        have e0 := (hb.cell (p := ⟨w.heap.size, 0, none⟩) (block_lt_of_cell d0)).trans d0
        have e2 := (hb.cell (p := ⟨w.heap.size, 2, none⟩) (block_lt_of_cell d2)).trans d2
        have M0 := Later.cell e0
        have M2' := Later.cell e2
        generalize hV : vFold (pI s ⟨T, kd, X⟩) (L.take q) = V at *
        have HV := Lib.hid hV
        clear hC hF hW2 hxs hxx hcU hfT hM2 hwm2 hfi hb3 hb2 hV
        cases b2
        · go_wp2_with fail
          refine region_later (by kernel_rfl) (by kernel_rfl) ?_
          repeat (go_big_quiet_step ((first | (go_at_call 85; exact later_call _ (HC.out _)) | (go_at_call 84; exact later_call _ (HF.out _)) | (go_at_call 118; exact later_call _ (HW2.out _)))))
          refine wpQuiet_nil ?_
          rintro _ ⟨u2, rfl⟩
          go_wp2_with fail
          go_roundw
          case rel => exact ⟨q + 1, by omega, by go_num, by rw [hsn.out, HFI.out]; rfl, hb.trans (u2.2.mono hb.size)⟩
          case measure => simp [intOf]; omega
        · cases b3
          · go_wp2_with fail
            refine region_later (by kernel_rfl) (by kernel_rfl) ?_
            repeat (go_big_quiet_step ((first | (go_at_call 85; exact later_call _ (HC.out _)) | (go_at_call 84; exact later_call _ (HF.out _)) | (go_at_call 118; exact later_call _ (HW2.out _)))))
            refine wpQuiet_nil ?_
            rintro _ ⟨u2, rfl⟩
            go_wp2_with fail
            go_roundw
            case rel => exact ⟨q + 1, by omega, by go_num, by rw [hsn.out, HFI.out]; rfl, hb.trans (u2.2.mono hb.size)⟩
            case measure => simp [intOf]; omega
          · go_wp2_with fail
            refine region_later (by kernel_rfl) (by kernel_rfl) ?_
            repeat (go_big_quiet_step ((first | (go_at_call 85; exact later_call _ (HC.out _)) | (go_at_call 84; exact later_call _ (HF.out _)) | (go_at_call 118; exact later_call _ (HW2.out _)))))
            refine wpQuiet_nil ?_
            rintro _ ⟨u2, rfl⟩
            go_wp2_with fail
            go_roundw
            case rel => exact ⟨q + 1, by omega, by go_num, by rw [hsn.out, HFI.out]; rfl, hb.trans (u2.2.mono hb.size)⟩
            case measure => simp [intOf]; omega
      · have hfin : Hid (vFold (pI s ⟨T, kd, X⟩) (L.take q) = verI s L k ⟨T, kd, X⟩) := by
          show _ = _
          rw [HRES.out, List.take_of_length_le (by omega)]; rfl
        go_wp2_with fail
        go_ret
        exact ⟨ret_int hfin.out, hbw⟩
  · go_enter Try.func91, Try.ntmps91
    go_wp2_with fail
    obtain ⟨W, hW⟩ : ∃ W : World, W = w.alloc (.cells #[.int .i64 T, .int .i64 kd, .int .i64 (X : Int)] 46) := ⟨_, rfl⟩
    rw [← hW]
    obtain ⟨L0, L1, L2, hbW, hWs⟩ := op_box hW
    clear hW
    refine region_later (by kernel_rfl) (by kernel_rfl) ?_
    repeat (go_big_quiet_step ((first | (go_at_call 118; exact later_call _ (HWr.out _ (hbW.trans (Later.below_ _ hbW.size)))))))
    refine wpQuiet_nil ?_
    rintro _ ⟨u, rfl⟩
    have d0 := L0 u
    go_wp2_with fail
    go_ret
    exact ⟨ret_int (by rw [HRES.out]; rfl), hbW.trans (Later.below_ u hbW.size)⟩
end Go.Proofs.Ytofcpfabjfhjoaa
namespace Go.Proofs.Ytofcpfabjfhjoaa
set_option linter.unusedVariables false

theorem validS_iff (s : List OpV) : validS s = true ↔ s.length ≤ 16 ∧ (∀ o ∈ s, validOp o = true) ∧ s.Pairwise (fun a b => isEnd a = true → a.tx ≠ b.tx) := by
  constructor
  · intro h
    refine ⟨?_, validS_ops h, ?_⟩
    · unfold validS at h
      simp only [Bool.and_eq_true, decide_eq_true_eq] at h
      exact h.1
    · rw [List.pairwise_iff_getElem]
      intro i j hi hj hij he ht
      unfold validS at h
      simp only [Bool.and_eq_true, List.all_eq_true] at h
      have := h.2 j (List.mem_range.2 hj)
      unfold goodAt at this
      rw [List.getElem?_eq_getElem hj] at this
      simp only [Bool.and_eq_true] at this
      have h2 := this.2
      rw [noEnd_false (k := i) (o := s[i]) hij (List.getElem?_eq_getElem hi) (by rw [he, ht]; simp)] at h2
      cases h2
  · rintro ⟨h1, h2, h3⟩
    unfold validS
    simp only [Bool.and_eq_true, decide_eq_true_eq, List.all_eq_true]
    refine ⟨h1, fun j hj => ?_⟩
    have hj := List.mem_range.1 hj
    unfold goodAt
    rw [List.getElem?_eq_getElem hj]
    simp only [Bool.and_eq_true]
    refine ⟨h2 _ (List.getElem_mem hj), noEnd_true (fun k hk o ho => ?_)⟩
    have hk' : k < s.length := by omega
    rw [List.getElem?_eq_getElem hk'] at ho
    injection ho with ho
    subst ho
    rw [List.pairwise_iff_getElem] at h3
    have := h3 k j hk' hj hk
    cases he : isEnd s[k]
    · simp
    · simpa [he] using this he
/-- What is left when whole operations are dropped is a schedule. -/
theorem validS_sub {s t : List OpV} (h : validS s = true) (hs : List.Sublist t s) : validS t = true := by
  rw [validS_iff] at *
  exact ⟨Nat.le_trans hs.length_le h.1, fun o ho => h.2.1 o (hs.subset ho), List.Pairwise.sublist hs h.2.2⟩
theorem validS_committed {s : List OpV} (h : validS s = true) : validS (committed s) = true := validS_sub h List.filter_sublist
theorem validS_tx {s : List OpV} (h : validS s = true) {o : OpV} (ho : o ∈ s) : 0 ≤ o.tx ∧ o.tx ≤ 3 := by
  have := validS_ops h o ho
  simp [validOp, inR] at this
  omega
theorem validS_end0 {s : List OpV} (h : validS s = true) {o : OpV} (ho : o ∈ s) (hk : o.kind = 2 ∨ o.kind = 3) : o.item = 0 := by
  have := validS_ops h o ho
  rcases hk with hk | hk <;> simp [validOp, isAcc, isEnd, hk] at this <;> exact this.2
/-- Behind the end of a transaction stands none of it. -/
theorem validS_after {s : List OpV} (h : validS s = true) {i j : Nat} {a b : OpV} (hi : s[i]? = some a) (hj : s[j]? = some b) (he : isEnd a = true) (ht : a.tx = b.tx) : j ≤ i := by
  rcases Nat.lt_or_ge i j with hij | hij
  · exfalso
    obtain ⟨hil, hia⟩ := List.getElem?_eq_some_iff.1 hi
    obtain ⟨hjl, hjb⟩ := List.getElem?_eq_some_iff.1 hj
    have := List.pairwise_iff_getElem.1 ((validS_iff s).1 h).2.2 i j hil hjl hij
    rw [hia, hjb] at this
    exact this he ht
  · exact hij
theorem isEnd_two {o : OpV} (h : o.kind = 2) : isEnd o = true := by simp [isEnd, h]

/-- A transaction with a commit ends with it. -/
theorem endOf_commit {s : List OpV} (h : validS s = true) {o : OpV} (ho : o ∈ s) (hk : o.kind = 2) : endOf s o.tx = 2 := by
  obtain ⟨k, hk'⟩ := List.mem_iff_getElem?.1 ho
  have := endOf_hit s o.tx k o hk' (fun j hj q hq => by
    cases hq2 : (q.tx == o.tx && isEnd q)
    · rfl
    · simp only [Bool.and_eq_true, beq_iff_eq] at hq2
      have := validS_after h hq hk' hq2.2 hq2.1
      omega) (by simp [isEnd, hk])
  rw [this, hk]
theorem endOf_two {s : List OpV} {t : Int} (h : endOf s t = 2) : ∃ o ∈ s, o.tx = t ∧ o.kind = 2 := by
  unfold endOf at h
  cases hf : s.find? (fun o => o.tx == t && isEnd o) with
  | none => rw [hf] at h; simp at h
  | some o =>
    rw [hf] at h
    have h1 := List.find?_some hf
    simp only [Bool.and_eq_true, beq_iff_eq] at h1
    exact ⟨o, List.mem_of_find?_eq_some hf, h1.1, by simpa using h⟩
theorem endOf_two_iff {s : List OpV} (h : validS s = true) (t : Int) : endOf s t = 2 ↔ ∃ o ∈ s, o.tx = t ∧ o.kind = 2 := by
  constructor
  · exact endOf_two
  · rintro ⟨o, ho, rfl, hk⟩
    exact endOf_commit h ho hk
theorem mem_committed {s : List OpV} {o : OpV} : o ∈ committed s ↔ o ∈ s ∧ endOf s o.tx = 2 := by
  unfold committed
  rw [List.mem_filter]
  simp
theorem hasTx_iff {s : List OpV} {t : Int} : hasTx s t = true ↔ ∃ o ∈ s, o.tx = t := by
  unfold hasTx
  rw [List.any_eq_true]
  simp
theorem mem_txsOf {s : List OpV} (h : validS s = true) {t : Int} : t ∈ txsOf s ↔ ∃ o ∈ s, o.tx = t := by
  unfold txsOf
  rw [List.mem_filter, hasTx_iff]
  constructor
  · exact fun h => h.2
  · rintro ⟨o, ho, rfl⟩
    have := validS_tx h ho
    refine ⟨?_, o, ho, rfl⟩
    have : o.tx = 0 ∨ o.tx = 1 ∨ o.tx = 2 ∨ o.tx = 3 := by omega
    rcases this with e | e | e | e <;> rw [e] <;> simp
theorem nodup_txsOf (s : List OpV) : (txsOf s).Nodup := by
  unfold txsOf
  exact List.Pairwise.filter _ (by decide)
theorem mem_txs_committed {s : List OpV} (h : validS s = true) {t : Int} : t ∈ txsOf (committed s) ↔ endOf s t = 2 := by
  rw [mem_txsOf (validS_committed h)]
  constructor
  · rintro ⟨o, ho, rfl⟩
    exact (mem_committed.1 ho).2
  · intro he
    obtain ⟨o, ho, rfl, hk⟩ := endOf_two he
    exact ⟨o, mem_committed.2 ⟨ho, he⟩, rfl⟩

/-- The first place of a transaction that is there. -/
theorem firstTo_eq (s : List OpV) (t : Int) (k : Nat) (hk : k ≤ s.length) : firstTo s t k = if stampN s t < k then (stampN s t : Int) else -1 := by
  induction k with
  | zero => simp [firstTo]
  | succ k ih =>
    have ih := ih (by omega)
    have hat : isAt s k t = ((s[k]'(by omega)).tx == t) := by unfold isAt; rw [List.getElem?_eq_getElem (by omega)]
    simp only [firstTo, ih, hat]
    unfold stampN at *
    obtain ⟨f, hf⟩ : ∃ f, (s.findIdx fun o => o.tx == t) = f := ⟨_, rfl⟩
    have hget : ∀ q, s[f]? = some q → (q.tx == t) = true := by
      intro q hq
      obtain ⟨hl, he⟩ := List.getElem?_eq_some_iff.1 hq
      subst hf
      rw [← he]
      exact @List.findIdx_getElem _ (fun o : OpV => o.tx == t) s hl
    have hnot : k < f → ((s[k]'(by omega)).tx == t) = false := by
      intro hkf
      subst hf
      exact List.not_of_lt_findIdx (p := fun o : OpV => o.tx == t) hkf
    rw [hf]
    clear ih hf
    rcases Nat.lt_trichotomy f k with h | h | h
    · have e2 : f < k + 1 := by omega
      rw [if_pos h, if_pos e2, if_neg (fun h => by omega)]
    · subst h
      have e2 : f < f + 1 := by omega
      have hh := hget _ (List.getElem?_eq_getElem (by omega))
      rw [if_neg (Nat.lt_irrefl f), if_pos e2, if_pos ⟨by omega, hh⟩]
    · have e1 : ¬ f < k := by omega
      have e2 : ¬ f < k + 1 := by omega
      have hh := hnot h
      rw [if_neg e1, if_neg e2, if_neg]
      rintro ⟨_, h2⟩
      rw [hh] at h2
      cases h2
theorem findIdx_congr {s : List OpV} {p q : OpV → Bool} (h : ∀ o ∈ s, p o = q o) : s.findIdx p = s.findIdx q := by
  induction s with
  | nil => rfl
  | cons x r ih =>
    rw [List.findIdx_cons, List.findIdx_cons, h x (by simp), ih (fun o ho => h o (by simp [ho]))]
theorem firstI_eq {s : List OpV} {o : OpV} (ho : o ∈ s) : firstI s o.tx = (stampN s o.tx : Int) := by
  unfold firstI
  have : stampN s o.tx < s.length := List.findIdx_lt_length.2 ⟨o, ho, by simp⟩
  rw [firstTo_eq s _ _ (Nat.le_refl _), if_pos this]
theorem commitI_eq {s : List OpV} (h : validS s = true) {o : OpV} (ho : o ∈ s) (hk : o.kind = 2) : commitI s o.tx = (commitN s o.tx : Int) := by
  have hi := validS_end0 h ho (.inl hk)
  have hmem : (⟨o.tx, 2, 0⟩ : OpV) ∈ s := by
    have : (⟨o.tx, 2, 0⟩ : OpV) = o := by obtain ⟨t, k, i⟩ := o; simp only at hk hi; subst hk; subst hi; rfl
    rw [this]; exact ho
  unfold commitI idxI commitN
  have h1 : s.any (fun q => q == ⟨o.tx, 2, 0⟩) = true := List.any_eq_true.2 ⟨_, hmem, by simp⟩
  rw [h1, if_pos rfl]
  congr 1
  have : ∀ q ∈ s, (q == (⟨o.tx, 2, 0⟩ : OpV)) = (q.tx == o.tx && q.kind == 2) := by
    intro q hq
    rw [Bool.eq_iff_iff]
    simp only [beq_iff_eq, Bool.and_eq_true]
    constructor
    · rintro rfl; exact ⟨rfl, rfl⟩
    · rintro ⟨h1, h2⟩
      have := validS_end0 h hq (.inl h2)
      obtain ⟨t, k, i⟩ := q
      simp only at h1 h2 this
      subst h1; subst h2; subst this; rfl
  exact findIdx_congr this

/-- What a transaction writes, bit by bit. -/
theorem wTo_bit (s : List OpV) (t : Int) (x : Nat) (h : itemsOk s) (k : Nat) (hk : k ≤ s.length) : (wTo s t k).testBit x = touchB s k t 1 (x : Int) := by
  induction k with
  | zero => simp [wTo, touchB]
  | succ k ih =>
    have ih := ih (by omega)
    have e : s[k]? = some (s[k]'(by omega)) := List.getElem?_eq_getElem (by omega)
    have hst : touchB s (k + 1) t 1 x = (touchB s k t 1 x || ((s[k]'(by omega)).tx == t && (s[k]'(by omega)).kind == 1 && (s[k]'(by omega)).item == x)) := by
      unfold touchB
      rw [take_snoc e, List.any_append]; simp
    simp only [wTo, e]
    rw [hst, ← ih]
    cases hc : ((s[k]'(by omega)).tx == t && (s[k]'(by omega)).kind == 1)
    · simp
    · simp only [Bool.and_eq_true, beq_iff_eq] at hc
      have hi := h _ (List.getElem_mem (by omega)) hc.2
      simp only [if_true, Nat.testBit_or, Nat.one_shiftLeft, Nat.testBit_two_pow, Bool.true_and]
      congr 1
      rw [Bool.eq_iff_iff]
      simp only [decide_eq_true_eq, beq_iff_eq]
      omega
theorem touchB_iff {s : List OpV} {t k x : Int} : touchB s s.length t k x = true ↔ ∃ o ∈ s, o.tx = t ∧ o.kind = k ∧ o.item = x := by
  unfold touchB
  rw [List.take_length, List.any_eq_true]
  simp [and_assoc]
theorem and_ne_zero {a b : Nat} (ha : a < 8) (hb : b < 8) : ((a &&& b) != 0) = ((a.testBit 0 && b.testBit 0) || (a.testBit 1 && b.testBit 1) || (a.testBit 2 && b.testBit 2)) := by
  have : ∀ x : Fin 8, ∀ y : Fin 8, (((x : Nat) &&& (y : Nat)) != 0) = (((x : Nat).testBit 0 && (y : Nat).testBit 0) || ((x : Nat).testBit 1 && (y : Nat).testBit 1) || ((x : Nat).testBit 2 && (y : Nat).testBit 2)) := by decide
  exact this ⟨a, ha⟩ ⟨b, hb⟩
theorem meets_eq {s : List OpV} (h : itemsOk s) (t u : Int) : ((wI s u &&& wI s t) != 0) = meetsB s t u := by
  unfold wI
  rw [and_ne_zero (wTo_lt s u h _) (wTo_lt s t h _)]
  rw [wTo_bit s u 0 h _ (Nat.le_refl _), wTo_bit s u 1 h _ (Nat.le_refl _), wTo_bit s u 2 h _ (Nat.le_refl _), wTo_bit s t 0 h _ (Nat.le_refl _), wTo_bit s t 1 h _ (Nat.le_refl _), wTo_bit s t 2 h _ (Nat.le_refl _)]
  unfold meetsB
  simp only [List.any_cons, List.any_nil, Bool.or_false]
  rw [Bool.and_comm (touchB s s.length u 1 _), Bool.and_comm (touchB s s.length u 1 _), Bool.and_comm (touchB s s.length u 1 _), Bool.or_assoc]
  rfl
end Go.Proofs.Ytofcpfabjfhjoaa
namespace Go.Proofs.Ytofcpfabjfhjoaa
set_option linter.unusedVariables false

/-- What is known of the survivors among the first k operations: each has its commit there. -/
def Surv (s : List OpV) (k : Nat) (out : List Int) : Prop := (∀ u ∈ out, ∃ j o, j < k ∧ s[j]? = some o ∧ o.tx = u ∧ o.kind = 2) ∧ out.Nodup

theorem findIdx_at {s : List OpV} {p : OpV → Bool} {o : OpV} (ho : o ∈ s) (hp : p o = true) : ∃ q, s[s.findIdx p]? = some q ∧ p q = true := by
  have hl : s.findIdx p < s.length := List.findIdx_lt_length.2 ⟨o, ho, hp⟩
  exact ⟨_, List.getElem?_eq_getElem hl, @List.findIdx_getElem _ p s hl⟩
theorem stampN_at {s : List OpV} {o : OpV} (ho : o ∈ s) : ∃ q, s[stampN s o.tx]? = some q ∧ q.tx = o.tx := by
  obtain ⟨q, h1, h2⟩ := findIdx_at (p := fun x : OpV => x.tx == o.tx) ho (by simp)
  exact ⟨q, h1, by simpa using h2⟩
theorem commitN_at {s : List OpV} {o : OpV} (ho : o ∈ s) (hk : o.kind = 2) : ∃ q, s[commitN s o.tx]? = some q ∧ q.tx = o.tx ∧ q.kind = 2 := by
  obtain ⟨q, h1, h2⟩ := findIdx_at (p := fun x : OpV => x.tx == o.tx && x.kind == 2) ho (by simp [hk])
  exact ⟨q, h1, by simpa using h2⟩
theorem against_eq {s : List OpV} (h : validS s = true) {k : Nat} {o : OpV} (ho : s[k]? = some o) (hk : o.kind = 2) {out : List Int} (hs : Surv s k out) {u : Int} (hu : u ∈ out) :
    agI s o.tx u = !fS s o.tx u := by
  obtain ⟨j, q, hj, hq, rfl, hqk⟩ := hs.1 u hu
  have hom := List.mem_of_getElem? ho
  have hqm := List.mem_of_getElem? hq
  have hi := validS_items h
  unfold agI fS
  rw [meets_eq hi, firstI_eq hom, commitI_eq h hqm hqk]
  have hne : commitN s q.tx ≠ stampN s o.tx := by
    intro e
    obtain ⟨p, h1, h1', _⟩ := commitN_at hqm hqk
    obtain ⟨p', h2, h2'⟩ := stampN_at hom
    rw [e, h2] at h1
    injection h1 with h1
    subst h1
    have := validS_after h hq ho (isEnd_two hqk) (h1'.symm.trans h2')
    omega
  cases hm : meetsB s o.tx q.tx
  · simp
  · simp only [Bool.and_true, Bool.not_true, Bool.or_false]
    rw [Bool.eq_iff_iff]
    simp
    omega
theorem surv_step {s : List OpV} (h : validS s = true) {k : Nat} {o : OpV} (ho : s[k]? = some o) {out : List Int} (hs : Surv s k out) :
    survStep s out o = sStep s out o ∧ Surv s (k + 1) (sStep s out o) := by
  have hw : Surv s (k + 1) out := ⟨fun u hu => by obtain ⟨j, q, hj, r⟩ := hs.1 u hu; exact ⟨j, q, by omega, r⟩, hs.2⟩
  unfold survStep sStep
  by_cases hk : o.kind = 2
  · have e : out.any (agI s o.tx) = !out.all (fS s o.tx) := by
      rw [List.not_all_eq_any_not]
      rw [Bool.eq_iff_iff, List.any_eq_true, List.any_eq_true]
      constructor
      · rintro ⟨u, hu, hx⟩; exact ⟨u, hu, by rw [← against_eq h ho hk hs hu]; exact hx⟩
      · rintro ⟨u, hu, hx⟩; exact ⟨u, hu, by rw [against_eq h ho hk hs hu]; exact hx⟩
    rw [e, Bool.not_not]
    refine ⟨rfl, ?_⟩
    split
    · refine ⟨?_, ?_⟩
      · intro u hu
        simp only [List.mem_append, List.mem_singleton] at hu
        rcases hu with hu | rfl
        · exact hw.1 u hu
        · exact ⟨k, o, by omega, ho, rfl, hk⟩
      · rw [List.nodup_append]
        refine ⟨hs.2, by simp, ?_⟩
        intro a ha b hb
        simp only [List.mem_singleton] at hb
        subst hb
        rintro rfl
        obtain ⟨j, q, hj, hq, hqt, hqk⟩ := hs.1 _ ha
        have := validS_after h hq ho (isEnd_two hqk) hqt
        omega
    · exact hw
  · have hk' : (o.kind == 2) = false := by simpa using hk
    rw [hk']
    exact ⟨rfl, hw⟩
theorem survTo_eq {s : List OpV} (h : validS s = true) (k : Nat) (hk : k ≤ s.length) : survTo s k = sTo s k ∧ Surv s k (sTo s k) := by
  induction k with
  | zero => exact ⟨rfl, by unfold Surv sTo; simp⟩
  | succ k ih =>
    obtain ⟨ih1, ih2⟩ := ih (by omega)
    have e : s[k]? = some (s[k]'(by omega)) := List.getElem?_eq_getElem (by omega)
    rw [survTo_succ e, sTo_succ e, ih1]
    exact surv_step h e ih2
theorem surv_eq {s : List OpV} (h : validS s = true) : survI s = survS s := by
  rw [← survTo_all (Nat.le_refl _), ← sTo_all (Nat.le_refl _)]
  exact (survTo_eq h _ (Nat.le_refl _)).1
theorem surv_known {s : List OpV} (h : validS s = true) : Surv s s.length (survS s) := by
  rw [← sTo_all (Nat.le_refl _)]
  exact (survTo_eq h _ (Nat.le_refl _)).2
theorem surv_commit {s : List OpV} (h : validS s = true) {u : Int} (hu : u ∈ survS s) : ∃ o ∈ s, o.tx = u ∧ o.kind = 2 := by
  obtain ⟨j, o, _, ho, h1, h2⟩ := (surv_known h).1 u hu
  exact ⟨o, List.mem_of_getElem? ho, h1, h2⟩
theorem surv_end {s : List OpV} (h : validS s = true) {u : Int} (hu : u ∈ survS s) : endOf s u = 2 := (endOf_two_iff h u).2 (surv_commit h hu)

/-! ### serial schedules -/

theorem ser_at {s : List OpV} (h : isSer s = true) {k : Nat} {o : OpV} (ho : s[k]? = some o) (hk : 0 < k) {q : OpV} (hq : s[k - 1]? = some q) (hne : q.tx ≠ o.tx) : ∀ j p, j < k → s[j]? = some p → p.tx ≠ o.tx := by
  intro j p hj hp ht
  unfold isSer at h
  rw [List.all_eq_true] at h
  have hl : k < s.length := (List.getElem?_eq_some_iff.1 ho).1
  have := h k (List.mem_range.2 hl)
  have hb : serBad s k = true := by
    unfold serBad
    rw [ho, hq]
    simp only [Bool.and_eq_true, bne_iff_ne]
    refine ⟨fun e => hne e.symm, ?_⟩
    unfold hasTx
    exact List.any_eq_true.2 ⟨p, List.mem_of_getElem? (i := j) (by rw [List.getElem?_take, if_pos hj]; exact hp), by simpa using ht⟩
  rw [hb] at this
  simp at this
  omega
/-- Between two operations of one transaction stand operations of this one alone. -/
theorem ser_between {s : List OpV} (h : isSer s = true) {i j : Nat} {a b : OpV} (hi : s[i]? = some a) (hj : s[j]? = some b) (ht : a.tx = b.tx) : ∀ k c, i ≤ k → k ≤ j → s[k]? = some c → c.tx = a.tx := by
  have key : ∀ d k c, k + d = j → i ≤ k → s[k]? = some c → c.tx = a.tx := by
    intro d
    induction d with
    | zero =>
      intro k c hk _ hc
      obtain rfl : k = j := by omega
      rw [hj] at hc; injection hc with hc; rw [← hc, ht]
    | succ d ih =>
      intro k c hk hik hc
      have hjl : j < s.length := (List.getElem?_eq_some_iff.1 hj).1
      have e : s[k + 1]? = some (s[k + 1]'(by omega)) := List.getElem?_eq_getElem (by omega)
      have h1 := ih (k + 1) _ (by omega) (by omega) e
      by_cases hne : c.tx = (s[k + 1]'(by omega)).tx
      · rw [hne, h1]
      · exfalso
        exact ser_at h e (by omega) (q := c) hc hne i a (by omega) hi h1.symm
  intro k c h1 h2 hc
  exact key (j - k) k c (by omega) h1 hc
theorem ser_surv {s : List OpV} (h : validS s = true) (hs : isSer s = true) (k : Nat) (hk : k ≤ s.length) : ∀ j o, j < k → s[j]? = some o → o.kind = 2 → o.tx ∈ sTo s k := by
  induction k with
  | zero => intro j o hj; omega
  | succ k ih =>
    intro j o hj ho h2
    have e : s[k]? = some (s[k]'(by omega)) := List.getElem?_eq_getElem (by omega)
    have hold : ∀ x ∈ sTo s k, x ∈ sTo s (k + 1) := by
      intro x hx
      rw [sTo_succ e]
      unfold sStep
      split
      · simp [hx]
      · exact hx
    by_cases hjk : j = k
    · subst hjk
      rw [sTo_succ ho]
      unfold sStep
      have hall : (sTo s j).all (fS s o.tx) = true := by
        rw [List.all_eq_true]
        intro u hu
        obtain ⟨i, q, hi, hq, rfl, hqk⟩ := (survTo_eq h j (by omega)).2.1 u hu
        unfold fS
        have hom := List.mem_of_getElem? ho
        have hqm := List.mem_of_getElem? hq
        have hlt : commitN s q.tx < stampN s o.tx := by
          have hne : q.tx ≠ o.tx := fun e => by
            have := validS_after h hq ho (isEnd_two hqk) e
            omega
          have hc : commitN s q.tx ≤ i := by
            rcases Nat.lt_or_ge i (commitN s q.tx) with hlt | hge
            · have hil : i < s.length := (List.getElem?_eq_some_iff.1 hq).1
              have := List.not_of_lt_findIdx (p := fun x : OpV => x.tx == q.tx && x.kind == 2) hlt
              rw [(List.getElem?_eq_some_iff.1 hq).2] at this
              simp [hqk] at this
            · exact hge
          have hst : stampN s o.tx < s.length := List.findIdx_lt_length.2 ⟨o, hom, by simp⟩
          have hsg := @List.findIdx_getElem _ (fun x : OpV => x.tx == o.tx) s hst
          simp only [beq_iff_eq] at hsg
          rcases Nat.lt_or_ge i (stampN s o.tx) with hlt | hge
          · omega
          · exfalso
            have := ser_between hs (List.getElem?_eq_getElem hst) ho hsg i q hge (by omega) hq
            exact hne (this.trans hsg)
        simp [hlt]
      have : (o.kind == 2) = true := by simpa using h2
      rw [this, hall]
      simp
    · exact hold _ (ih (by omega) j o (by omega) ho h2)
theorem ser_all {s : List OpV} (h : validS s = true) (hs : isSer s = true) : (survS s).length = (txsOf (committed s)).length := by
  refine List.Perm.length_eq ((List.perm_ext_iff_of_nodup (surv_known h).2 (nodup_txsOf _)).2 fun t => ?_)
  rw [mem_txs_committed h]
  constructor
  · intro ht; exact surv_end h ht
  · intro ht
    obtain ⟨o, ho, rfl, hk⟩ := endOf_two ht
    obtain ⟨j, hj⟩ := List.mem_iff_getElem?.1 ho
    have := ser_surv h hs s.length (Nat.le_refl _) j o (List.getElem?_eq_some_iff.1 hj).1 hj hk
    rwa [sTo_all (Nat.le_refl _)] at this
end Go.Proofs.Ytofcpfabjfhjoaa
namespace Go.Proofs.Ytofcpfabjfhjoaa
open Go.RowKit Go.BigFrame
set_option linter.unusedVariables false

/-- What the walk of againstOf keeps: the row of bits in block g, the list of survivors, the operations. -/
structure AgInv (w : World) (A : Option Addr) (n c : Nat) (s : List OpV) (LA : Option Addr) (m : Nat) (L : List Int) (g : Nat) (rows : List Nat) (wr : World) : Prop where
  below : Below w.heap.size w wr
  row : RowIs wr g 3 (intCells (rowsI rows))
  list : RInts wr LA m L
theorem AgInv.later {w wr W : World} {A LA : Option Addr} {n c m g : Nat} {s : List OpV} {L : List Int} {rows : List Nat} (h : AgInv w A n c s LA m L g rows wr) (hb : Below wr.heap.size wr W) : AgInv w A n c s LA m L g rows W :=
  ⟨h.below.trans (hb.mono h.below.size), h.row.below hb (Nat.le_refl _), h.list.below hb (Nat.le_refl _)⟩
theorem AgInv.set {w wr : World} {A LA : Option Addr} {n c m g : Nat} {s : List OpV} {L : List Int} {rows : List Nat} {T : Nat} {u : Int} (h : AgInv w A n c s LA m L g rows wr) (hge : w.heap.size ≤ g) (hne : ∀ ad, LA = some ad → g ≠ ad.block) (hT : T ≤ 3) (h4 : Rows4 rows) {v : Int}
    (hv : v = ((rows.getD T 0 ||| (1 <<< u.toNat) : Nat) : Int)) : AgInv w A n c s LA m L g (rowSet rows T u) (wr.setCell ⟨g, T, none⟩ (.int .i64 v)) := by
  subst hv
  refine ⟨h.below.setCell (by simpa using hge) _, ?_, h.list.grown grown_set (fun b hb e => hne b hb (by injection e))⟩
  rw [rowsI_set]
  have := row_setInt (ys := rowsI rows) (more := []) (k := T) (v := ((rows.getD T 0 ||| (1 <<< u.toNat) : Nat) : Int)) (by simpa using h.row) (by simp [rowsI, h4.1]; omega)
  simpa using this

theorem grown_drew {w w' : World} {row : Option Nat} (h : w.grownBy w' row) : w.grownBy w'.drew row := ⟨h.os, h.tape, h.output, h.size, h.block⟩
theorem AgInv.drew {w wr : World} {A LA : Option Addr} {n c m g : Nat} {s : List OpV} {L : List Int} {rows : List Nat} (h : AgInv w A n c s LA m L g rows wr) : AgInv w A n c s LA m L g rows wr.drew := ⟨h.below.drew, h.row, h.list⟩
set_option maxRecDepth 100000 in
set_option maxHeartbeats 2000000 in
theorem againstOf_any (A : Option Addr) (n c : Nat) (s : List OpV) (w : World) (hx : ROps w A n s) (hnc : n ≤ c) (hv : validS s = true) :
    Calls Try.prog 82 #[.slice A n c] w (RetInts w (rowsI (agI4 s))) := by
  have hn := hx.2.1
  have hl := hx.1
  have HV := Lib.hid hv
  have HX := Lib.hid hx
  clear hx hv
  obtain ⟨i0, hi, hz0, hz1, hz2⟩ := info_parts intInfo
  go_enter Try.func82, Try.ntmps82
  go_wp2_with (at_make; refine wpList_make_full _ rfl _ _ 25 rfl w.heap.size 3 i0 _ 1 Try.underlying25 hi hz0 hz1 .i64 .i64 _ _ 4 rfl rfl rfl rfl (by rw [hz2]; omega) (by unfold maxLen; omega) (Nat.le_refl _) ?_; intro w1 hown1 hg1)
  have hb1 : Below w.heap.size w w1 := ⟨hg1.os, hg1.tape, hg1.output, hg1.size, fun k hk => hg1.block k hk (by simp)⟩
  have hrow : RowIs w1 w.heap.size 3 (intCells (rowsI [0, 0, 0, 0])) := by
    rcases hown1.2 with ⟨h1, _⟩ | ⟨g, cap, cur, h1, h2, h3, h4, h5, h6, h7⟩
    · cases h1
    · injection h1 with ha hb hc
      injection ha with ha
      injection ha with ha
      subst ha; subst hc
      unfold RowIs
      rw [h3]
      congr 2
      apply Array.ext'
      rw [List.take_of_length_le (by simpa using Nat.le_of_eq h6)] at h7
      rw [h7, made_ints]
      rfl
  have hlt1 := hrow.lt
  have HST := Lib.hid (And.intro hrow hb1)
  clear hown1 hb1 hg1 hrow hi hz0 hz1 hz2
  refine (survivorsOf_any A n c s w1 (HX.out.below HST.out.2 (Nat.le_refl _)) (validS_items HV.out)).mono ?_
  rintro e w2 ⟨LA, lc, rfl, hlc, ⟨hL, hLf⟩, hb2⟩
  have hlenL := hL.2.1
  have hne : ∀ ad, LA = some ad → w.heap.size ≠ ad.block := by
    intro ad had
    obtain ⟨b, cur, rfl, hge, _⟩ := hLf ad had
    simp only; omega
  have hlt2 : w.heap.size < w2.heap.size := Nat.lt_of_lt_of_le hlt1 hb2.size
  have HS2 : Hid (AgInv w A n c s LA (survI s).length (survI s) w.heap.size (agTo (gI s (survI s)) (fI s) (survI s) s 0) w2) :=
    ⟨HST.out.2.trans (hb2.mono HST.out.2.size), HST.out.1.below hb2 (Nat.le_refl _), hL⟩
  have HNE := Lib.hid hne
  have HR : Hid (∀ u ∈ survI s, 0 ≤ u ∧ u ≤ 3) := survI_rng HV.out
  have hgood : Hid (agI4 s = agTo (gI s (survI s)) (fI s) (survI s) s s.length) := rfl
  generalize hLL : survI s = L at *
  have HLL := Lib.hid hLL
  clear hL hLf hne HST hb2 hLL
  go_wp2_with fail
  go_loopw [14] (fun i wr => ∃ k : Nat, k ≤ n ∧ i = .int .i64 k ∧ AgInv w A n c s LA L.length L w.heap.size (agTo (gI s L) (fI s) L s k) wr) (fun i _ => n - (intOf i).toNat)
  case atStart => exact ⟨0, Nat.zero_le _, rfl, HS2.out⟩
  case round =>
    clear HS2
    obtain ⟨wo, rfl⟩ : ∃ wo : World, wo = wr := ⟨_, rfl⟩
    obtain ⟨k, hk, rfl, hI⟩ := hrel
    by_cases hlt : k < n
    · have hxr := HX.out.below hI.below (Nat.le_refl _)
      obtain ⟨b, off, o, rfl, hbl, ho, c0, c1, c2⟩ := hxr.at_ hlt
      have hom := List.mem_of_getElem? ho
      have htx := validS_tx3 HV.out hom
      have hit := validS_item HV.out hom
      have hstep := Lib.hid (agTo_succ (g := gI s L) (f := fI s) (list := L) ho)
      have HI := Lib.hid hI
      have hwm := wTo_lt (s.take k) o.tx (itemsOk_take (validS_items HV.out) k) (s.take k).length
      have hokR : Hid (Rows4 (agTo (gI s L) (fI s) L s k)) := agTo_ok HR.out k
      clear hxr ho hI
      obtain ⟨tx, kd, it⟩ := o
      simp only at hstep c0 c1 c2 htx hit hwm
      obtain ⟨T, rfl⟩ := Int.eq_ofNat_of_zero_le htx.1
      obtain ⟨X, rfl⟩ := Int.eq_ofNat_of_zero_le hit.1
      generalize hRR : agTo (gI s L) (fI s) L s k = R at *
      have HRR := Lib.hid hRR
      clear hRR
      have hT3 : T ≤ 3 := by omega
      have hX2 : X ≤ 2 := by omega
      clear htx hit
      -- the three parts of the test
      obtain ⟨bk, hbk⟩ : ∃ bk, (kd != 0) = bk := ⟨_, rfl⟩
      obtain ⟨bc, hbc⟩ : ∃ bc, (L.any fun y => y == (T : Int)) = bc := ⟨_, rfl⟩
      obtain ⟨bw, hbw⟩ : ∃ bw, (wI (s.take k) T).testBit X = bw := ⟨_, rfl⟩
      have hgI : gI s L k ⟨T, kd, X⟩ = (!bk && bc && !bw) := by
        unfold gI
        simp only [Int.toNat_natCast]
        rw [hbc, hbw]
        congr 2
        rw [← hbk, bne, Bool.not_not]
      have HG := Lib.hid hgI
      have hCo : ∀ (W : World), Below wo.heap.size wo W → Calls Try.prog 134 #[.slice LA L.length lc, .int .i64 (T : Int)] W fun e w' => e = .returned (.bool bc) ∧ Below W.heap.size W w' := fun W hW => by
        have := ContainsL_any LA L.length lc L T W (HI.out.list.below hW (Nat.le_refl _)); rw [hbc] at this; exact this
      have hWr : ∀ (W : World), Below wo.heap.size wo W → Calls Try.prog 118 #[.slice (some ⟨b, off, none⟩) k c, .int .i64 (T : Int)] W fun e w' => e = .returned (.int .i64 (wI (s.take k) T : Nat)) ∧ Below W.heap.size W w' := fun W hW =>
        writesOf_any _ k c (s.take k) T W (((HX.out.below HI.out.below (Nat.le_refl _)).take hk).below hW (Nat.le_refl _)) (itemsOk_take (validS_items HV.out) k)
      have hab := and_bit (wI (s.take k) T) X (by unfold wI; omega)
      rw [hbw] at hab
      have HCo := Lib.hid hCo
      have HWr := Lib.hid hWr
      have HBW := Lib.hid hbw
      clear hCo hWr hgI hbw hbc
      generalize hM : wI (s.take k) T = M at *
      clear hM hwm
      have hkc : (k : Int) ≤ (c : Int) := by omega
      have hk0 : (0 : Int) ≤ (k : Int) := by omega
      have hX0 : (0 : Int) ≤ (X : Int) := by omega
      cases bk
      · cases bc
        · -- not among the survivors
          go_wp2_with fail
          obtain ⟨W, hW⟩ : ∃ W : World, W = wo.alloc (.cells #[.int .i64 (T : Int), .int .i64 kd, .int .i64 (X : Int)] 46) := ⟨_, rfl⟩
          rw [← hW]
          obtain ⟨L0, L1, L2, hbW, hWs⟩ := op_box hW
          clear hW
          refine region_later (by kernel_rfl) (by kernel_rfl) ?_
          repeat (go_big_quiet_step ((first | (go_at_call 134; exact later_call _ (HCo.out _ (hbW.trans (Later.below_ _ hbW.size)))) | (go_at_call 118; exact later_call _ (HWr.out _ (hbW.trans (Later.below_ _ hbW.size)))))))
          refine wpQuiet_nil ?_
          rintro _ ⟨u, rfl⟩
          go_wp2_with fail
          go_roundw
          case rel => exact ⟨k + 1, by omega, by go_num, by rw [hstep.out, HG.out]; exact HI.out.later (hbW.trans (Later.below_ u hbW.size))⟩
          case measure => simp [intOf]; omega
        · cases bw
          · -- the test holds: the inner loop
            go_wp2_with fail
            obtain ⟨W, hW⟩ : ∃ W : World, W = wo.alloc (.cells #[.int .i64 (T : Int), .int .i64 kd, .int .i64 (X : Int)] 46) := ⟨_, rfl⟩
            rw [← hW]
            obtain ⟨L0, L1, L2, hbW, hWs⟩ := op_box hW
            clear hW
            refine region_later (by kernel_rfl) (by kernel_rfl) ?_
            repeat (go_big_quiet_step ((first | (go_at_call 134; exact later_call _ (HCo.out _ (hbW.trans (Later.below_ _ hbW.size)))) | (go_at_call 118; exact later_call _ (HWr.out _ (hbW.trans (Later.below_ _ hbW.size)))))))
            refine wpQuiet_nil ?_
            rintro _ ⟨u, rfl⟩
            go_wp2_with fail
            have hwl : w.heap.size < wo.heap.size := HI.out.row.lt
            have d0 := L0 u
            have d1 := L1 u
            have d2 := L2 u
            have hIu : Hid (AgInv w (some ⟨b, off, none⟩) n c s LA L.length L w.heap.size (agIn (fI s ⟨T, kd, X⟩) T (L.take 0) R) u.1) := HI.out.later (hbW.trans (Later.below_ u hbW.size))
            have husz : wo.heap.size < u.1.heap.size := block_lt_of_cell d0
            have hbo : wo.heap.size ≠ w.heap.size := by omega
            obtain ⟨ui, hui⟩ : ∃ ui : World, u.1 = ui := ⟨_, rfl⟩
            rw [hui] at d0 d1 d2 hIu husz
            rw [hui]
            clear L0 L1 L2 hui HCo HWr
            go_loopw [44] (fun j wr => ∃ q : Nat, q ≤ L.length ∧ j = .int .i64 q ∧ ui.grownBy wr (some w.heap.size) ∧ AgInv w (some ⟨b, off, none⟩) n c s LA L.length L w.heap.size (agIn (fI s ⟨T, kd, X⟩) T (L.take q) R) wr) (fun j _ => L.length - (intOf j).toNat)
            case atStart => exact ⟨0, Nat.zero_le _, rfl, World.grownBy.refl _ _, hIu.out⟩
            case round =>
              obtain ⟨q, hq, rfl, hgr, hJ⟩ := hrel
              clear hIu
              have e0 := hgr.cell d0 (by simpa using hbo)
              have e1 := hgr.cell d1 (by simpa using hbo)
              have e2 := hgr.cell d2 (by simpa using hbo)
              by_cases hlt2 : q < L.length
              · obtain ⟨bo, offo, x, hA, hbo2, hxx, hcx⟩ := hJ.list.at_ hlt2
                subst hA
                have hxr := HR.out x (List.mem_of_getElem? hxx)
                obtain ⟨U, rfl⟩ := Int.eq_ofNat_of_zero_le hxr.1
                have hU3 : U ≤ 3 := by omega
                have hsn := Lib.hid (agIn_snoc (f := fI s ⟨T, kd, X⟩) (t := T) (rows := R) hxx)
                have hok2 : Hid (Rows4 (agIn (fI s ⟨T, kd, X⟩) T (L.take q) R)) := agIn_ok (fun u hu => HR.out u (List.mem_of_mem_take hu)) hokR.out
                have HJ := Lib.hid hJ
                have hxs := HX.out.below hJ.below (Nat.le_refl _)
                have hC : ∀ v : Later wr, Calls Try.prog 85 #[.slice (some ⟨b, off, none⟩) n c, .int .i64 (U : Int)] v.1 fun e w' => e = .returned (.int .i64 (commitI s U)) ∧ Below v.1.heap.size v.1 w' := fun v => commitOf_any _ n c s U v.1 (hxs.later v)
                have hF : ∀ v : Later wr, Calls Try.prog 84 #[.slice (some ⟨b, off, none⟩) n c, .int .i64 (T : Int)] v.1 fun e w' => e = .returned (.int .i64 (firstI s T)) ∧ Below v.1.heap.size v.1 w' := fun v => firstOf_any _ n c s T v.1 (hxs.later v)
                have hW2 : ∀ v : Later wr, Calls Try.prog 118 #[.slice (some ⟨b, off, none⟩) n c, .int .i64 (U : Int)] v.1 fun e w' => e = .returned (.int .i64 (wI s U : Nat)) ∧ Below v.1.heap.size v.1 w' := fun v => writesOf_any _ n c s U v.1 (hxs.later v) (validS_items HV.out)
                have HC := Lib.hid hC
                have HF := Lib.hid hF
                have HW2 := Lib.hid hW2
                obtain ⟨b1, hb1⟩ : ∃ b1, ((U : Int) != (T : Int)) = b1 := ⟨_, rfl⟩
                obtain ⟨b3, hb3⟩ : ∃ b3, (wI s U).testBit X = b3 := ⟨_, rfl⟩
                have hwm2 := wTo_lt s U (validS_items HV.out) s.length
                have hab2 := and_bit (wI s U) X (by unfold wI; omega)
                rw [hb3] at hab2
                obtain ⟨cU, hcU⟩ : ∃ z, commitI s U = z := ⟨_, rfl⟩
                obtain ⟨fT, hfT⟩ : ∃ z, firstI s T = z := ⟨_, rfl⟩
                have hfi : fI s ⟨T, kd, X⟩ U = (b1 && decide (fT < cU) && b3) := by
                  unfold fI
                  simp only [Int.toNat_natCast]
                  rw [hb1, hb3, hcU, hfT]
                rw [hcU] at HC
                rw [hfT] at HF
                generalize hM2 : wI s U = M2 at *
                obtain ⟨b2, hb2⟩ : ∃ b2, decide (fT < cU) = b2 := ⟨_, rfl⟩
                rw [hb2] at hfi
                have hb2' := hb2
                have HFI := Lib.hid hfi
                have M0 := Later.cell e0
                have M1 := Later.cell e1
                have M2' := Later.cell e2
                have N0 := Later.cell hcx
                clear hC hF hW2 hxs hJ hxx hcU hfT hM2 hwm2 hfi hb3 hb2
                have hqi : (q : Int) < (L.length : Int) := by omega
                cases b1
                · skip
                  go_wp2_with fail
                  refine region_later (by kernel_rfl) (by kernel_rfl) ?_
                  repeat (go_big_quiet_step ((first | (go_at_call 85; exact later_call _ (HC.out _)) | (go_at_call 84; exact later_call _ (HF.out _)) | (go_at_call 118; exact later_call _ (HW2.out _)))))
                  refine wpQuiet_nil ?_
                  rintro _ ⟨u2, rfl⟩
                  go_wp2_with fail
                  go_roundw
                  case rel => exact ⟨q + 1, by omega, by go_num, hgr.trans (grown_below u2.2), by rw [hsn.out, HFI.out]; exact HJ.out.later u2.2⟩
                  case measure => simp [intOf]; omega
                · cases b2
                  · skip
                    go_wp2_with fail
                    refine region_later (by kernel_rfl) (by kernel_rfl) ?_
                    repeat (go_big_quiet_step ((first | (go_at_call 85; exact later_call _ (HC.out _)) | (go_at_call 84; exact later_call _ (HF.out _)) | (go_at_call 118; exact later_call _ (HW2.out _)))))
                    refine wpQuiet_nil ?_
                    rintro _ ⟨u2, rfl⟩
                    go_wp2_with fail
                    go_roundw
                    case rel => exact ⟨q + 1, by omega, by go_num, hgr.trans (grown_below u2.2), by rw [hsn.out, HFI.out]; exact HJ.out.later u2.2⟩
                    case measure => simp [intOf]; omega
                  · cases b3
                    · skip
                      go_wp2_with fail
                      refine region_later (by kernel_rfl) (by kernel_rfl) ?_
                      repeat (go_big_quiet_step ((first | (go_at_call 85; exact later_call _ (HC.out _)) | (go_at_call 84; exact later_call _ (HF.out _)) | (go_at_call 118; exact later_call _ (HW2.out _)))))
                      refine wpQuiet_nil ?_
                      rintro _ ⟨u2, rfl⟩
                      go_wp2_with fail
                      go_roundw
                      case rel => exact ⟨q + 1, by omega, by go_num, hgr.trans (grown_below u2.2), by rw [hsn.out, HFI.out]; exact HJ.out.later u2.2⟩
                      case measure => simp [intOf]; omega
                    · skip
                      go_wp2_with fail
                      refine region_later (by kernel_rfl) (by kernel_rfl) ?_
                      repeat (go_big_quiet_step ((first | (go_at_call 85; exact later_call _ (HC.out _)) | (go_at_call 84; exact later_call _ (HF.out _)) | (go_at_call 118; exact later_call _ (HW2.out _)))))
                      refine wpQuiet_nil ?_
                      rintro _ ⟨u2, rfl⟩
                      go_wp2_with fail
                      have hJu := HJ.out.later u2.2
                      obtain ⟨hat, hr16⟩ := rowsI_at hok2.out hT3
                      have hcr := hJu.row.cell hat
                      have hfz := hJu.row.frozen T
                      have m0 := M0 u2
                      obtain ⟨uj, huj⟩ : ∃ uj : World, u2.1 = uj := ⟨_, rfl⟩
                      have hgr2 := hgr.trans (grown_below u2.2)
                      rw [huj] at hJu hcr hfz m0 hgr2
                      rw [huj]
                      have HJU := Lib.hid hJu
                      obtain ⟨r, hr⟩ : ∃ r, (agIn (fI s ⟨T, kd, X⟩) T (L.take q) R).getD T 0 = r := ⟨_, rfl⟩
                      rw [hr] at hcr hr16
                      have HSET : Hid (∀ v : Int, v = ((r ||| (1 <<< ((U : Int)).toNat) : Nat) : Int) → AgInv w (some ⟨b, off, none⟩) n c s (some ⟨bo, offo, none⟩) L.length L w.heap.size (agIn (fI s ⟨T, kd, X⟩) T (L.take (q + 1)) R) (uj.setCell ⟨w.heap.size, T, none⟩ (.int .i64 v))) := by
                        intro v hv
                        rw [hsn.out, HFI.out]
                        refine (HJU.out.set (Nat.le_refl _) HNE.out hT3 hok2.out ?_)
                        rw [hr]; exact hv
                      clear hJu hat hr huj HC HF HW2 hb2' hab2 M0 M1 M2' N0 hcx e0 e1 e2 hsn HFI
                      have hT4 : (T : Int) < 4 := by omega
                      have hT0 : (0 : Int) ≤ (T : Int) := by omega
                      have hnw1 := World.new_ne uj _ hcr
                      rcases (by omega : U = 0 ∨ U = 1 ∨ U = 2 ∨ U = 3) with rfl | rfl | rfl | rfl
                      · have hor : bits .or .i64 (r : Int) 1 = ((r ||| 1 : Nat) : Int) := or_nat r 1 (by omega) (by omega)
                        go_region
                        go_wp2_with fail
                        go_roundw
                        case rel => exact ⟨q + 1, by omega, by go_num, grown_drew (hgr2.trans grown_set), (HSET.out _ rfl).drew⟩
                        case measure => simp [intOf]; omega
                      · have hor : bits .or .i64 (r : Int) 2 = ((r ||| 2 : Nat) : Int) := or_nat r 2 (by omega) (by omega)
                        go_region
                        go_wp2_with fail
                        go_roundw
                        case rel => exact ⟨q + 1, by omega, by go_num, grown_drew (hgr2.trans grown_set), (HSET.out _ rfl).drew⟩
                        case measure => simp [intOf]; omega
                      · have hor : bits .or .i64 (r : Int) 4 = ((r ||| 4 : Nat) : Int) := or_nat r 4 (by omega) (by omega)
                        go_region
                        go_wp2_with fail
                        go_roundw
                        case rel => exact ⟨q + 1, by omega, by go_num, grown_drew (hgr2.trans grown_set), (HSET.out _ rfl).drew⟩
                        case measure => simp [intOf]; omega
                      · have hor : bits .or .i64 (r : Int) 8 = ((r ||| 8 : Nat) : Int) := or_nat r 8 (by omega) (by omega)
                        go_region
                        go_wp2_with fail
                        go_roundw
                        case rel => exact ⟨q + 1, by omega, by go_num, grown_drew (hgr2.trans grown_set), (HSET.out _ rfl).drew⟩
                        case measure => simp [intOf]; omega
              · have hfin : Hid (agIn (fI s ⟨T, kd, X⟩) T (L.take q) R = agTo (gI s L) (fI s) L s (k + 1)) := by
                  show _ = _
                  rw [List.take_of_length_le (by omega), hstep.out, HG.out]; rfl
                rw [hfin.out] at hJ
                have HJ := Lib.hid hJ
                clear hJ
                go_wp2_with fail
                go_roundw
                case rel => exact ⟨k + 1, by omega, by go_num, HJ.out⟩
                case measure => simp [intOf]; omega
          · -- it has written the item before
            go_wp2_with fail
            obtain ⟨W, hW⟩ : ∃ W : World, W = wo.alloc (.cells #[.int .i64 (T : Int), .int .i64 kd, .int .i64 (X : Int)] 46) := ⟨_, rfl⟩
            rw [← hW]
            obtain ⟨L0, L1, L2, hbW, hWs⟩ := op_box hW
            clear hW
            refine region_later (by kernel_rfl) (by kernel_rfl) ?_
            repeat (go_big_quiet_step ((first | (go_at_call 134; exact later_call _ (HCo.out _ (hbW.trans (Later.below_ _ hbW.size)))) | (go_at_call 118; exact later_call _ (HWr.out _ (hbW.trans (Later.below_ _ hbW.size)))))))
            refine wpQuiet_nil ?_
            rintro _ ⟨u, rfl⟩
            go_wp2_with fail
            go_roundw
            case rel => exact ⟨k + 1, by omega, by go_num, by rw [hstep.out, HG.out]; exact HI.out.later (hbW.trans (Later.below_ u hbW.size))⟩
            case measure => simp [intOf]; omega
      · -- no read
        go_wp2_with fail
        obtain ⟨W, hW⟩ : ∃ W : World, W = wo.alloc (.cells #[.int .i64 (T : Int), .int .i64 kd, .int .i64 (X : Int)] 46) := ⟨_, rfl⟩
        rw [← hW]
        obtain ⟨L0, L1, L2, hbW, hWs⟩ := op_box hW
        clear hW
        refine region_later (by kernel_rfl) (by kernel_rfl) ?_
        repeat (go_big_quiet_step ((first | (go_at_call 134; exact later_call _ (HCo.out _ (hbW.trans (Later.below_ _ hbW.size)))) | (go_at_call 118; exact later_call _ (HWr.out _ (hbW.trans (Later.below_ _ hbW.size)))))))
        refine wpQuiet_nil ?_
        rintro _ ⟨u, rfl⟩
        go_wp2_with fail
        go_roundw
        case rel => exact ⟨k + 1, by omega, by go_num, by rw [hstep.out, HG.out]; exact HI.out.later (hbW.trans (Later.below_ u hbW.size))⟩
        case measure => simp [intOf]; omega
    · have hfin : Hid (AgInv w A n c s LA L.length L w.heap.size (agI4 s) wo) := by
        rw [hgood.out]
        have : k = s.length := by omega
        rw [← this]; exact hI
      have hok : Rows4 (agI4 s) := by rw [hgood.out]; exact agTo_ok HR.out _
      have hlen : (rowsI (agI4 s)).length = 4 := by simp [rowsI, hok.1]
      have HO : Hid (RetInts w (rowsI (agI4 s)) (.returned (.slice (some ⟨w.heap.size, 0, none⟩) 4 4)) wo) := by
        refine RetInts.mk hlen (Nat.le_refl _) ⟨RowIs.ints (rest := []) (by simpa using hfin.out.row) hlen (by omega), fun ad had => ?_⟩ hfin.out.below
        injection had with had
        subst had
        exact ⟨_, _, rfl, Nat.le_refl _, hfin.out.row, by simp [intCells, hlen]⟩
      clear hI
      go_wp2_with fail
      go_ret
      exact HO.out
end Go.Proofs.Ytofcpfabjfhjoaa
namespace Go.Proofs.Ytofcpfabjfhjoaa
open Go.RowKit Go.BigFrame
set_option linter.unusedVariables false

def gS (s : List OpV) (list : List Int) (k : Nat) (o : OpV) : Bool := o.kind == 0 && (list.any fun y => y == o.tx) && !(touchB s k o.tx 1 o.item)
def fT (s : List OpV) (o : OpV) (u : Int) : Bool := u != o.tx && decide (stampN s o.tx < commitN s u) && touchB s s.length u 1 o.item
def agS4 (s : List OpV) : List Nat := agTo (gS s (survS s)) (fT s) (survS s) s s.length
theorem survS_rng {s : List OpV} (h : validS s = true) : ∀ u ∈ survS s, 0 ≤ u ∧ u ≤ 3 := by
  have key : ∀ k, ∀ u ∈ sTo s k, 0 ≤ u ∧ u ≤ 3 := by
    intro k
    induction k with
    | zero => simp [sTo]
    | succ k ih =>
      intro u hu
      cases he : s[k]? with
      | none =>
        have hl : s.length ≤ k := by
          rcases Nat.lt_or_ge k s.length with h' | h'
          · rw [List.getElem?_eq_getElem h'] at he; cases he
          · exact h'
        refine ih u ?_
        unfold sTo at *
        rw [List.take_of_length_le (by omega)] at hu
        rw [List.take_of_length_le hl]; exact hu
      | some o =>
        rw [sTo_succ he] at hu
        unfold sStep at hu
        split at hu
        · rcases List.mem_append.1 hu with hu | hu
          · exact ih u hu
          · have := List.mem_singleton.1 hu
            subst this
            exact validS_tx3 h (List.mem_of_getElem? he)
        · exact ih u hu
  intro u hu
  rw [← sTo_all (Nat.le_refl _)] at hu
  exact key _ u hu

set_option maxRecDepth 100000 in
set_option maxHeartbeats 4000000 in
theorem against_any (A : Option Addr) (n c : Nat) (s : List OpV) (w : World) (hx : ROps w A n s) (hv : validS s = true) :
    Calls Try.prog 78 #[.slice A n c] w (RetInts w (rowsI (agS4 s))) := by
  have hn := hx.2.1
  have hl := hx.1
  have HV := Lib.hid hv
  have HX := Lib.hid hx
  clear hx hv
  obtain ⟨i0, hi, hz0, hz1, hz2⟩ := info_parts intInfo
  go_enter Try.func78, Try.ntmps78
  go_wp2_with (at_make; refine wpList_make_full _ rfl _ _ 25 rfl w.heap.size 3 i0 _ 1 Try.underlying25 hi hz0 hz1 .i64 .i64 _ _ 4 rfl rfl rfl rfl (by rw [hz2]; omega) (by unfold maxLen; omega) (Nat.le_refl _) ?_; intro w1 hown1 hg1)
  have hb1 : Below w.heap.size w w1 := ⟨hg1.os, hg1.tape, hg1.output, hg1.size, fun k hk => hg1.block k hk (by simp)⟩
  have hrow : RowIs w1 w.heap.size 3 (intCells (rowsI [0, 0, 0, 0])) := by
    rcases hown1.2 with ⟨h1, _⟩ | ⟨g, cap, cur, h1, h2, h3, h4, h5, h6, h7⟩
    · cases h1
    · injection h1 with ha hb hc
      injection ha with ha
      injection ha with ha
      subst ha; subst hc
      unfold RowIs
      rw [h3]
      congr 2
      apply Array.ext'
      rw [List.take_of_length_le (by simpa using Nat.le_of_eq h6)] at h7
      rw [h7, made_ints]
      rfl
  have hlt1 := hrow.lt
  have HST := Lib.hid (And.intro hrow hb1)
  clear hown1 hb1 hg1 hrow hi hz0 hz1 hz2
  refine (survivors_any A n c s w1 (HX.out.below HST.out.2 (Nat.le_refl _))).mono ?_
  rintro e w2 ⟨LA, lc, rfl, hlc, ⟨hL, hLf⟩, hb2⟩
  have hlenL := hL.2.1
  have hne : ∀ ad, LA = some ad → w.heap.size ≠ ad.block := by
    intro ad had
    obtain ⟨b, cur, rfl, hge, _⟩ := hLf ad had
    simp only; omega
  have hlt2 : w.heap.size < w2.heap.size := Nat.lt_of_lt_of_le hlt1 hb2.size
  have HS2 : Hid (AgInv w A n c s LA (survS s).length (survS s) w.heap.size (agTo (gS s (survS s)) (fT s) (survS s) s 0) w2) :=
    ⟨HST.out.2.trans (hb2.mono HST.out.2.size), HST.out.1.below hb2 (Nat.le_refl _), hL⟩
  have HNE := Lib.hid hne
  have HR : Hid (∀ u ∈ survS s, 0 ≤ u ∧ u ≤ 3) := survS_rng HV.out
  have hgood : Hid (agS4 s = agTo (gS s (survS s)) (fT s) (survS s) s s.length) := rfl
  generalize hLL : survS s = L at *
  have HLL := Lib.hid hLL
  clear hL hLf hne HST hb2 hLL
  go_wp2_with fail
  go_loopw [5] (fun i wr => ∃ k : Nat, k ≤ n ∧ i = .int .i64 k ∧ AgInv w A n c s LA L.length L w.heap.size (agTo (gS s L) (fT s) L s k) wr) (fun i _ => n - (intOf i).toNat)
  case atStart => exact ⟨0, Nat.zero_le _, rfl, HS2.out⟩
  case round =>
    clear HS2
    obtain ⟨wo, rfl⟩ : ∃ wo : World, wo = wr := ⟨_, rfl⟩
    obtain ⟨k, hk, rfl, hI⟩ := hrel
    by_cases hlt : k < n
    · have hxr := HX.out.below hI.below (Nat.le_refl _)
      obtain ⟨b, off, o, rfl, hbl, ho, c0, c1, c2⟩ := hxr.at_ hlt
      have hom := List.mem_of_getElem? ho
      have htx := validS_tx3 HV.out hom
      have hstep := Lib.hid (agTo_succ (g := gS s L) (f := fT s) (list := L) ho)
      have HI := Lib.hid hI
      have hokR : Hid (Rows4 (agTo (gS s L) (fT s) L s k)) := agTo_ok HR.out k
      clear hxr ho hI
      obtain ⟨tx, kd, X⟩ := o
      simp only at hstep c0 c1 c2 htx
      obtain ⟨T, rfl⟩ := Int.eq_ofNat_of_zero_le htx.1
      generalize hRR : agTo (gS s L) (fT s) L s k = R at *
      have HRR := Lib.hid hRR
      clear hRR
      have hT3 : T ≤ 3 := by omega
      clear htx
      obtain ⟨bk, hbk⟩ : ∃ bk, (kd != 0) = bk := ⟨_, rfl⟩
      obtain ⟨bc, hbc⟩ : ∃ bc, (L.any fun y => y == (T : Int)) = bc := ⟨_, rfl⟩
      obtain ⟨bw, hbw⟩ : ∃ bw, touchB s k T 1 X = bw := ⟨_, rfl⟩
      have hgI : gS s L k ⟨T, kd, X⟩ = (!bk && bc && !bw) := by
        unfold gS
        simp only
        rw [hbc, hbw]
        congr 2
        rw [← hbk, bne, Bool.not_not]
      have HG := Lib.hid hgI
      have hCo : ∀ (u : Later wo), Calls Try.prog 94 #[.slice LA L.length lc, .int .i64 (T : Int)] u.1 fun e w' => e = .returned (.bool bc) ∧ Below u.1.heap.size u.1 w' := fun u => by
        have := hasInt_any LA L.length lc L T u.1 (HI.out.list.later u); rw [hbc] at this; exact this
      have hWr : ∀ (u : Later wo), Calls Try.prog 132 #[.slice (some ⟨b, off, none⟩) n c, .int .i64 (k : Int), .int .i64 (T : Int), .int .i64 1, .int .i64 X] u.1 fun e w' => e = .returned (.bool bw) ∧ Below u.1.heap.size u.1 w' := fun u => by
        have := touches_any _ n c k s T 1 X u.1 ((HX.out.below HI.out.below (Nat.le_refl _)).later u) hk; rw [hbw] at this; exact this
      have HCo := Lib.hid hCo
      have HWr := Lib.hid hWr
      clear hCo hWr hgI hbw hbc
      have hkn : (k : Int) < (n : Int) := by omega
      have hk0 : (0 : Int) ≤ (k : Int) := by omega
      have L0 := Later.cell c0
      have L1 := Later.cell c1
      have L2 := Later.cell c2
      cases bk
      · cases bc
        · go_wp2_with fail
          refine region_later (by kernel_rfl) (by kernel_rfl) ?_
          repeat (go_big_quiet_step ((first | (go_at_call 94; exact later_call _ (HCo.out _)) | (go_at_call 132; exact later_call _ (HWr.out _)))))
          refine wpQuiet_nil ?_
          rintro _ ⟨u, rfl⟩
          go_wp2_with fail
          go_roundw
          case rel => exact ⟨k + 1, by omega, by go_num, by rw [hstep.out, HG.out]; exact HI.out.later u.2⟩
          case measure => simp [intOf]; omega
        · cases bw
          · -- the test holds: the inner loop
            go_wp2_with fail
            refine region_later (by kernel_rfl) (by kernel_rfl) ?_
            repeat (go_big_quiet_step ((first | (go_at_call 94; exact later_call _ (HCo.out _)) | (go_at_call 132; exact later_call _ (HWr.out _)))))
            refine wpQuiet_nil ?_
            rintro _ ⟨u, rfl⟩
            go_wp2_with fail
            have hwl : w.heap.size < wo.heap.size := HI.out.row.lt
            have d0 := L0 u
            have d1 := L1 u
            have d2 := L2 u
            have hIu : Hid (AgInv w (some ⟨b, off, none⟩) n c s LA L.length L w.heap.size (agIn (fT s ⟨T, kd, X⟩) T (L.take 0) R) u.1) := HI.out.later u.2
            have hblw : b ≠ w.heap.size := by
              intro e
              obtain ⟨b', off', ha', hlt', _⟩ := HX.out.2.2 (by omega)
              injection ha' with ha'
              injection ha' with ha' _
              omega
            obtain ⟨ui, hui⟩ : ∃ ui : World, u.1 = ui := ⟨_, rfl⟩
            rw [hui] at d0 d1 d2 hIu
            rw [hui]
            clear L0 L1 L2 hui HCo HWr c0 c1 c2
            go_loopw [6] (fun j wr => ∃ q : Nat, q ≤ L.length ∧ j = .int .i64 q ∧ ui.grownBy wr (some w.heap.size) ∧ AgInv w (some ⟨b, off, none⟩) n c s LA L.length L w.heap.size (agIn (fT s ⟨T, kd, X⟩) T (L.take q) R) wr) (fun j _ => L.length - (intOf j).toNat)
            case atStart => exact ⟨0, Nat.zero_le _, rfl, World.grownBy.refl _ _, hIu.out⟩
            case round =>
              obtain ⟨q, hq, rfl, hgr, hJ⟩ := hrel
              clear hIu
              have e0 := hgr.cell d0 (by simpa using hblw)
              have e1 := hgr.cell d1 (by simpa using hblw)
              have e2 := hgr.cell d2 (by simpa using hblw)
              by_cases hlt2 : q < L.length
              · obtain ⟨bo, offo, x, hA, hbo2, hxx, hcx⟩ := hJ.list.at_ hlt2
                subst hA
                have hxr := HR.out x (List.mem_of_getElem? hxx)
                obtain ⟨U, rfl⟩ := Int.eq_ofNat_of_zero_le hxr.1
                have hU3 : U ≤ 3 := by omega
                have hsn := Lib.hid (agIn_snoc (f := fT s ⟨T, kd, X⟩) (t := T) (rows := R) hxx)
                have hok2 : Hid (Rows4 (agIn (fT s ⟨T, kd, X⟩) T (L.take q) R)) := agIn_ok (fun u hu => HR.out u (List.mem_of_mem_take hu)) hokR.out
                have HJ := Lib.hid hJ
                have hxs := HX.out.below hJ.below (Nat.le_refl _)
                have hC : ∀ v : Later wr, Calls Try.prog 122 #[.slice (some ⟨b, off, none⟩) n c, .int .i64 (U : Int)] v.1 fun e w' => e = .returned (.int .i64 (commitN s U : Nat)) ∧ Below v.1.heap.size v.1 w' := fun v => commitAt_any _ n c s U v.1 (hxs.later v)
                have hF : ∀ v : Later wr, Calls Try.prog 123 #[.slice (some ⟨b, off, none⟩) n c, .int .i64 (T : Int)] v.1 fun e w' => e = .returned (.int .i64 (stampN s T : Nat)) ∧ Below v.1.heap.size v.1 w' := fun v => stampOf_any _ n c s T v.1 (hxs.later v)
                obtain ⟨b3, hb3⟩ : ∃ b3, touchB s s.length U 1 X = b3 := ⟨_, rfl⟩
                have hW2 : ∀ v : Later wr, Calls Try.prog 132 #[.slice (some ⟨b, off, none⟩) n c, .int .i64 (n : Int), .int .i64 (U : Int), .int .i64 1, .int .i64 X] v.1 fun e w' => e = .returned (.bool b3) ∧ Below v.1.heap.size v.1 w' := fun v => by
                  have := touches_any _ n c n s U 1 X v.1 (hxs.later v) (Nat.le_refl _); rw [hl] at hb3; rw [hb3] at this; exact this
                have HC := Lib.hid hC
                have HF := Lib.hid hF
                have HW2 := Lib.hid hW2
                obtain ⟨b1, hb1⟩ : ∃ b1, ((U : Int) != (T : Int)) = b1 := ⟨_, rfl⟩
                obtain ⟨cU, hcU⟩ : ∃ z, commitN s U = z := ⟨_, rfl⟩
                obtain ⟨fU, hfT⟩ : ∃ z, stampN s T = z := ⟨_, rfl⟩
                have hfi : fT s ⟨T, kd, X⟩ U = (b1 && decide (fU < cU) && b3) := by
                  unfold fT
                  simp only
                  rw [hb1, hb3, hcU, hfT]
                rw [hcU] at HC
                rw [hfT] at HF
                obtain ⟨b2, hb2⟩ : ∃ b2, decide (fU < cU) = b2 := ⟨_, rfl⟩
                rw [hb2] at hfi
                have hb2' : decide ((fU : Int) < (cU : Int)) = b2 := by rw [← hb2]; exact decide_eq_decide.2 (by omega)
                have HFI := Lib.hid hfi
                have M0 := Later.cell e0
                have M1 := Later.cell e1
                have M2' := Later.cell e2
                have N0 := Later.cell hcx
                clear hC hF hW2 hxs hJ hxx hcU hfT hfi hb3
                have hqi : (q : Int) < (L.length : Int) := by omega
                cases b1
                · go_wp2_with fail
                  refine region_later (by kernel_rfl) (by kernel_rfl) ?_
                  repeat (go_big_quiet_step ((first | (go_at_call 122; exact later_call _ (HC.out _)) | (go_at_call 123; exact later_call _ (HF.out _)) | (go_at_call 132; exact later_call _ (HW2.out _)))))
                  refine wpQuiet_nil ?_
                  rintro _ ⟨u2, rfl⟩
                  go_wp2_with fail
                  go_roundw
                  case rel => exact ⟨q + 1, by omega, by go_num, hgr.trans (grown_below u2.2), by rw [hsn.out, HFI.out]; exact HJ.out.later u2.2⟩
                  case measure => simp [intOf]; omega
                · cases b2
                  · go_wp2_with fail
                    refine region_later (by kernel_rfl) (by kernel_rfl) ?_
                    repeat (go_big_quiet_step ((first | (go_at_call 122; exact later_call _ (HC.out _)) | (go_at_call 123; exact later_call _ (HF.out _)) | (go_at_call 132; exact later_call _ (HW2.out _)))))
                    refine wpQuiet_nil ?_
                    rintro _ ⟨u2, rfl⟩
                    go_wp2_with fail
                    go_roundw
                    case rel => exact ⟨q + 1, by omega, by go_num, hgr.trans (grown_below u2.2), by rw [hsn.out, HFI.out]; exact HJ.out.later u2.2⟩
                    case measure => simp [intOf]; omega
                  · cases b3
                    · go_wp2_with fail
                      refine region_later (by kernel_rfl) (by kernel_rfl) ?_
                      repeat (go_big_quiet_step ((first | (go_at_call 122; exact later_call _ (HC.out _)) | (go_at_call 123; exact later_call _ (HF.out _)) | (go_at_call 132; exact later_call _ (HW2.out _)))))
                      refine wpQuiet_nil ?_
                      rintro _ ⟨u2, rfl⟩
                      go_wp2_with fail
                      go_roundw
                      case rel => exact ⟨q + 1, by omega, by go_num, hgr.trans (grown_below u2.2), by rw [hsn.out, HFI.out]; exact HJ.out.later u2.2⟩
                      case measure => simp [intOf]; omega
                    · go_wp2_with fail
                      refine region_later (by kernel_rfl) (by kernel_rfl) ?_
                      repeat (go_big_quiet_step ((first | (go_at_call 122; exact later_call _ (HC.out _)) | (go_at_call 123; exact later_call _ (HF.out _)) | (go_at_call 132; exact later_call _ (HW2.out _)))))
                      refine wpQuiet_nil ?_
                      rintro _ ⟨u2, rfl⟩
                      go_wp2_with fail
                      have hJu := HJ.out.later u2.2
                      obtain ⟨hat, hr16⟩ := rowsI_at hok2.out hT3
                      have hcr := hJu.row.cell hat
                      have hfz := hJu.row.frozen T
                      have m0 := M0 u2
                      have n0 := N0 u2
                      obtain ⟨uj, huj⟩ : ∃ uj : World, u2.1 = uj := ⟨_, rfl⟩
                      have hgr2 := hgr.trans (grown_below u2.2)
                      rw [huj] at hJu hcr hfz m0 n0 hgr2
                      rw [huj]
                      have HJU := Lib.hid hJu
                      obtain ⟨r, hr⟩ : ∃ r, (agIn (fT s ⟨T, kd, X⟩) T (L.take q) R).getD T 0 = r := ⟨_, rfl⟩
                      rw [hr] at hcr hr16
                      have hP2 : (2 ^ U : Nat) < 16 := by
                        rcases (by omega : U = 0 ∨ U = 1 ∨ U = 2 ∨ U = 3) with e | e | e | e <;> rw [e] <;> decide
                      have hor := or_nat r (2 ^ U) (by omega) (by omega)
                      have HSET : Hid (∀ v : Int, v = ((r ||| 2 ^ U : Nat) : Int) → AgInv w (some ⟨b, off, none⟩) n c s (some ⟨bo, offo, none⟩) L.length L w.heap.size (agIn (fT s ⟨T, kd, X⟩) T (L.take (q + 1)) R) (uj.setCell ⟨w.heap.size, T, none⟩ (.int .i64 v))) := by
                        intro v hv
                        rw [hsn.out, HFI.out]
                        refine (HJU.out.set (Nat.le_refl _) HNE.out hT3 hok2.out ?_)
                        rw [hr, hv, Int.toNat_natCast, Nat.one_shiftLeft]
                      have hPW : ∀ W : World, Calls Try.prog 133 #[.int .i64 (U : Int)] W fun e w' => e = .returned (.int .i64 ((2 ^ U : Nat) : Int)) ∧ w' = W := fun W => (spower_any U W (by omega)).mono fun e w' h => ⟨h.1, h.2.symm⟩
                      generalize hPP : 2 ^ U = p2 at *
                      have HPW := Lib.hid hPW
                      clear hJu hat hr huj HC HF HW2 hb2' M0 M1 M2' N0 hcx e0 e1 e2 hsn HFI hPP hPW hP2
                      have hT4 : (T : Int) < 4 := by omega
                      have hT0 : (0 : Int) ≤ (T : Int) := by omega
                      obtain ⟨wd, hwd⟩ : ∃ wd : World, wd = uj.drew := ⟨_, rfl⟩
                      have hcr2 : wd.cell? ⟨w.heap.size, T, none⟩ = some (.int .i64 (r : Int)) := by rw [hwd]; exact hcr
                      have hfz2 : wd.frozen? ⟨w.heap.size, T, none⟩ = false := by rw [hwd]; exact hfz
                      have HSET2 : Hid (∀ v : Int, v = ((r ||| p2 : Nat) : Int) → AgInv w (some ⟨b, off, none⟩) n c s (some ⟨bo, offo, none⟩) L.length L w.heap.size (agIn (fT s ⟨T, kd, X⟩) T (L.take (q + 1)) R) (wd.setCell ⟨w.heap.size, T, none⟩ (.int .i64 v))) := by
                        intro v hv
                        rw [hwd]
                        exact (HSET.out v hv).drew
                      have HGR := Lib.hid (fun v : Value => grown_drew (hgr2.trans (grown_set (i := T) (v := v))))
                      go_wp2_with fail
                      refine wp_region_still_tail 21 (by kernel_rfl) (by kernel_rfl) ?_
                      simp only [List.take_succ_cons, List.take_zero, List.drop_succ_cons, List.drop_zero]
                      repeat (first | still_step | still_call (HPW.out _))
                      refine wpStill_nil ?_
                      change wpList _ _ _ _ _ uj.drew
                      rw [← hwd]
                      go_wp2_with fail
                      go_roundw
                      case rel => exact ⟨q + 1, by omega, by go_num, by first | exact HGR.out _ | (rw [hwd]; exact HGR.out _), by first | exact HSET2.out _ rfl | exact (HSET.out _ rfl).drew⟩
                      case measure => simp [intOf]; omega
              · have hfin : Hid (agIn (fT s ⟨T, kd, X⟩) T (L.take q) R = agTo (gS s L) (fT s) L s (k + 1)) := by
                  show _ = _
                  rw [List.take_of_length_le (by omega), hstep.out, HG.out]; rfl
                rw [hfin.out] at hJ
                have HJ := Lib.hid hJ
                clear hJ
                go_wp2_with fail
                go_roundw
                case rel => exact ⟨k + 1, by omega, by go_num, HJ.out⟩
                case measure => simp [intOf]; omega
          · go_wp2_with fail
            refine region_later (by kernel_rfl) (by kernel_rfl) ?_
            repeat (go_big_quiet_step ((first | (go_at_call 94; exact later_call _ (HCo.out _)) | (go_at_call 132; exact later_call _ (HWr.out _)))))
            refine wpQuiet_nil ?_
            rintro _ ⟨u, rfl⟩
            go_wp2_with fail
            go_roundw
            case rel => exact ⟨k + 1, by omega, by go_num, by rw [hstep.out, HG.out]; exact HI.out.later u.2⟩
            case measure => simp [intOf]; omega
      · go_wp2_with fail
        refine region_later (by kernel_rfl) (by kernel_rfl) ?_
        repeat (go_big_quiet_step ((first | (go_at_call 94; exact later_call _ (HCo.out _)) | (go_at_call 132; exact later_call _ (HWr.out _)))))
        refine wpQuiet_nil ?_
        rintro _ ⟨u, rfl⟩
        go_wp2_with fail
        go_roundw
        case rel => exact ⟨k + 1, by omega, by go_num, by rw [hstep.out, HG.out]; exact HI.out.later u.2⟩
        case measure => simp [intOf]; omega
    · have hfin : Hid (AgInv w A n c s LA L.length L w.heap.size (agS4 s) wo) := by
        rw [hgood.out]
        have : k = s.length := by omega
        rw [← this]; exact hI
      have hok : Rows4 (agS4 s) := by rw [hgood.out]; exact agTo_ok HR.out _
      have hlen : (rowsI (agS4 s)).length = 4 := by simp [rowsI, hok.1]
      have HO : Hid (RetInts w (rowsI (agS4 s)) (.returned (.slice (some ⟨w.heap.size, 0, none⟩) 4 4)) wo) := by
        refine RetInts.mk hlen (Nat.le_refl _) ⟨RowIs.ints (rest := []) (by simpa using hfin.out.row) hlen (by omega), fun ad had => ?_⟩ hfin.out.below
        injection had with had
        subst had
        exact ⟨_, _, rfl, Nat.le_refl _, hfin.out.row, by simp [intCells, hlen]⟩
      clear hI
      go_wp2_with fail
      go_ret
      exact HO.out
end Go.Proofs.Ytofcpfabjfhjoaa
namespace Go.Proofs.Ytofcpfabjfhjoaa
set_option linter.unusedVariables false

theorem touchB_take (s : List OpV) (k : Nat) (t kd x : Int) : touchB (s.take k) (s.take k).length t kd x = touchB s k t kd x := by
  unfold touchB
  rw [List.take_length]
theorem wI_bit {s : List OpV} (h : itemsOk s) (t : Int) (x : Nat) : (wI s t).testBit x = touchB s s.length t 1 (x : Int) := wTo_bit s t x h _ (Nat.le_refl _)
theorem wI_take_bit {s : List OpV} (h : itemsOk s) (k : Nat) (t : Int) (x : Nat) : (wI (s.take k) t).testBit x = touchB s k t 1 (x : Int) := by
  rw [wI_bit (itemsOk_take h k), touchB_take]
theorem gI_eq {s : List OpV} (h : validS s = true) (L : List Int) {k : Nat} {o : OpV} (ho : s[k]? = some o) : gI s L k o = gS s L k o := by
  have hi := validS_item h (List.mem_of_getElem? ho)
  obtain ⟨t, kd, x⟩ := o
  obtain ⟨X, rfl⟩ := Int.eq_ofNat_of_zero_le hi.1
  unfold gI gS
  simp only [Int.toNat_natCast]
  rw [wI_take_bit (validS_items h)]
theorem fI_eq {s : List OpV} (h : validS s = true) {o q : OpV} (ho : o ∈ s) (hq : q ∈ s) (hk : q.kind = 2) : fI s o q.tx = fT s o q.tx := by
  have hi := validS_item h ho
  have h1 := firstI_eq ho
  have h2 := commitI_eq h hq hk
  obtain ⟨t, kd, x⟩ := o
  obtain ⟨X, rfl⟩ := Int.eq_ofNat_of_zero_le hi.1
  unfold fI fT
  simp only [Int.toNat_natCast] at *
  rw [wI_bit (validS_items h), h1, h2]
  congr 2
  exact decide_eq_decide.2 (by omega)
theorem agIn_congr {f g : Int → Bool} {t : Int} {list : List Int} (h : ∀ u ∈ list, f u = g u) : ∀ rows, agIn f t list rows = agIn g t list rows := by
  unfold agIn
  induction list with
  | nil => intro rows; rfl
  | cons x r ih =>
    intro rows
    rw [List.foldl_cons, List.foldl_cons, h x (by simp)]
    exact ih (fun u hu => h u (by simp [hu])) _
theorem agTo_congr {g g' : Nat → OpV → Bool} {f f' : OpV → Int → Bool} {list : List Int} {s : List OpV} (hg : ∀ k o, s[k]? = some o → g k o = g' k o) (hf : ∀ o ∈ s, ∀ u ∈ list, f o u = f' o u) (k : Nat) : agTo g f list s k = agTo g' f' list s k := by
  induction k with
  | zero => rfl
  | succ k ih =>
    simp only [agTo]
    cases h : s[k]? with
    | none => simp only [ih]
    | some o =>
      simp only [ih, hg k o h]
      split
      · exact agIn_congr (hf o (List.mem_of_getElem? h)) _
      · rfl
theorem ag_eq {s : List OpV} (h : validS s = true) : agI4 s = agS4 s := by
  unfold agI4 agS4
  rw [surv_eq h]
  refine agTo_congr (fun k o ho => gI_eq h _ ho) (fun o ho u hu => ?_) _
  obtain ⟨q, hq, rfl, hk⟩ := surv_commit h hu
  exact fI_eq h ho hq hk
end Go.Proofs.Ytofcpfabjfhjoaa
namespace Go.Proofs.Ytofcpfabjfhjoaa
open Go.RowKit Go.BigFrame
set_option linter.unusedVariables false

def pS (s : List OpV) (o : OpV) (u : Int) : Bool := decide (commitN s u < stampN s o.tx) && touchB s s.length u 1 o.item
def verS (s : List OpV) (L : List Int) (k : Nat) (o : OpV) : Int := if touchB s k o.tx 1 o.item then o.tx else vFold (pS s o) L

set_option maxRecDepth 100000 in
set_option maxHeartbeats 4000000 in
theorem versionAt_any (A LA : Option Addr) (n c lc k : Nat) (s : List OpV) (L : List Int) (o : OpV) (w : World) (hx : ROps w A n s) (hL : RInts w LA L.length L) (ho : s[k]? = some o) :
    Calls Try.prog 92 #[.slice A n c, .slice LA L.length lc, .int .i64 (k : Int)] w fun e w' => e = .returned (.int .i64 (verS s L k o)) ∧ Below w.heap.size w w' := by
  have hn := hx.2.1
  have hl := hx.1
  have hlenL := hL.2.1
  have hk : k < n := by have := (List.getElem?_eq_some_iff.1 ho).1; omega
  obtain ⟨b, off, o', rfl, hbl, ho', c0, c1, c2⟩ := hx.at_ hk
  rw [ho] at ho'
  injection ho' with ho'
  subst ho'
  obtain ⟨T, kd, X⟩ := o
  simp only at c0 c1 c2
  have hres : verS s L k ⟨T, kd, X⟩ = if touchB s k T 1 X = true then T else vFold (pS s ⟨T, kd, X⟩) L := rfl
  obtain ⟨bw, hbw⟩ : ∃ bw, touchB s k T 1 X = bw := ⟨_, rfl⟩
  rw [hbw] at hres
  have HRES := Lib.hid hres
  have hWr : ∀ (u : Later w), Calls Try.prog 132 #[.slice (some ⟨b, off, none⟩) n c, .int .i64 (k : Int), .int .i64 T, .int .i64 1, .int .i64 X] u.1 fun e w' => e = .returned (.bool bw) ∧ Below u.1.heap.size u.1 w' := fun u => by
    have := touches_any _ n c k s T 1 X u.1 (hx.later u) (by omega); rw [hbw] at this; exact this
  have HWr := Lib.hid hWr
  have HX := Lib.hid hx
  have HL := Lib.hid hL
  clear hWr hres hbw hx hL ho
  have hkn : (k : Int) < (n : Int) := by omega
  have hk0 : (0 : Int) ≤ (k : Int) := by omega
  have L0 := Later.cell c0
  have L2 := Later.cell c2
  cases bw
  · go_enter Try.func92, Try.ntmps92
    go_wp2_with fail
    refine region_later (by kernel_rfl) (by kernel_rfl) ?_
    repeat (go_big_quiet_step ((go_at_call 132; exact later_call _ (HWr.out _))))
    refine wpQuiet_nil ?_
    rintro _ ⟨u, rfl⟩
    go_wp2_with fail
    have d0 := L0 u
    have d2 := L2 u
    have hbu := u.2
    obtain ⟨ui, hui⟩ : ∃ ui : World, u.1 = ui := ⟨_, rfl⟩
    rw [hui] at d0 d2 hbu
    rw [hui]
    clear L0 L2 hui HWr c0 c1 c2
    go_loopw [7, 8] (fun v j wr => ∃ q : Nat, q ≤ L.length ∧ j = .int .i64 q ∧ v = .int .i64 (vFold (pS s ⟨T, kd, X⟩) (L.take q)) ∧ Below ui.heap.size ui wr) (fun _ j _ => L.length - (intOf j).toNat)
    case atStart => exact ⟨0, Nat.zero_le _, rfl, rfl, Below.refl _ _⟩
    case round =>
      obtain ⟨q, hq, rfl, rfl, hb⟩ := hrel
      have hbw := hbu.trans (hb.mono hbu.size)
      by_cases hlt : q < L.length
      · obtain ⟨bo, offo, U, rfl, hbo, hxx, hcx⟩ := (HL.out.below hbw (Nat.le_refl _)).at_ hlt
        have hsn := Lib.hid (vFold_snoc (p := pS s ⟨T, kd, X⟩) hxx)
        have hxs := HX.out.below hbw (Nat.le_refl _)
        have hC : ∀ v : Later wr, Calls Try.prog 122 #[.slice (some ⟨b, off, none⟩) n c, .int .i64 U] v.1 fun e w' => e = .returned (.int .i64 (commitN s U : Nat)) ∧ Below v.1.heap.size v.1 w' := fun v => commitAt_any _ n c s U v.1 (hxs.later v)
        have hF : ∀ v : Later wr, Calls Try.prog 123 #[.slice (some ⟨b, off, none⟩) n c, .int .i64 T] v.1 fun e w' => e = .returned (.int .i64 (stampN s T : Nat)) ∧ Below v.1.heap.size v.1 w' := fun v => stampOf_any _ n c s T v.1 (hxs.later v)
        obtain ⟨b3, hb3⟩ : ∃ b3, touchB s s.length U 1 X = b3 := ⟨_, rfl⟩
        have hW2 : ∀ v : Later wr, Calls Try.prog 132 #[.slice (some ⟨b, off, none⟩) n c, .int .i64 (n : Int), .int .i64 U, .int .i64 1, .int .i64 X] v.1 fun e w' => e = .returned (.bool b3) ∧ Below v.1.heap.size v.1 w' := fun v => by
          have := touches_any _ n c n s U 1 X v.1 (hxs.later v) (Nat.le_refl _); rw [hl] at hb3; rw [hb3] at this; exact this
        have HC := Lib.hid hC
        have HF := Lib.hid hF
        have HW2 := Lib.hid hW2
        obtain ⟨cU, hcU⟩ : ∃ z, commitN s U = z := ⟨_, rfl⟩
        obtain ⟨fT, hfT⟩ : ∃ z, stampN s T = z := ⟨_, rfl⟩
        have hfi : pS s ⟨T, kd, X⟩ U = (decide (cU < fT) && b3) := by
          unfold pS
          simp only
          rw [hb3, hcU, hfT]
        rw [hcU] at HC
        rw [hfT] at HF
        obtain ⟨b2, hb2⟩ : ∃ b2, decide (cU < fT) = b2 := ⟨_, rfl⟩
        rw [hb2] at hfi
        have hb2' : decide ((cU : Int) < (fT : Int)) = b2 := by rw [← hb2]; exact decide_eq_decide.2 (by omega)
        have HFI := Lib.hid hfi
        have e0 := (hb.cell (p := ⟨b, off + k * 3, none⟩) (block_lt_of_cell d0)).trans d0
        have e2 := (hb.cell (p := ⟨b, off + k * 3 + 2, none⟩) (block_lt_of_cell d2)).trans d2
        have M0 := Later.cell e0
        have M2' := Later.cell e2
        have N0 := Later.cell hcx
        have hqi : (q : Int) < (L.length : Int) := by omega
        generalize hV : vFold (pS s ⟨T, kd, X⟩) (L.take q) = V at *
        have HV := Lib.hid hV
        clear hC hF hW2 hxs hxx hcU hfT hfi hb3 hV
        cases b2
        · go_wp2_with fail
          refine region_later (by kernel_rfl) (by kernel_rfl) ?_
          repeat (go_big_quiet_step ((first | (go_at_call 122; exact later_call _ (HC.out _)) | (go_at_call 123; exact later_call _ (HF.out _)) | (go_at_call 132; exact later_call _ (HW2.out _)))))
          refine wpQuiet_nil ?_
          rintro _ ⟨u2, rfl⟩
          go_wp2_with fail
          go_roundw
          case rel => exact ⟨q + 1, by omega, by go_num, by rw [hsn.out, HFI.out]; rfl, hb.trans (u2.2.mono hb.size)⟩
          case measure => simp [intOf]; omega
        · cases b3
          · go_wp2_with fail
            refine region_later (by kernel_rfl) (by kernel_rfl) ?_
            repeat (go_big_quiet_step ((first | (go_at_call 122; exact later_call _ (HC.out _)) | (go_at_call 123; exact later_call _ (HF.out _)) | (go_at_call 132; exact later_call _ (HW2.out _)))))
            refine wpQuiet_nil ?_
            rintro _ ⟨u2, rfl⟩
            go_wp2_with fail
            go_roundw
            case rel => exact ⟨q + 1, by omega, by go_num, by rw [hsn.out, HFI.out]; rfl, hb.trans (u2.2.mono hb.size)⟩
            case measure => simp [intOf]; omega
          · go_wp2_with fail
            refine region_later (by kernel_rfl) (by kernel_rfl) ?_
            repeat (go_big_quiet_step ((first | (go_at_call 122; exact later_call _ (HC.out _)) | (go_at_call 123; exact later_call _ (HF.out _)) | (go_at_call 132; exact later_call _ (HW2.out _)))))
            refine wpQuiet_nil ?_
            rintro _ ⟨u2, rfl⟩
            go_wp2_with fail
            go_roundw
            case rel => exact ⟨q + 1, by omega, by go_num, by rw [hsn.out, HFI.out]; rfl, hb.trans (u2.2.mono hb.size)⟩
            case measure => simp [intOf]; omega
      · have hfin : Hid (vFold (pS s ⟨T, kd, X⟩) (L.take q) = verS s L k ⟨T, kd, X⟩) := by
          show _ = _
          rw [HRES.out, List.take_of_length_le (by omega)]; rfl
        go_wp2_with fail
        go_ret
        exact ⟨ret_int hfin.out, hbw⟩
  · go_enter Try.func92, Try.ntmps92
    go_wp2_with fail
    refine region_later (by kernel_rfl) (by kernel_rfl) ?_
    repeat (go_big_quiet_step ((go_at_call 132; exact later_call _ (HWr.out _))))
    refine wpQuiet_nil ?_
    rintro _ ⟨u, rfl⟩
    have d0 := L0 u
    go_wp2_with fail
    go_ret
    exact ⟨ret_int (by rw [HRES.out]; rfl), u.2⟩

theorem vFold_congr {p q : Int → Bool} {L : List Int} (h : ∀ u ∈ L, p u = q u) : vFold p L = vFold q L := by
  unfold vFold
  generalize (-1 : Int) = z
  induction L generalizing z with
  | nil => rfl
  | cons x r ih =>
    rw [List.foldl_cons, List.foldl_cons, h x (by simp)]
    exact ih (fun u hu => h u (by simp [hu])) _
theorem ver_eq {s : List OpV} (h : validS s = true) {k : Nat} {o : OpV} (ho : s[k]? = some o) : verI s (survS s) k o = verS s (survS s) k o := by
  have hom := List.mem_of_getElem? ho
  have hi := validS_item h hom
  have h1 := firstI_eq hom
  obtain ⟨t, kd, x⟩ := o
  obtain ⟨X, rfl⟩ := Int.eq_ofNat_of_zero_le hi.1
  unfold verI verS
  simp only [Int.toNat_natCast] at *
  rw [wI_take_bit (validS_items h)]
  split
  · rfl
  · refine vFold_congr fun u hu => ?_
    obtain ⟨q, hq, rfl, hk⟩ := surv_commit h hu
    have h2 := commitI_eq h hq hk
    unfold pI pS
    simp only [Int.toNat_natCast]
    rw [wI_bit (validS_items h), h1, h2]
    congr 1
    exact decide_eq_decide.2 (by omega)
end Go.Proofs.Ytofcpfabjfhjoaa
namespace Go.Proofs.Ytofcpfabjfhjoaa
open Go.RowKit Go.BigFrame
set_option linter.unusedVariables false

/-- For each read of the first k operations what f tells. -/
def versTo (f : Nat → OpV → Int) (s : List OpV) : Nat → List Int
  | 0 => []
  | k + 1 => match s[k]? with | some o => if o.kind == 0 then versTo f s k ++ [f k o] else versTo f s k | none => versTo f s k
theorem versTo_succ {f : Nat → OpV → Int} {s : List OpV} {k : Nat} {o : OpV} (h : s[k]? = some o) : versTo f s (k + 1) = if o.kind == 0 then versTo f s k ++ [f k o] else versTo f s k := by simp only [versTo, h]
theorem versTo_congr {f g : Nat → OpV → Int} {s : List OpV} (h : ∀ k o, s[k]? = some o → f k o = g k o) (k : Nat) : versTo f s k = versTo g s k := by
  induction k with
  | zero => rfl
  | succ k ih =>
    simp only [versTo]
    cases e : s[k]? with
    | none => simp only [ih]
    | some o => simp only [ih, h k o e]
def versI (s : List OpV) : List Int := versTo (verI s (survI s)) s s.length
def versS (s : List OpV) : List Int := versTo (verS s (survS s)) s s.length
theorem vers_eq {s : List OpV} (h : validS s = true) : versI s = versS s := by
  unfold versI versS
  rw [surv_eq h]
  exact versTo_congr (fun k o ho => ver_eq h ho) _

set_option maxRecDepth 100000 in
set_option maxHeartbeats 4000000 in
theorem VersionsOf_any (A : Option Addr) (n c : Nat) (s : List OpV) (w : World) (hx : ROps w A n s) (hnc : n ≤ c) :
    Calls Try.prog 45 #[.slice A n c] w (RetInts w (orNil (validS s) (versI s))) := by
  have hn := hx.2.1
  have hl := hx.1
  have HX := Lib.hid hx
  clear hx
  obtain ⟨i0, hi, hz0, hz1, hz2⟩ := info_parts intInfo
  go_enter Try.func45, Try.ntmps45
  go_wp2_with fail
  refine (ValidSchedule_any A n c s w HX.out hnc).mono ?_
  rintro e w1 ⟨rfl, hb1⟩
  cases hv : validS s
  · have HV := Lib.hid hv
    clear hv
    go_wp2_with fail
    go_ret
    rw [HV.out]
    exact RetInts.nil hb1
  · have HV := Lib.hid hv
    clear hv
    have hsz1 := hb1.size
    have hn16 : n ≤ 16 := by
      have := ((validS_iff s).1 HV.out).1
      omega
    go_wp2_with (at_make; refine wpList_make_own _ rfl _ _ 25 rfl w.heap.size 3 i0 _ 1 Try.underlying25 hi hz0 hz1 .i64 .i64 _ n rfl rfl rfl (by rw [hz2]; omega) (by unfold maxLen; omega) hsz1 ?_; intro w2 hown2 hg2)
    have hb2 : Below w.heap.size w w2 := hb1.grown hg2 hsz1 (by simp)
    have HB2 := Lib.hid hb2
    clear hg2 hi hz0 hz1 hz2 hb1
    refine (survivorsOf_any A n c s w2 (HX.out.below hb2 (Nat.le_refl _)) (validS_items HV.out)).mono ?_
    rintro e w3 ⟨LA, lc, rfl, hlc, hfL, hb3⟩
    have hown3 := own_below hown2 hb3
    have hbw3 := hb2.trans (hb3.mono hb2.size)
    have hgood : Hid (versI s = versTo (verI s (survI s)) s s.length) := rfl
    have hne : ∀ ad, LA = some ad → (Value.slice (some ⟨w1.heap.size, 0, none⟩) 0 n).ownBlock ≠ some ad.block := by
      intro ad had e
      obtain ⟨b, cur, rfl, hge, hh, _⟩ := hfL.2 ad had
      have hlt := (World.ownsRow.lt hown2 _ rfl).2
      simp only [Value.ownBlock, Option.some.injEq] at e
      simp only at hlt
      omega
    have hLt : Hid (∀ ad, LA = some ad → ad.block < w3.heap.size) := fun ad had => by
      obtain ⟨b, cur, rfl, hge, hh, _⟩ := hfL.2 ad had
      exact lt_of_block hh
    obtain ⟨K3, hK3⟩ : ∃ z, w3.heap.size = z := ⟨_, rfl⟩
    rw [hK3] at hLt
    have hL := Lib.hid hfL.1
    generalize survI s = L at *
    have HST := Lib.hid (And.intro hown3 (And.intro hbw3 hne))
    have hlenL := hL.out.2.1
    clear hfL hown2 hb2 hb3 hown3 hbw3 hne
    go_wp2_with fail
    go_loopw [3, 17] (fun ov i wr => ∃ (k m : Nat), k ≤ n ∧ m ≤ k ∧ i = .int .i64 k ∧ Below w.heap.size w wr ∧ RInts wr LA L.length L ∧ wr.ownsRow w.heap.size 3 1 ov m (intCells (versTo (verI s L) s k)) ∧ (∀ ad, LA = some ad → ov.ownBlock ≠ some ad.block) ∧ K3 ≤ wr.heap.size) (fun _ i _ => n - (intOf i).toNat)
    case atStart => exact ⟨0, 0, Nat.zero_le _, Nat.le_refl _, rfl, HST.out.2.1, hL.out, HST.out.1, HST.out.2.2, by omega⟩
    case round =>
      clear HST hL
      obtain ⟨k, m, hk, hmk, rfl, hb, hLr, hown, hno, hK⟩ := hrel
      by_cases hlt : k < n
      · have hxr := HX.out.below hb (Nat.le_refl _)
        obtain ⟨b, off, o, rfl, hbl, ho, c0, c1, c2⟩ := hxr.at_ hlt
        have hs := hb.size
        have hstep := Lib.hid (versTo_succ (f := verI s L) ho)
        have hit := validS_item HV.out (List.mem_of_getElem? ho)
        have hcl : ∀ W : World, Below wr.heap.size wr W → Calls Try.prog 91 #[.slice (some ⟨b, off, none⟩) n c, .slice LA L.length lc, .int .i64 (k : Int)] W fun e w' => e = .returned (.int .i64 (verI s L k o)) ∧ Below W.heap.size W w' := fun W hW =>
          versionOf_any _ LA n c lc k s L o W (hxr.below hW (Nat.le_refl _)) (hLr.below hW (Nat.le_refl _)) ho hnc (validS_items HV.out) hit
        have HC := Lib.hid hcl
        have HL := Lib.hid hLr
        have HNO := Lib.hid hno
        clear hcl ho hxr hLr hno hit
        obtain ⟨tx, kd, it⟩ := o
        simp only at hstep c0 c1 c2
        by_cases h0 : kd = 0
        · subst h0
          go_wp2_with fail
          obtain ⟨W, hW⟩ : ∃ W : World, W = wr.alloc (.cells #[.int .i64 tx, .int .i64 0, .int .i64 it] 46) := ⟨_, rfl⟩
          rw [← hW]
          have hbW : Below wr.heap.size wr W := by rw [hW]; exact (Below.refl _ _).alloc (Nat.le_refl _) _
          have hownW : W.ownsRow w.heap.size 3 1 u3 m (intCells (versTo (verI s L) s k)) := by rw [hW]; exact hown.alloc _
          clear hW
          refine (HC.out W hbW).mono ?_
          rintro e w4 ⟨rfl, hb4⟩
          have hown4 := own_below hownW hb4
          have hb14 := hbW.trans (hb4.mono hbW.size)
          have hK4 := hb14.size
          have hbw4 := hb.trans (hb14.mono hs)
          have hL4 := Lib.hid (HL.out.below hb14 (Nat.le_refl _))
          obtain ⟨z, hz⟩ : ∃ z, verI s L k ⟨tx, 0, it⟩ = z := ⟨_, rfl⟩
          rw [hz] at hstep
          rw [hz]
          clear hb14 hb4 hbW hownW hz
          have hsz4 := hbw4.size
          go_wp2_with (at_builtin; refine app_ints (.tmp 25) (.tmp 30) (hown4.alloc _) (by simp; omega) (lit1 rfl _) (by omega) rfl rfl rfl rfl ?_; intro v5 w5 hown5 hg5 hat5)
          have hg5' := World.grownBy.trans (World.grownBy_alloc w4 _ _) hg5
          have hb5 := Below.own hbw4 hown4 (Nat.le_refl _) hg5'
          have hL5 : RInts w5 LA L.length L := hL4.out.grown hg5' HNO.out
          have hno5 : ∀ ad, LA = some ad → v5.ownBlock ≠ some ad.block := by
            intro ad had e
            rcases hat5 with h | h
            · rw [h] at e; exact HNO.out ad had e
            · rw [h] at e
              injection e with e
              have := hLt.out ad had
              simp at e
              omega
          go_roundw
          case rel => exact ⟨k + 1, m + 1, by omega, by omega, by go_num, hb5, hL5, by rw [hstep.out, if_pos (by simp)]; exact hown5, hno5, by have := hg5'.size; omega⟩
          case measure => simp [intOf]; omega
        · have h0' : (kd == 0) = false := by simpa using h0
          go_wp2_with fail
          go_roundw
          case rel => exact ⟨k + 1, m, by omega, by omega, by go_num, hb.trans ((by (repeat (first | exact Below.refl _ _ | assumption | refine B_alloc ?_ (Nat.le_refl _) _ | refine Below.drew ?_ | refine B_drewN ?_ _ | refine B_after (by assumption) ?_ | (refine B_set ?_ ?_; rotate_left; (first | exact Nat.le_refl _ | (simp; done) | (simp at *; omega))))) : Below wr.heap.size wr _).mono hb.size), HL.out.below (by (repeat (first | exact Below.refl _ _ | assumption | refine B_alloc ?_ (Nat.le_refl _) _ | refine Below.drew ?_ | refine B_drewN ?_ _ | refine B_after (by assumption) ?_ | (refine B_set ?_ ?_; rotate_left; (first | exact Nat.le_refl _ | (simp; done) | (simp at *; omega)))))) (Nat.le_refl _), by rw [hstep.out, if_neg (by simp [h0'])]; exact hown.alloc _, HNO.out, by simp; omega⟩
          case measure => simp [intOf]; omega
      · obtain ⟨Ao, co, rfl, hmc⟩ := own_form2 hown
        have e : versTo (verI s L) s k = versI s := by rw [hgood.out]; have : k = s.length := by omega
                                                       rw [this]
        rw [e] at hown
        have HO := Lib.hid (RetInts.mk (c := m) (own_lenInts hown) (Nat.le_refl _) (FreshInts.of_own hown (Nat.le_refl _) (by omega)) hb)
        clear hown e
        go_wp2_with fail
        go_ret
        rw [HV.out]
        exact HO.out
end Go.Proofs.Ytofcpfabjfhjoaa
namespace Go.Proofs.Ytofcpfabjfhjoaa
open Go.RowKit Go.BigFrame
set_option linter.unusedVariables false

set_option maxRecDepth 100000 in
set_option maxHeartbeats 4000000 in
theorem sVersionsOf_any (A : Option Addr) (n c : Nat) (s : List OpV) (w : World) (hx : ROps w A n s) (hnc : n ≤ c) :
    Calls Try.prog 46 #[.slice A n c] w (RetInts w (orNil (validS s) (versS s))) := by
  have hn := hx.2.1
  have hl := hx.1
  have HX := Lib.hid hx
  clear hx
  go_enter Try.func46, Try.ntmps46
  go_wp2_with fail
  refine (svalid'_any A n c s w HX.out hnc).mono ?_
  rintro e w1 ⟨rfl, hb1⟩
  cases hv : validS s
  · have HV := Lib.hid hv
    clear hv
    go_wp2_with fail
    go_ret
    rw [HV.out]
    exact RetInts.nil hb1
  · have HV := Lib.hid hv
    clear hv
    have hsz1 := hb1.size
    have hn16 : n ≤ 16 := by
      have := ((validS_iff s).1 HV.out).1
      omega
    go_wp2_with fail
    refine (survivors_any A n c s w1 (HX.out.below hb1 (Nat.le_refl _))).mono ?_
    rintro e w2 ⟨LA, lc, rfl, hlc, hfL, hb2⟩
    have hbw2 := hb1.trans (hb2.mono hb1.size)
    have hgood : Hid (versS s = versTo (verS s (survS s)) s s.length) := rfl
    have hLt : Hid (∀ ad, LA = some ad → ad.block < w2.heap.size) := fun ad had => (hfL.2 ad had).elim fun b h => by
      obtain ⟨cur, rfl, hge, hh, _⟩ := h
      exact lt_of_block hh
    have HST : Hid ((w2.alloc (.cells #[] 3)).ownsRow w2.heap.size 3 1 (.slice (some ⟨w2.heap.size, 0, none⟩) 0 0) 0 (intCells (versTo (verS s (survS s)) s 0))) :=
      World.ownsRow_made w2 #[] 0 (Nat.le_refl _) (by decide) rfl
    have hL := Lib.hid hfL.1
    generalize survS s = L at *
    have hlenL := hL.out.2.1
    have hsz2 := hbw2.size
    have HBW2 := Lib.hid hbw2
    have hne : Hid (∀ ad, LA = some ad → (Value.slice (some ⟨w2.heap.size, 0, none⟩) 0 0).ownBlock ≠ some ad.block) := by
      intro ad had e
      have := hLt.out ad had
      simp only [Value.ownBlock, Option.some.injEq] at e
      omega
    clear hfL hb1 hb2 hbw2
    go_wp2_with fail
    go_loopw [4, 5] (fun ov i wr => ∃ (k m : Nat), k ≤ n ∧ m ≤ k ∧ i = .int .i64 k ∧ Below w.heap.size w wr ∧ RInts wr LA L.length L ∧ wr.ownsRow w2.heap.size 3 1 ov m (intCells (versTo (verS s L) s k)) ∧ (∀ ad, LA = some ad → ov.ownBlock ≠ some ad.block) ∧ w2.heap.size ≤ wr.heap.size) (fun _ i _ => n - (intOf i).toNat)
    case atStart => exact ⟨0, 0, Nat.zero_le _, Nat.le_refl _, rfl, HBW2.out.alloc hsz2 _, hL.out.below ((Below.refl _ _).alloc (Nat.le_refl _) _) (Nat.le_refl _), HST.out, hne.out, by simp⟩
    case round =>
      clear HST hL
      obtain ⟨k, m, hk, hmk, rfl, hb, hLr, hown, hno, hK⟩ := hrel
      by_cases hlt : k < n
      · have hxr := HX.out.below hb (Nat.le_refl _)
        obtain ⟨b, off, o, rfl, hbl, ho, c0, c1, c2⟩ := hxr.at_ hlt
        have hs := hb.size
        have hstep := Lib.hid (versTo_succ (f := verS s L) ho)
        have hcl : ∀ W : World, Below wr.heap.size wr W → Calls Try.prog 92 #[.slice (some ⟨b, off, none⟩) n c, .slice LA L.length lc, .int .i64 (k : Int)] W fun e w' => e = .returned (.int .i64 (verS s L k o)) ∧ Below W.heap.size W w' := fun W hW =>
          versionAt_any _ LA n c lc k s L o W (hxr.below hW (Nat.le_refl _)) (hLr.below hW (Nat.le_refl _)) ho
        have HC := Lib.hid hcl
        have HL := Lib.hid hLr
        have HNO := Lib.hid hno
        clear hcl ho hxr hLr hno
        obtain ⟨tx, kd, it⟩ := o
        simp only at hstep c0 c1 c2
        by_cases h0 : kd = 0
        · subst h0
          go_wp2_with fail
          refine (HC.out wr (Below.refl _ _)).mono ?_
          rintro e w4 ⟨rfl, hb4⟩
          have hown4 := own_below hown hb4
          have hK4 := hb4.size
          have hbw4 := hb.trans (hb4.mono hs)
          have hL4 := Lib.hid (HL.out.below hb4 (Nat.le_refl _))
          obtain ⟨z, hz⟩ : ∃ z, verS s L k ⟨tx, 0, it⟩ = z := ⟨_, rfl⟩
          rw [hz] at hstep
          rw [hz]
          clear hb4 hz
          have hsz4 := hbw4.size
          go_wp2_with (at_builtin; refine app_ints (.tmp 24) (.tmp 29) (hown4.alloc _) (by simp; omega) (lit1 rfl _) (by omega) rfl rfl rfl rfl ?_; intro v5 w5 hown5 hg5 hat5)
          have hg5' := World.grownBy.trans (World.grownBy_alloc w4 _ _) hg5
          have hb5 := Below.own hbw4 hown4 hsz2 hg5'
          have hL5 : RInts w5 LA L.length L := hL4.out.grown hg5' HNO.out
          have hno5 : ∀ ad, LA = some ad → v5.ownBlock ≠ some ad.block := by
            intro ad had e
            rcases hat5 with h | h
            · rw [h] at e; exact HNO.out ad had e
            · rw [h] at e
              injection e with e
              have := hLt.out ad had
              simp at e
              omega
          go_roundw
          case rel => exact ⟨k + 1, m + 1, by omega, by omega, by go_num, hb5, hL5, by rw [hstep.out, if_pos (by simp)]; exact hown5, hno5, by have := hg5'.size; omega⟩
          case measure => simp [intOf]; omega
        · have h0' : (kd == 0) = false := by simpa using h0
          go_wp2_with fail
          go_roundw
          case rel => exact ⟨k + 1, m, by omega, by omega, by go_num, hb, HL.out, by rw [hstep.out, if_neg (by simp [h0'])]; exact hown, HNO.out, hK⟩
          case measure => simp [intOf]; omega
      · obtain ⟨Ao, co, rfl, hmc⟩ := own_form2 hown
        have e : versTo (verS s L) s k = versS s := by rw [hgood.out]; have : k = s.length := by omega
                                                       rw [this]
        rw [e] at hown
        have HO := Lib.hid (RetInts.mk (c := co) (own_lenInts hown) hmc (FreshInts.of_own hown hsz2 (by omega)) hb)
        clear hown e
        go_wp2_with fail
        go_ret
        rw [HV.out]
        exact HO.out
end Go.Proofs.Ytofcpfabjfhjoaa
namespace Go.Proofs.Ytofcpfabjfhjoaa
open Go.RowKit Go.BigFrame
set_option linter.unusedVariables false

def behB (L : List Int) (x y : Int) : Bool := decide (idxZ L y < idxZ L x)
set_option maxHeartbeats 400000 in
theorem behind_any (A : Option Addr) (n c : Nat) (L : List Int) (x y : Int) (w : World) (hx : RInts w A n L) :
    Calls Try.prog 136 #[.slice A n c, .int .i64 x, .int .i64 y] w fun e w' => e = .returned (.bool (behB L x y)) ∧ Below w.heap.size w w' := by
  have HX := Lib.hid hx
  have hres : Hid (behB L x y = decide (idxZ L y < idxZ L x)) := rfl
  clear hx
  obtain ⟨a, ha⟩ : ∃ z, idxZ L x = z := ⟨_, rfl⟩
  obtain ⟨b, hb⟩ : ∃ z, idxZ L y = z := ⟨_, rfl⟩
  rw [ha, hb] at hres
  have HA := Lib.hid ha
  have HB := Lib.hid hb
  clear ha hb
  go_enter Try.func136, Try.ntmps136
  go_wp2_with fail
  refine (IndexL_any A n c L x w HX.out).mono ?_
  rw [HA.out]
  rintro e w1 ⟨rfl, hb1⟩
  go_wp2_with fail
  refine (IndexL_any A n c L y w1 (HX.out.below hb1 (Nat.le_refl _))).mono ?_
  rw [HB.out]
  rintro e w2 ⟨rfl, hb2⟩
  go_wp2_with fail
  go_ret
  exact ⟨ret_bool hres.out.symm, hb1.trans (hb2.mono hb1.size)⟩
end Go.Proofs.Ytofcpfabjfhjoaa
namespace Go.Proofs.Ytofcpfabjfhjoaa
open Go.RowKit Go.BigFrame
set_option linter.unusedVariables false

def fB (s : List OpV) (L : List Int) (t u : Int) : Bool := behB L u t && ((wI s t &&& wI s u) != 0)
def vgOut (f : Int → Int → Bool) (L M : List Int) (rows : List Nat) : List Nat := M.foldl (fun r t => agIn (f t) t L r) rows
theorem vgOut_snoc {f : Int → Int → Bool} {L M : List Int} {rows : List Nat} {j : Nat} {t : Int} (h : M[j]? = some t) : vgOut f L (M.take (j + 1)) rows = agIn (f t) t L (vgOut f L (M.take j) rows) := by
  unfold vgOut
  rw [take_snoc h, List.foldl_append]; rfl
theorem vgOut_ok {f : Int → Int → Bool} {L : List Int} (hl : ∀ u ∈ L, 0 ≤ u ∧ u ≤ 3) : ∀ {M : List Int} {rows : List Nat}, Rows4 rows → Rows4 (vgOut f L M rows) := by
  intro M
  induction M with
  | nil => intro rows h; exact h
  | cons x r ih =>
    intro rows h
    exact ih (agIn_ok hl h)
def vgStep (ver : Nat → OpV → Int) (L : List Int) (rows : List Nat) (k : Nat) (o : OpV) : List Nat :=
  if o.kind == 0 && (L.any fun y => y == o.tx) && decide (0 ≤ ver k o) && (ver k o != o.tx) then rowSet rows (ver k o) o.tx else rows
def vgTo (ver : Nat → OpV → Int) (L : List Int) (s : List OpV) (rows : List Nat) : Nat → List Nat
  | 0 => rows
  | k + 1 => match s[k]? with | some o => vgStep ver L (vgTo ver L s rows k) k o | none => vgTo ver L s rows k
theorem vgTo_succ {ver : Nat → OpV → Int} {L : List Int} {s : List OpV} {rows : List Nat} {k : Nat} {o : OpV} (h : s[k]? = some o) : vgTo ver L s rows (k + 1) = vgStep ver L (vgTo ver L s rows k) k o := by simp only [vgTo, h]
theorem vgTo_ok {ver : Nat → OpV → Int} {L : List Int} {s : List OpV} {rows : List Nat} (h : Rows4 rows) (hs : ∀ o ∈ s, 0 ≤ o.tx ∧ o.tx ≤ 3) (k : Nat) : Rows4 (vgTo ver L s rows k) := by
  induction k with
  | zero => exact h
  | succ k ih =>
    simp only [vgTo]
    split
    · rename_i o ho
      unfold vgStep
      split
      · exact rowSet_ok ih (hs o (List.mem_of_getElem? ho))
      · exact ih
    · exact ih
def vgI (s : List OpV) : List Nat := vgTo (verI s (survI s)) (survI s) s (vgOut (fB s (survI s)) (survI s) (survI s) (agI4 s)) s.length
end Go.Proofs.Ytofcpfabjfhjoaa
namespace Go.Proofs.Ytofcpfabjfhjoaa
open Go.RowKit Go.BigFrame
set_option linter.unusedVariables false

def ovI (s : List OpV) (t u : Int) : Bool := decide (firstI s t < commitI s u) && decide (firstI s u < commitI s t)
def ovS (s : List OpV) (t u : Int) : Bool := decide (stampN s t < commitN s u) && decide (stampN s u < commitN s t)

set_option maxHeartbeats 1000000 in
theorem PivotOf1_any (t u : Int) (A : Option Addr) (n c b : Nat) (s : List OpV) (w : World) (hc : w.cell? ⟨b, 0, none⟩ = some (.slice A n c)) (hx : ROps w A n s) :
    Calls Try.prog 83 #[.int .i64 t, .int .i64 u, .pointer (some ⟨b, 0, none⟩)] w fun e w' => e = .returned (.bool (ovI s t u)) ∧ Below w.heap.size w w' := by
  have L := Later.cell hc
  have hC : ∀ (x : Int) (v : Later w), Calls Try.prog 85 #[.slice A n c, .int .i64 x] v.1 fun e w' => e = .returned (.int .i64 (commitI s x)) ∧ Below v.1.heap.size v.1 w' := fun x v => commitOf_any A n c s x v.1 (hx.later v)
  have hF : ∀ (x : Int) (v : Later w), Calls Try.prog 84 #[.slice A n c, .int .i64 x] v.1 fun e w' => e = .returned (.int .i64 (firstI s x)) ∧ Below v.1.heap.size v.1 w' := fun x v => firstOf_any A n c s x v.1 (hx.later v)
  have HC := Lib.hid hC
  have HF := Lib.hid hF
  have hres : Hid (ovI s t u = (decide (firstI s t < commitI s u) && decide (firstI s u < commitI s t))) := rfl
  clear hC hF hx hc
  cases h1 : decide (firstI s t < commitI s u)
  · have H1 := Lib.hid h1
    have h1' := h1
    clear h1
    go_enter Try.func83, Try.ntmps83
    go_wp2_with fail
    refine region_later (by kernel_rfl) (by kernel_rfl) ?_
    repeat (go_big_quiet_step ((first | (go_at_call 85; exact later_call _ (HC.out _ _)) | (go_at_call 84; exact later_call _ (HF.out _ _)))))
    refine wpQuiet_nil ?_
    rintro _ ⟨v, rfl⟩
    go_wp2_with fail
    go_ret
    exact ⟨ret_bool (by rw [hres.out, H1.out]; rfl), v.2⟩
  · cases h2 : decide (firstI s u < commitI s t)
    all_goals
      have H1 := Lib.hid h1
      have H2 := Lib.hid h2
      have h1' := h1
      have h2' := h2
      clear h1 h2
      go_enter Try.func83, Try.ntmps83
      go_wp2_with fail
      refine region_later (by kernel_rfl) (by kernel_rfl) ?_
      repeat (go_big_quiet_step ((first | (go_at_call 85; exact later_call _ (HC.out _ _)) | (go_at_call 84; exact later_call _ (HF.out _ _)))))
      refine wpQuiet_nil ?_
      rintro _ ⟨v, rfl⟩
      go_wp2_with fail
      go_ret
      exact ⟨ret_bool (by rw [hres.out, H1.out, H2.out]; rfl), v.2⟩
theorem runs_PivotOf1 : Runs 83 := runs_of Try.func83 (by kernel_rfl) rfl

set_option maxHeartbeats 1000000 in
theorem overlap_any (A : Option Addr) (n c : Nat) (s : List OpV) (t u : Int) (w : World) (hx : ROps w A n s) :
    Calls Try.prog 80 #[.slice A n c, .int .i64 t, .int .i64 u] w fun e w' => e = .returned (.bool (ovS s t u)) ∧ Below w.heap.size w w' := by
  have HX := Lib.hid hx
  have hres : Hid (ovS s t u = (decide (stampN s t < commitN s u) && decide (stampN s u < commitN s t))) := rfl
  clear hx
  obtain ⟨a1, ha1⟩ : ∃ z, stampN s t = z := ⟨_, rfl⟩
  obtain ⟨a2, ha2⟩ : ∃ z, commitN s u = z := ⟨_, rfl⟩
  obtain ⟨a3, ha3⟩ : ∃ z, stampN s u = z := ⟨_, rfl⟩
  obtain ⟨a4, ha4⟩ : ∃ z, commitN s t = z := ⟨_, rfl⟩
  rw [ha1, ha2, ha3, ha4] at hres
  have H1 := Lib.hid ha1
  have H2 := Lib.hid ha2
  have H3 := Lib.hid ha3
  have H4 := Lib.hid ha4
  clear ha1 ha2 ha3 ha4
  go_enter Try.func80, Try.ntmps80
  go_wp2_with fail
  refine (stampOf_any A n c s t w HX.out).mono ?_
  rw [H1.out]
  rintro e w1 ⟨rfl, hb1⟩
  go_wp2_with fail
  refine (commitAt_any A n c s u w1 (HX.out.below hb1 (Nat.le_refl _))).mono ?_
  rw [H2.out]
  rintro e w2 ⟨rfl, hb2⟩
  have hb12 := hb1.trans (hb2.mono hb1.size)
  clear hb2
  by_cases h1 : a1 < a2
  · have h1' : decide ((a1 : Int) < (a2 : Int)) = true := by simpa using h1
    go_wp2_with fail
    refine (stampOf_any A n c s u w2 (HX.out.below hb12 (Nat.le_refl _))).mono ?_
    rw [H3.out]
    rintro e w3 ⟨rfl, hb3⟩
    have hb13 := hb12.trans (hb3.mono hb12.size)
    clear hb3
    go_wp2_with fail
    refine (commitAt_any A n c s t w3 (HX.out.below hb13 (Nat.le_refl _))).mono ?_
    rw [H4.out]
    rintro e w4 ⟨rfl, hb4⟩
    have hb14 := hb13.trans (hb4.mono hb13.size)
    clear hb4
    by_cases h2 : a3 < a4
    · have h2' : decide ((a3 : Int) < (a4 : Int)) = true := by simpa using h2
      go_wp2_with fail
      go_ret
      exact ⟨ret_bool (by rw [hres.out]; simp [h1, h2]), hb14⟩
    · have h2' : decide ((a3 : Int) < (a4 : Int)) = false := by simpa using h2
      go_wp2_with fail
      go_ret
      exact ⟨ret_bool (by rw [hres.out]; simp [h1, h2]), hb14⟩
  · have h1' : decide ((a1 : Int) < (a2 : Int)) = false := by simpa using h1
    go_wp2_with fail
    go_ret
    exact ⟨ret_bool (by rw [hres.out]; simp [h1]), hb12⟩

/-- Three who are against each other. -/
def pivF (rows : List Nat) (ov : Int → Int → Bool) (t u v : Nat) : Bool := (rows.getD t 0).testBit u && (rows.getD u 0).testBit v && ov t u && ov u v
def pivX (rows : List Nat) (ov : Int → Int → Bool) (x : Nat) : Bool := pivF rows ov (x / 16) (x / 4 % 4) (x % 4)
def pivR (rows : List Nat) (ov : Int → Int → Bool) : Option Nat := (List.range 64).find? (pivX rows ov)
def pivL : Option Nat → List Int
  | some x => [((x / 16 : Nat) : Int), ((x / 4 % 4 : Nat) : Int), ((x % 4 : Nat) : Int)]
  | none => []
theorem pivR_hit {rows : List Nat} {ov : Int → Int → Bool} {x : Nat} (hx : x < 64) (h : pivX rows ov x = true) (hno : ∀ y, y < x → pivX rows ov y = false) : pivR rows ov = some x := by
  unfold pivR
  rw [List.find?_eq_some_iff_getElem]
  exact ⟨h, x, by simpa using hx, by simp, fun j hj => by simp [hno j hj]⟩
theorem pivR_none {rows : List Nat} {ov : Int → Int → Bool} (hno : ∀ y, y < 64 → pivX rows ov y = false) : pivR rows ov = none := by
  unfold pivR
  rw [List.find?_eq_none]
  intro x hx
  rw [hno x (List.mem_range.1 hx)]; simp
theorem pivX_at {rows : List Nat} {ov : Int → Int → Bool} {t u v : Nat} (hu : u < 4) (hv : v < 4) : pivX rows ov (16 * t + 4 * u + v) = pivF rows ov t u v := by
  unfold pivX
  rw [show (16 * t + 4 * u + v) / 16 = t by omega, show (16 * t + 4 * u + v) / 4 % 4 = u by omega, show (16 * t + 4 * u + v) % 4 = v by omega]
/-- The call hands back these integers in new memory and a bool, and changes nothing. -/
def RetIntsB (w0 : World) (xs : List Int) (b : Bool) (e : Ending) (w : World) : Prop :=
  ∃ A c, e = .returned (.tuple #[.slice A xs.length c, .bool b]) ∧ xs.length ≤ c ∧ FreshInts w0 w A xs.length xs ∧ Below w0.heap.size w0 w
theorem RetIntsB.nil {w0 w : World} {b : Bool} (h : Below w0.heap.size w0 w) : RetIntsB w0 [] b (.returned (.tuple #[.slice none 0 0, .bool b])) w := ⟨none, 0, rfl, Nat.le_refl _, FreshInts.none_, h⟩
theorem RetIntsB.lit {w0 w : World} {H : Nat} (hH : w.heap.size = H) (h : Below w0.heap.size w0 w) (xs : List Int) (hl : xs.length ≤ 64) {b : Bool} : RetIntsB w0 xs b (.returned (.tuple #[.slice (some ⟨H, 0, none⟩) xs.length xs.length, .bool b])) (w.alloc (.cells (intCells xs).toArray 3)) := by
  subst hH
  refine ⟨_, _, rfl, Nat.le_refl _, ⟨RInts.lit w xs _ (by omega), fun ad had => ?_⟩, h.alloc h.size _⟩
  injection had with had
  subst had
  exact ⟨_, _, rfl, h.size, heap_alloc_new w _, by simp [intCells]⟩
end Go.Proofs.Ytofcpfabjfhjoaa
namespace Go.Proofs.Ytofcpfabjfhjoaa
open Go.RowKit Go.BigFrame
set_option linter.unusedVariables false

theorem rowsI_get {R : List Nat} (h : Rows4 R) {w : World} {A : Option Addr} (hr : RInts w A 4 (rowsI R)) {t : Nat} (ht : t < 4) : ∃ b off, A = some ⟨b, off, none⟩ ∧ b < w.heap.size ∧ w.cell? ⟨b, off + t, none⟩ = some (.int .i64 ((R.getD t 0 : Nat) : Int)) ∧ R.getD t 0 < 16 := by
  obtain ⟨b, off, x, hA, hb, hx, hc⟩ := hr.at_ (k := t) ht
  have e : R[t]? = some (R[t]'(by have := h.1; omega)) := List.getElem?_eq_getElem _
  have hg : R.getD t 0 = R[t]'(by have := h.1; omega) := by rw [List.getD_eq_getElem?_getD, e]; rfl
  refine ⟨b, off, hA, hb, ?_, by rw [hg]; exact h.2 _ (List.getElem_mem _)⟩
  rw [hc, hg]
  simp only [rowsI, List.getElem?_map, e, Option.map_some, Option.some.injEq] at hx
  rw [hx]

set_option maxRecDepth 100000 in
set_option maxHeartbeats 4000000 in
theorem PivotOf_any (A : Option Addr) (n c : Nat) (s : List OpV) (w : World) (hx : ROps w A n s) (hnc : n ≤ c) :
    Calls Try.prog 28 #[.slice A n c] w (RetIntsB w (orNil (validS s) (pivL (pivR (agI4 s) (ovI s)))) (validS s && (pivR (agI4 s) (ovI s)).isSome)) := by
  have hcl : ∀ W : World, W = w.alloc (.cells #[.slice A n c] 23) → Below w.heap.size w W ∧ ROps W A n s ∧ (∀ u : Later W, u.1.cell? ⟨w.heap.size, 0, none⟩ = some (.slice A n c)) := by
    intro W hW
    have hc : W.cell? ⟨w.heap.size, 0, none⟩ = some (.slice A n c) := by rw [hW]; exact box_at _ _ _ _ _ rfl
    have hb : Below w.heap.size w W := by rw [hW]; exact (Below.refl _ _).alloc (Nat.le_refl _) _
    exact ⟨hb, hx.below hb (Nat.le_refl _), Later.cell hc⟩
  have HC := Lib.hid hcl
  clear hcl hx
  go_enter Try.func28, Try.ntmps28
  go_wp2_with fail
  obtain ⟨W, hW⟩ : ∃ W : World, W = w.alloc (.cells #[.slice A n c] 23) := ⟨_, rfl⟩
  rw [← hW]
  obtain ⟨hbW, hxW, LS⟩ := HC.out W hW
  have HX := Lib.hid hxW
  clear hW HC hxW
  refine (ValidSchedule_any A n c s W HX.out hnc).mono ?_
  rintro e w1 ⟨rfl, hb1⟩
  cases hv : validS s
  · have HV := Lib.hid hv
    clear hv
    go_wp2_with fail
    go_ret2
    rw [HV.out]
    exact RetIntsB.nil (hbW.trans (hb1.mono hbW.size))
  · have HV := Lib.hid hv
    clear hv
    have q1 := LS ⟨w1, hb1⟩
    simp only at q1
    have hbw1 := hbW.trans (hb1.mono hbW.size)
    go_wp2_with fail
    refine (againstOf_any A n c s w1 (HX.out.below hb1 (Nat.le_refl _)) hnc HV.out).mono ?_
    have hok : Rows4 (agI4 s) := by unfold agI4; exact agTo_ok (survI_rng HV.out) _
    have hlen : (rowsI (agI4 s)).length = 4 := by simp [rowsI, hok.1]
    rintro e w2 ⟨LA, lc, rfl, hlc, ⟨hL, hLf⟩, hb2⟩
    rw [hlen] at hL hlc
    rw [hlen]
    have hbw2 := hbw1.trans (hb2.mono hbw1.size)
    have hbWW := hb1.trans (hb2.mono hb1.size)
    have hCl : ∀ (v : Later w2) (t u : Int), Calls Try.prog 83 #[.int .i64 t, .int .i64 u, .pointer (some ⟨w.heap.size, 0, none⟩)] v.1 fun e w' => e = .returned (.bool (ovI s t u)) ∧ Below v.1.heap.size v.1 w' := fun v t u => by
      have hbv := hbWW.trans (v.2.mono hbWW.size)
      exact PivotOf1_any t u A n c _ s v.1 (LS ⟨v.1, hbv⟩) (HX.out.below hbv (Nat.le_refl _))
    have hrun := runs_PivotOf1
    unfold Runs at hrun
    have HL := Lib.hid hL
    have HK := Lib.hid hok
    have HCl := Lib.hid hCl
    generalize hR : agI4 s = R at *
    have hpost : Hid (∀ x : Nat, x < 64 → pivX R (ovI s) x = true → (∀ y, y < x → pivX R (ovI s) y = false) → orNil true (pivL (pivR R (ovI s))) = [((x / 16 : Nat) : Int), ((x / 4 % 4 : Nat) : Int), ((x % 4 : Nat) : Int)] ∧ (true && (pivR R (ovI s)).isSome) = true) := by
      intro x h1 h2 h3
      rw [pivR_hit h1 h2 h3]
      exact ⟨rfl, rfl⟩
    have hpost0 : Hid ((∀ y, y < 64 → pivX R (ovI s) y = false) → orNil true (pivL (pivR R (ovI s))) = [] ∧ (true && (pivR R (ovI s)).isSome) = false) := by
      intro h
      rw [pivR_none h]
      exact ⟨rfl, rfl⟩
    clear hL hLf hok hCl hlen LS q1 hR hb1 hb2 hbw1 hbWW hbW
    go_wp2_with fail
    go_loopw [15] (fun i wr => ∃ k : Nat, k ≤ 4 ∧ i = .int .i64 k ∧ Below w2.heap.size w2 wr ∧ ∀ y, y < 16 * k → pivX R (ovI s) y = false) (fun i _ => 4 - (intOf i).toNat)
    case atStart => exact ⟨0, by omega, rfl, Below.refl _ _, by omega⟩
    case round =>
      obtain ⟨k, hk, rfl, hbo, hno⟩ := hrel
      by_cases hlt : k < 4
      · have HN := Lib.hid hno
        clear hno
        have hdk : decide ((k : Int) < 4) = true := by simp; omega
        go_wp2_with fail
        obtain ⟨wo, rfl⟩ : ∃ wo : World, wo = wr := ⟨_, rfl⟩
        go_loopw [18] (fun i wr => ∃ j : Nat, j ≤ 4 ∧ i = .int .i64 j ∧ Below w2.heap.size w2 wr ∧ ∀ y, y < 16 * k + 4 * j → pivX R (ovI s) y = false) (fun i _ => 4 - (intOf i).toNat)
        case atStart => exact ⟨0, by omega, rfl, hbo, HN.out⟩
        case round =>
          clear hbo HN
          obtain ⟨j, hj, rfl, hbo, hno⟩ := hrel
          by_cases hlt2 : j < 4
          · have HN := Lib.hid hno
            clear hno
            have hdj : decide ((j : Int) < 4) = true := by simp; omega
            go_wp2_with fail
            obtain ⟨wo2, rfl⟩ : ∃ wo2 : World, wo2 = wr := ⟨_, rfl⟩
            go_loopw [21] (fun i wr => ∃ q : Nat, q ≤ 4 ∧ i = .int .i64 q ∧ Below w2.heap.size w2 wr ∧ ∀ y, y < 16 * k + 4 * j + q → pivX R (ovI s) y = false) (fun i _ => 4 - (intOf i).toNat)
            case atStart => exact ⟨0, by omega, rfl, hbo, HN.out⟩
            case round =>
              clear hbo HN
              obtain ⟨q, hq, rfl, hbr, hno⟩ := hrel
              by_cases hlt3 : q < 4
              · have hat : pivX R (ovI s) (16 * k + 4 * j + q) = ((R.getD k 0).testBit j && (R.getD j 0).testBit q && ovI s k j && ovI s j q) := pivX_at hlt2 hlt3
                have hnext : Hid (pivX R (ovI s) (16 * k + 4 * j + q) = false → ∀ y, y < 16 * k + 4 * j + (q + 1) → pivX R (ovI s) y = false) := by
                  intro h y hy
                  by_cases e : y = 16 * k + 4 * j + q
                  · rw [e]; exact h
                  · exact hno y (by omega)
                have hdone : Hid (pivX R (ovI s) (16 * k + 4 * j + q) = true → orNil true (pivL (pivR R (ovI s))) = [(k : Int), (j : Int), (q : Int)] ∧ (true && (pivR R (ovI s)).isSome) = true) := by
                  intro h
                  have := hpost.out _ (by omega) h hno
                  rw [show (16 * k + 4 * j + q) / 16 = k by omega, show (16 * k + 4 * j + q) / 4 % 4 = j by omega, show (16 * k + 4 * j + q) % 4 = q by omega] at this
                  exact this
                obtain ⟨b1, hb1⟩ : ∃ b1, (R.getD k 0).testBit j = b1 := ⟨_, rfl⟩
                obtain ⟨b2, hb2⟩ : ∃ b2, (R.getD j 0).testBit q = b2 := ⟨_, rfl⟩
                obtain ⟨b3, hb3⟩ : ∃ b3, ovI s k j = b3 := ⟨_, rfl⟩
                obtain ⟨b4, hb4⟩ : ∃ b4, ovI s j q = b4 := ⟨_, rfl⟩
                rw [hb1, hb2, hb3, hb4] at hat
                have hrr := HL.out.below hbr (Nat.le_refl _)
                obtain ⟨bo, offo, hA, hbl, ck, hk16⟩ := rowsI_get HK.out hrr hlt
                obtain ⟨bo', offo', hA', _, cj, hj16⟩ := rowsI_get HK.out hrr hlt2
                rw [hA] at hA'
                injection hA' with hA'
                injection hA' with e1 e2 _
                subst e1; subst e2
                have hab1 := and_bit (R.getD k 0) j (by omega)
                have hab2 := and_bit (R.getD j 0) q (by omega)
                rw [hb1] at hab1
                rw [hb2] at hab2
                have hc3 : ∀ W : World, Below wr.heap.size wr W → Calls Try.prog 83 #[.int .i64 (k : Int), .int .i64 (j : Int), .pointer (some ⟨w.heap.size, 0, none⟩)] W fun e w' => e = .returned (.bool b3) ∧ Below W.heap.size W w' := fun W hW => by
                  have := HCl.out ⟨W, hbr.trans (hW.mono hbr.size)⟩ k j; rw [hb3] at this; exact this
                have hc4 : ∀ W : World, Below wr.heap.size wr W → Calls Try.prog 83 #[.int .i64 (j : Int), .int .i64 (q : Int), .pointer (some ⟨w.heap.size, 0, none⟩)] W fun e w' => e = .returned (.bool b4) ∧ Below W.heap.size W w' := fun W hW => by
                  have := HCl.out ⟨W, hbr.trans (hW.mono hbr.size)⟩ j q; rw [hb4] at this; exact this
                have HAT := Lib.hid hat
                have HC3 := Lib.hid hc3
                have HC4 := Lib.hid hc4
                subst hA
                clear hno hat hb1 hb2 hb3 hb4 hrr hc3 hc4
                generalize R.getD k 0 = rk at *
                generalize R.getD j 0 = rj at *
                cases b1
                · go_wp2_with fail
                  go_roundw
                  case rel => exact ⟨q + 1, by omega, by go_num, hbr, hnext.out (by rw [HAT.out]; rfl)⟩
                  case measure => simp [intOf]; omega
                · cases b2
                  · go_wp2_with fail
                    go_roundw
                    case rel => exact ⟨q + 1, by omega, by go_num, hbr, hnext.out (by rw [HAT.out]; rfl)⟩
                    case measure => simp [intOf]; omega
                  · go_wp2_with fail
                    refine (HC3.out wr (Below.refl _ _)).mono ?_
                    rintro e w3 ⟨rfl, hb3⟩
                    cases b3
                    · go_wp2_with fail
                      go_roundw
                      case rel => exact ⟨q + 1, by omega, by go_num, hbr.trans (hb3.mono hbr.size), hnext.out (by rw [HAT.out]; rfl)⟩
                      case measure => simp [intOf]; omega
                    · go_wp2_with fail
                      refine (HC4.out w3 hb3).mono ?_
                      rintro e w4 ⟨rfl, hb4⟩
                      have hbr4 := hbr.trans ((hb3.trans (hb4.mono hb3.size)).mono hbr.size)
                      cases b4
                      · go_wp2_with fail
                        go_roundw
                        case rel => exact ⟨q + 1, by omega, by go_num, hbr4, hnext.out (by rw [HAT.out]; rfl)⟩
                        case measure => simp [intOf]; omega
                      · have HD := Lib.hid (hdone.out (by rw [HAT.out]; rfl))
                        go_wp2_with fail
                        go_ret2
                        rw [HV.out, HD.out.1, HD.out.2]
                        exact RetIntsB.lit rfl (hbw2.trans (hbr4.mono hbw2.size)) [(k : Int), (j : Int), (q : Int)] (by simp)
              · have HN := Lib.hid hno
                clear hno
                go_wp2_with fail
                go_roundw
                case rel => exact ⟨j + 1, by omega, by go_num, hbr, fun y hy => HN.out y (by omega)⟩
                case measure => simp [intOf]; omega
          · have HN := Lib.hid hno
            clear hno
            go_wp2_with fail
            go_roundw
            case rel => exact ⟨k + 1, by omega, by go_num, hbo, fun y hy => HN.out y (by omega)⟩
            case measure => simp [intOf]; omega
      · have HN := Lib.hid (hpost0.out (fun y hy => hno y (by omega)))
        clear hno
        go_wp2_with fail
        go_ret2
        rw [HV.out, HN.out.1, HN.out.2]
        exact RetIntsB.nil (hbw2.trans (hbo.mono hbw2.size))
end Go.Proofs.Ytofcpfabjfhjoaa
namespace Go.Proofs.Ytofcpfabjfhjoaa
open Go.RowKit Go.BigFrame
set_option linter.unusedVariables false

set_option maxRecDepth 100000 in
set_option maxHeartbeats 4000000 in
theorem sPivotOf_any (A : Option Addr) (n c : Nat) (s : List OpV) (w : World) (hx : ROps w A n s) (hnc : n ≤ c) :
    Calls Try.prog 26 #[.slice A n c] w (RetIntsB w (orNil (validS s) (pivL (pivR (agS4 s) (ovS s)))) (validS s && (pivR (agS4 s) (ovS s)).isSome)) := by
  have HX := Lib.hid hx
  clear hx
  go_enter Try.func26, Try.ntmps26
  go_wp2_with fail
  refine (svalid'_any A n c s w HX.out hnc).mono ?_
  rintro e w1 ⟨rfl, hb1⟩
  cases hv : validS s
  · have HV := Lib.hid hv
    clear hv
    go_wp2_with fail
    go_ret2
    rw [HV.out]
    exact RetIntsB.nil hb1
  · have HV := Lib.hid hv
    clear hv
    have hbw1 := hb1
    go_wp2_with fail
    refine (against_any A n c s w1 (HX.out.below hb1 (Nat.le_refl _)) HV.out).mono ?_
    have hok : Rows4 (agS4 s) := by unfold agS4; exact agTo_ok (survS_rng HV.out) _
    have hlen : (rowsI (agS4 s)).length = 4 := by simp [rowsI, hok.1]
    rintro e w2 ⟨LA, lc, rfl, hlc, ⟨hL, hLf⟩, hb2⟩
    rw [hlen] at hL hlc
    rw [hlen]
    have hbw2 := hbw1.trans (hb2.mono hbw1.size)
    have hCl : ∀ (v : Later w2) (t u : Int), Calls Try.prog 80 #[.slice A n c, .int .i64 t, .int .i64 u] v.1 fun e w' => e = .returned (.bool (ovS s t u)) ∧ Below v.1.heap.size v.1 w' := fun v t u =>
      overlap_any A n c s t u v.1 (HX.out.below (hbw2.trans (v.2.mono hbw2.size)) (Nat.le_refl _))
    have HL := Lib.hid hL
    have HK := Lib.hid hok
    have HCl := Lib.hid hCl
    generalize hR : agS4 s = R at *
    have hpost : Hid (∀ x : Nat, x < 64 → pivX R (ovS s) x = true → (∀ y, y < x → pivX R (ovS s) y = false) → orNil true (pivL (pivR R (ovS s))) = [((x / 16 : Nat) : Int), ((x / 4 % 4 : Nat) : Int), ((x % 4 : Nat) : Int)] ∧ (true && (pivR R (ovS s)).isSome) = true) := by
      intro x h1 h2 h3
      rw [pivR_hit h1 h2 h3]
      exact ⟨rfl, rfl⟩
    have hpost0 : Hid ((∀ y, y < 64 → pivX R (ovS s) y = false) → orNil true (pivL (pivR R (ovS s))) = [] ∧ (true && (pivR R (ovS s)).isSome) = false) := by
      intro h
      rw [pivR_none h]
      exact ⟨rfl, rfl⟩
    clear hL hLf hok hCl hlen hR hb1 hb2 hbw1
    go_wp2_with fail
    go_loopw [5] (fun i wr => ∃ k : Nat, k ≤ 4 ∧ i = .int .i64 k ∧ Below w2.heap.size w2 wr ∧ ∀ y, y < 16 * k → pivX R (ovS s) y = false) (fun i _ => 4 - (intOf i).toNat)
    case atStart => exact ⟨0, by omega, rfl, Below.refl _ _, by omega⟩
    case round =>
      obtain ⟨k, hk, rfl, hbo, hno⟩ := hrel
      by_cases hlt : k < 4
      · have HN := Lib.hid hno
        clear hno
        have hdk : decide ((k : Int) < 4) = true := by simp; omega
        go_wp2_with fail
        obtain ⟨wo, rfl⟩ : ∃ wo : World, wo = wr := ⟨_, rfl⟩
        go_loopw [6] (fun i wr => ∃ j : Nat, j ≤ 4 ∧ i = .int .i64 j ∧ Below w2.heap.size w2 wr ∧ ∀ y, y < 16 * k + 4 * j → pivX R (ovS s) y = false) (fun i _ => 4 - (intOf i).toNat)
        case atStart => exact ⟨0, by omega, rfl, hbo, HN.out⟩
        case round =>
          clear hbo HN
          obtain ⟨j, hj, rfl, hbo, hno⟩ := hrel
          by_cases hlt2 : j < 4
          · have HN := Lib.hid hno
            clear hno
            have hdj : decide ((j : Int) < 4) = true := by simp; omega
            go_wp2_with fail
            obtain ⟨wo2, rfl⟩ : ∃ wo2 : World, wo2 = wr := ⟨_, rfl⟩
            go_loopw [7] (fun i wr => ∃ q : Nat, q ≤ 4 ∧ i = .int .i64 q ∧ Below w2.heap.size w2 wr ∧ ∀ y, y < 16 * k + 4 * j + q → pivX R (ovS s) y = false) (fun i _ => 4 - (intOf i).toNat)
            case atStart => exact ⟨0, by omega, rfl, hbo, HN.out⟩
            case round =>
              clear hbo HN
              obtain ⟨q, hq, rfl, hbr, hno⟩ := hrel
              by_cases hlt3 : q < 4
              · have hdq : decide ((q : Int) < 4) = true := by simp; omega
                have hat : pivX R (ovS s) (16 * k + 4 * j + q) = ((R.getD k 0).testBit j && (R.getD j 0).testBit q && ovS s k j && ovS s j q) := pivX_at hlt2 hlt3
                have hnext : Hid (pivX R (ovS s) (16 * k + 4 * j + q) = false → ∀ y, y < 16 * k + 4 * j + (q + 1) → pivX R (ovS s) y = false) := by
                  intro h y hy
                  by_cases e : y = 16 * k + 4 * j + q
                  · rw [e]; exact h
                  · exact hno y (by omega)
                have hdone : Hid (pivX R (ovS s) (16 * k + 4 * j + q) = true → orNil true (pivL (pivR R (ovS s))) = [(k : Int), (j : Int), (q : Int)] ∧ (true && (pivR R (ovS s)).isSome) = true) := by
                  intro h
                  have := hpost.out _ (by omega) h hno
                  rw [show (16 * k + 4 * j + q) / 16 = k by omega, show (16 * k + 4 * j + q) / 4 % 4 = j by omega, show (16 * k + 4 * j + q) % 4 = q by omega] at this
                  exact this
                obtain ⟨b1, hb1⟩ : ∃ b1, (R.getD k 0).testBit j = b1 := ⟨_, rfl⟩
                obtain ⟨b2, hb2⟩ : ∃ b2, (R.getD j 0).testBit q = b2 := ⟨_, rfl⟩
                obtain ⟨b3, hb3⟩ : ∃ b3, ovS s k j = b3 := ⟨_, rfl⟩
                obtain ⟨b4, hb4⟩ : ∃ b4, ovS s j q = b4 := ⟨_, rfl⟩
                rw [hb1, hb2, hb3, hb4] at hat
                have hrr := HL.out.below hbr (Nat.le_refl _)
                obtain ⟨bo, offo, hA, hbl, ck, hk16⟩ := rowsI_get HK.out hrr hlt
                obtain ⟨bo', offo', hA', _, cj, hj16⟩ := rowsI_get HK.out hrr hlt2
                rw [hA] at hA'
                injection hA' with hA'
                injection hA' with e1 e2 _
                subst e1; subst e2
                have hab1 : ∀ W : World, Calls Try.prog 79 #[.int .i64 ((R.getD k 0 : Nat) : Int), .int .i64 (j : Int)] W fun e w' => e = .returned (.int .i64 (if b1 then 1 else 0)) ∧ W = w' := fun W => by
                  have := sbit_any (R.getD k 0) j W (by omega) (by omega); rw [hb1] at this; exact this
                have hab2 : ∀ W : World, Calls Try.prog 79 #[.int .i64 ((R.getD j 0 : Nat) : Int), .int .i64 (q : Int)] W fun e w' => e = .returned (.int .i64 (if b2 then 1 else 0)) ∧ W = w' := fun W => by
                  have := sbit_any (R.getD j 0) q W (by omega) (by omega); rw [hb2] at this; exact this
                have hc3 : ∀ W : World, Below wr.heap.size wr W → Calls Try.prog 80 #[.slice A n c, .int .i64 (k : Int), .int .i64 (j : Int)] W fun e w' => e = .returned (.bool b3) ∧ Below W.heap.size W w' := fun W hW => by
                  have := HCl.out ⟨W, hbr.trans (hW.mono hbr.size)⟩ k j; rw [hb3] at this; exact this
                have hc4 : ∀ W : World, Below wr.heap.size wr W → Calls Try.prog 80 #[.slice A n c, .int .i64 (j : Int), .int .i64 (q : Int)] W fun e w' => e = .returned (.bool b4) ∧ Below W.heap.size W w' := fun W hW => by
                  have := HCl.out ⟨W, hbr.trans (hW.mono hbr.size)⟩ j q; rw [hb4] at this; exact this
                have HAT := Lib.hid hat
                have HC3 := Lib.hid hc3
                have HC4 := Lib.hid hc4
                subst hA
                clear hno hat hb1 hb2 hb3 hb4 hrr hc3 hc4
                generalize R.getD k 0 = rk at *
                generalize R.getD j 0 = rj at *
                have HB1 := Lib.hid hab1
                have HB2 := Lib.hid hab2
                clear hab1 hab2
                cases b1
                · go_wp2_with fail
                  refine (HB1.out _).mono ?_
                  rintro e wx ⟨rfl, rfl⟩
                  go_wp2_with fail
                  go_roundw
                  case rel => exact ⟨q + 1, by omega, by go_num, hbr, hnext.out (by rw [HAT.out]; rfl)⟩
                  case measure => simp [intOf]; omega
                · cases b2
                  · go_wp2_with fail
                    refine (HB1.out _).mono ?_
                    rintro e wx ⟨rfl, rfl⟩
                    go_wp2_with fail
                    refine (HB2.out _).mono ?_
                    rintro e wx ⟨rfl, rfl⟩
                    go_wp2_with fail
                    go_roundw
                    case rel => exact ⟨q + 1, by omega, by go_num, hbr, hnext.out (by rw [HAT.out]; rfl)⟩
                    case measure => simp [intOf]; omega
                  · go_wp2_with fail
                    refine (HB1.out _).mono ?_
                    rintro e wx ⟨rfl, rfl⟩
                    go_wp2_with fail
                    refine (HB2.out _).mono ?_
                    rintro e wx ⟨rfl, rfl⟩
                    go_wp2_with fail
                    refine (HC3.out wr (Below.refl _ _)).mono ?_
                    rintro e w3 ⟨rfl, hb3⟩
                    cases b3
                    · go_wp2_with fail
                      go_roundw
                      case rel => exact ⟨q + 1, by omega, by go_num, hbr.trans (hb3.mono hbr.size), hnext.out (by rw [HAT.out]; rfl)⟩
                      case measure => simp [intOf]; omega
                    · go_wp2_with fail
                      refine (HC4.out w3 hb3).mono ?_
                      rintro e w4 ⟨rfl, hb4⟩
                      have hbr4 := hbr.trans ((hb3.trans (hb4.mono hb3.size)).mono hbr.size)
                      cases b4
                      · go_wp2_with fail
                        go_roundw
                        case rel => exact ⟨q + 1, by omega, by go_num, hbr4, hnext.out (by rw [HAT.out]; rfl)⟩
                        case measure => simp [intOf]; omega
                      · have HD := Lib.hid (hdone.out (by rw [HAT.out]; rfl))
                        go_wp2_with fail
                        go_ret2
                        rw [HV.out, HD.out.1, HD.out.2]
                        exact RetIntsB.lit rfl (hbw2.trans (hbr4.mono hbw2.size)) [(k : Int), (j : Int), (q : Int)] (by simp)
              · have HN := Lib.hid hno
                clear hno
                go_wp2_with fail
                go_roundw
                case rel => exact ⟨j + 1, by omega, by go_num, hbr, fun y hy => HN.out y (by omega)⟩
                case measure => simp [intOf]; omega
          · have HN := Lib.hid hno
            clear hno
            go_wp2_with fail
            go_roundw
            case rel => exact ⟨k + 1, by omega, by go_num, hbo, fun y hy => HN.out y (by omega)⟩
            case measure => simp [intOf]; omega
      · have HN := Lib.hid (hpost0.out (fun y hy => hno y (by omega)))
        clear hno
        go_wp2_with fail
        go_ret2
        rw [HV.out, HN.out.1, HN.out.2]
        exact RetIntsB.nil (hbw2.trans (hbo.mono hbw2.size))
end Go.Proofs.Ytofcpfabjfhjoaa
namespace Go.Proofs.Ytofcpfabjfhjoaa
set_option linter.unusedVariables false

theorem rowSet_bit {rows : List Nat} (h : Rows4 rows) {T U t u : Nat} (hT : T ≤ 3) : ((rowSet rows T U).getD t 0).testBit u = ((rows.getD t 0).testBit u || (decide (t = T) && decide (u = U))) := by
  unfold rowSet
  simp only [Int.toNat_natCast]
  rw [List.getD_eq_getElem?_getD, List.getElem?_set]
  by_cases e : T = t
  · subst e
    have hl : T < rows.length := by rw [h.1]; omega
    rw [if_pos rfl, if_pos hl]
    simp only [Option.getD_some, Nat.testBit_or, Nat.one_shiftLeft, Nat.testBit_two_pow, decide_true, Bool.true_and]
    congr 1
    exact decide_eq_decide.2 ⟨fun h => h.symm, fun h => h.symm⟩
  · rw [if_neg e, List.getD_eq_getElem?_getD]
    have : ¬ t = T := fun h => e h.symm
    simp [this]
theorem agIn_bit {f : Int → Bool} {T : Nat} (hT : T ≤ 3) {list : List Int} (hl : ∀ u ∈ list, 0 ≤ u ∧ u ≤ 3) {t u : Nat} : ∀ {rows : List Nat}, Rows4 rows → ((agIn f T list rows).getD t 0).testBit u = ((rows.getD t 0).testBit u || (decide (t = T) && (list.any fun x => x == (u : Int) && f x))) := by
  induction list with
  | nil => intro rows h; simp [agIn]
  | cons x r ih =>
    intro rows h
    have hx := hl x (by simp)
    obtain ⟨X, rfl⟩ := Int.eq_ofNat_of_zero_le hx.1
    have e : agIn f T (↑X :: r) rows = agIn f T r (if f X then rowSet rows T X else rows) := rfl
    rw [e]
    cases hf : f X
    · rw [if_neg (by simp), ih (fun u hu => hl u (by simp [hu])) h]
      simp [hf]
    · rw [if_pos rfl, ih (fun u hu => hl u (by simp [hu])) (rowSet_ok h hx), rowSet_bit h hT]
      simp only [List.any_cons, hf, Bool.and_true]
      have : ((X : Int) == (u : Int)) = decide (u = X) := by
        rw [Bool.eq_iff_iff]; simp; omega
      rw [this]
      cases (rows.getD t 0).testBit u <;> cases decide (t = T) <;> cases decide (u = X) <;> simp
/-- Why a bit is set. -/
theorem agTo_bit {g : Nat → OpV → Bool} {f : OpV → Int → Bool} {list : List Int} {s : List OpV} (hl : ∀ u ∈ list, 0 ≤ u ∧ u ≤ 3) (hs : ∀ o ∈ s, 0 ≤ o.tx ∧ o.tx ≤ 3) {t u : Nat} (k : Nat) :
    ((agTo g f list s k).getD t 0).testBit u = true ↔ ∃ j o, j < k ∧ s[j]? = some o ∧ o.tx = t ∧ g j o = true ∧ (u : Int) ∈ list ∧ f o u = true := by
  induction k with
  | zero =>
    constructor
    · intro h
      exfalso
      have : (agTo g f list s 0).getD t 0 = 0 := by
        rcases t with _ | _ | _ | _ | t <;> rfl
      rw [this] at h
      simp at h
    · rintro ⟨j, o, hj, _⟩; omega
  | succ k ih =>
    cases he : s[k]? with
    | none =>
      have : agTo g f list s (k + 1) = agTo g f list s k := by simp only [agTo, he]
      rw [this, ih]
      constructor
      · rintro ⟨j, o, hj, r⟩; exact ⟨j, o, by omega, r⟩
      · rintro ⟨j, o, hj, ho, r⟩
        refine ⟨j, o, ?_, ho, r⟩
        rcases Nat.lt_or_ge j k with h | h
        · exact h
        · have : j = k := by omega
          subst this
          rw [he] at ho; cases ho
    | some o =>
      rw [agTo_succ he]
      have ho := hs o (List.mem_of_getElem? he)
      obtain ⟨t', kd, x⟩ := o
      obtain ⟨T, rfl⟩ := Int.eq_ofNat_of_zero_le ho.1
      simp only at ho
      cases hg : g k ⟨T, kd, x⟩
      · rw [if_neg (by simp), ih]
        constructor
        · rintro ⟨j, q, hj, r⟩; exact ⟨j, q, by omega, r⟩
        · rintro ⟨j, q, hj, hq, h1, h2, r⟩
          refine ⟨j, q, ?_, hq, h1, h2, r⟩
          rcases Nat.lt_or_ge j k with h | h
          · exact h
          · have : j = k := by omega
            subst this
            rw [he] at hq
            injection hq with hq
            subst hq
            rw [hg] at h2; cases h2
      · rw [if_pos rfl, agIn_bit (by omega) hl (agTo_ok hl k), Bool.or_eq_true, ih, Bool.and_eq_true, List.any_eq_true]
        constructor
        · rintro (⟨j, q, hj, r⟩ | ⟨h1, y, hy, h2⟩)
          · exact ⟨j, q, by omega, r⟩
          · simp only [Bool.and_eq_true, beq_iff_eq] at h2
            obtain ⟨rfl, h2⟩ := h2
            exact ⟨k, _, by omega, he, congrArg Int.ofNat (of_decide_eq_true h1).symm, hg, hy, h2⟩
        · rintro ⟨j, q, hj, hq, h1, h2, h3, h4⟩
          rcases Nat.lt_or_ge j k with h | h
          · exact .inl ⟨j, q, h, hq, h1, h2, h3, h4⟩
          · have : j = k := by omega
            subst this
            rw [he] at hq
            injection hq with hq
            subst hq
            simp only at h1
            exact .inr ⟨decide_eq_true (by omega), _, h3, by simp [h4]⟩
theorem ov_eq {s : List OpV} (h : validS s = true) {t u : Int} (ht : t ∈ survS s) (hu : u ∈ survS s) : ovI s t u = ovS s t u := by
  obtain ⟨o, ho, rfl, hk⟩ := surv_commit h ht
  obtain ⟨q, hq, rfl, hk'⟩ := surv_commit h hu
  unfold ovI ovS
  rw [firstI_eq ho, firstI_eq hq, commitI_eq h ho hk, commitI_eq h hq hk']
  congr 1
  · exact decide_eq_decide.2 (by omega)
  · exact decide_eq_decide.2 (by omega)
theorem any_mem {L : List Int} {x : Int} (h : (L.any fun y => y == x) = true) : x ∈ L := by
  rw [List.any_eq_true] at h
  obtain ⟨y, hy, e⟩ := h
  have : y = x := by simpa using e
  subst this; exact hy
/-- A bit tells of two survivors. -/
theorem agS_mem {s : List OpV} (h : validS s = true) {t u : Nat} (hb : ((agS4 s).getD t 0).testBit u = true) : (t : Int) ∈ survS s ∧ (u : Int) ∈ survS s := by
  unfold agS4 at hb
  rw [agTo_bit (survS_rng h) (fun o ho => validS_tx3 h ho)] at hb
  obtain ⟨j, o, _, ho, ht, hg, hu, _⟩ := hb
  unfold gS at hg
  rw [ht] at hg
  simp only [Bool.and_eq_true] at hg
  exact ⟨any_mem hg.1.2, hu⟩
theorem piv_eq {s : List OpV} (h : validS s = true) : pivR (agI4 s) (ovI s) = pivR (agS4 s) (ovS s) := by
  rw [ag_eq h]
  unfold pivR
  congr 1
  funext x
  unfold pivX pivF
  cases h1 : ((agS4 s).getD (x / 16) 0).testBit (x / 4 % 4)
  · simp
  · cases h2 : ((agS4 s).getD (x / 4 % 4) 0).testBit (x % 4)
    · simp
    · obtain ⟨m1, m2⟩ := agS_mem h h1
      obtain ⟨_, m3⟩ := agS_mem h h2
      rw [ov_eq h m1 m2, ov_eq h m2 m3]
theorem pivRes_eq (s : List OpV) : orNil (validS s) (pivL (pivR (agI4 s) (ovI s))) = orNil (validS s) (pivL (pivR (agS4 s) (ovS s))) ∧ (validS s && (pivR (agI4 s) (ovI s)).isSome) = (validS s && (pivR (agS4 s) (ovS s)).isSome) := by
  cases h : validS s
  · exact ⟨rfl, rfl⟩
  · rw [piv_eq h]
    exact ⟨rfl, rfl⟩
end Go.Proofs.Ytofcpfabjfhjoaa
namespace Go.Proofs.Ytofcpfabjfhjoaa
open Go.RowKit
set_option linter.unusedVariables false

theorem orN_true {α : Type} {b : Bool} {xs : List α} (h : b = true) : orNil b xs = xs := by subst h; rfl
theorem orN_false {α : Type} {b : Bool} {xs : List α} (h : b = false) : orNil b xs = [] := by subst h; rfl
def vsOut (m : Int → Int → Bool) (L : List Int) (rows : List Nat) : Nat → List Nat
  | 0 => rows
  | i + 1 => match L[i]? with | some t => agIn (m t) t (L.drop (i + 1)) (vsOut m L rows i) | none => vsOut m L rows i
theorem vsOut_succ {m : Int → Int → Bool} {L : List Int} {rows : List Nat} {i : Nat} {t : Int} (h : L[i]? = some t) : vsOut m L rows (i + 1) = agIn (m t) t (L.drop (i + 1)) (vsOut m L rows i) := by simp only [vsOut, h]
theorem vsOut_ok {m : Int → Int → Bool} {L : List Int} {rows : List Nat} (hl : ∀ u ∈ L, 0 ≤ u ∧ u ≤ 3) (h : Rows4 rows) (i : Nat) : Rows4 (vsOut m L rows i) := by
  induction i with
  | zero => exact h
  | succ i ih =>
    simp only [vsOut]
    split
    · exact agIn_ok (fun u hu => hl u (List.mem_of_mem_drop hu)) ih
    · exact ih
def vgS (s : List OpV) : List Nat := vgTo (verS s (survS s)) (survS s) s (vsOut (meetsB s) (survS s) (agS4 s) (survS s).length) s.length

theorem agIn_none {f : Int → Bool} {t : Int} {list : List Int} (h : ∀ u ∈ list, f u = false) (rows : List Nat) : agIn f t list rows = rows := by
  unfold agIn
  induction list with
  | nil => rfl
  | cons x r ih =>
    rw [List.foldl_cons, h x (by simp)]
    exact ih (fun u hu => h u (by simp [hu]))
theorem idxZ_at {L : List Int} (hd : L.Nodup) {i : Nat} {t : Int} (h : L[i]? = some t) : idxZ L t = (i : Int) := by
  refine idxZ_hit h (by simp) fun j hj y hy => ?_
  rw [beq_eq_false_iff_ne]
  intro e
  subst e
  have h1 := List.getElem?_eq_some_iff.1 h
  have h2 := List.getElem?_eq_some_iff.1 hy
  obtain ⟨a, ha⟩ := h1
  obtain ⟨b, hb⟩ := h2
  have := (List.pairwise_iff_getElem.1 hd) j i b a hj
  rw [ha, hb] at this
  exact this rfl
theorem fB_low {s : List OpV} {L : List Int} (hd : L.Nodup) {i : Nat} {t u : Int} (h : L[i]? = some t) (hu : u ∈ L.take (i + 1)) : fB s L t u = false := by
  obtain ⟨j, hj⟩ := List.getElem?_of_mem hu
  rw [List.getElem?_take] at hj
  split at hj
  · unfold fB behB
    rw [idxZ_at hd h, idxZ_at hd hj]
    have : decide ((i : Int) < (j : Int)) = false := decide_eq_false (by omega)
    rw [this, Bool.false_and]
  · cases hj
theorem fB_high {s : List OpV} (hi : itemsOk s) {L : List Int} (hd : L.Nodup) {i : Nat} {t u : Int} (h : L[i]? = some t) (hu : u ∈ L.drop (i + 1)) : fB s L t u = meetsB s t u := by
  obtain ⟨j, hj⟩ := List.getElem?_of_mem hu
  rw [List.getElem?_drop] at hj
  unfold fB behB
  rw [idxZ_at hd h, idxZ_at hd hj]
  have : decide ((i : Int) < ((i + 1 + j : Nat) : Int)) = true := decide_eq_true (by omega)
  rw [this, Bool.true_and, ← meets_eq hi t u, Nat.and_comm]
theorem vsOut_eq {s : List OpV} (hi : itemsOk s) {L : List Int} (hd : L.Nodup) (rows : List Nat) (i : Nat) (h : i ≤ L.length) : vgOut (fB s L) L (L.take i) rows = vsOut (meetsB s) L rows i := by
  induction i with
  | zero => simp [vgOut, vsOut]
  | succ i ih =>
    have ht : L[i]? = some L[i] := List.getElem?_eq_getElem (by omega)
    rw [vgOut_snoc ht, vsOut_succ ht, ih (by omega)]
    have e : L = L.take (i + 1) ++ L.drop (i + 1) := (List.take_append_drop _ _).symm
    have e2 : ∀ R, agIn (fB s L L[i]) L[i] L R = agIn (fB s L L[i]) L[i] (L.drop (i + 1)) (agIn (fB s L L[i]) L[i] (L.take (i + 1)) R) := by
      intro R
      unfold agIn
      rw [← List.foldl_append, List.take_append_drop]
    rw [e2, agIn_none (fun u hu => fB_low hd ht hu), agIn_congr (fun u hu => fB_high hi hd ht hu)]
theorem vgTo_congr {f g : Nat → OpV → Int} {L : List Int} {s : List OpV} (h : ∀ k o, s[k]? = some o → f k o = g k o) (rows : List Nat) (k : Nat) : vgTo f L s rows k = vgTo g L s rows k := by
  induction k with
  | zero => rfl
  | succ k ih =>
    simp only [vgTo]
    cases e : s[k]? with
    | none => exact ih
    | some o => simp only [vgStep, ih, h k o e]
theorem vg_eq {s : List OpV} (h : validS s = true) : vgI s = vgS s := by
  unfold vgI vgS
  rw [surv_eq h, ag_eq h, ← vsOut_eq (validS_items h) (surv_known h).2 _ _ (Nat.le_refl _), List.take_length]
  exact vgTo_congr (fun k o ho => ver_eq h ho) _ _
end Go.Proofs.Ytofcpfabjfhjoaa
namespace Go.Proofs.Ytofcpfabjfhjoaa
open Go.RowKit
set_option linter.unusedVariables false

theorem stampN_le {s : List OpV} {j : Nat} {o : OpV} (h : s[j]? = some o) : stampN s o.tx ≤ j := by
  rcases Nat.lt_or_ge j (stampN s o.tx) with hlt | hge
  · have := List.not_of_lt_findIdx (p := fun x : OpV => x.tx == o.tx) hlt
    rw [(List.getElem?_eq_some_iff.1 h).2] at this
    simp at this
  · exact hge
theorem commitN_le {s : List OpV} {j : Nat} {o : OpV} (h : s[j]? = some o) (hk : o.kind = 2) : commitN s o.tx ≤ j := by
  rcases Nat.lt_or_ge j (commitN s o.tx) with hlt | hge
  · have := List.not_of_lt_findIdx (p := fun x : OpV => x.tx == o.tx && x.kind == 2) hlt
    rw [(List.getElem?_eq_some_iff.1 h).2] at this
    simp [hk] at this
  · exact hge
theorem commitN_eq {s : List OpV} (h : validS s = true) {j : Nat} {o : OpV} (ho : s[j]? = some o) (hk : o.kind = 2) : commitN s o.tx = j := by
  have h1 := commitN_le ho hk
  obtain ⟨q, hq, ht, hqk⟩ := commitN_at (List.mem_of_getElem? ho) hk
  have := validS_after h hq ho (isEnd_two hqk) ht
  omega
/-- In a serial schedule: if t begins ahead of one operation of u, all of t stands ahead of all of u. -/
theorem ser_before {s : List OpV} (hs : isSer s = true) {t : Int} (ht : ∃ o ∈ s, o.tx = t) {j : Nat} {q : OpV} (hq : s[j]? = some q) (htu : t ≠ q.tx) (h : stampN s t < j) :
    stampN s t < stampN s q.tx ∧ ∀ i p, s[i]? = some p → p.tx = t → i < stampN s q.tx := by
  obtain ⟨o, ho, rfl⟩ := ht
  obtain ⟨o1, h1, e1⟩ := stampN_at ho
  obtain ⟨q1, h2, e2⟩ := stampN_at (List.mem_of_getElem? hq)
  have hlt : stampN s o.tx < stampN s q.tx := by
    rcases Nat.lt_trichotomy (stampN s o.tx) (stampN s q.tx) with a | a | a
    · exact a
    · exfalso
      rw [a, h2] at h1
      injection h1 with h1
      exact htu (by rw [← e1, ← e2, h1])
    · exfalso
      have := ser_between hs h2 hq e2 (stampN s o.tx) o1 (by omega) (by omega) h1
      exact htu (by rw [← e1, this, e2])
  refine ⟨hlt, fun i p hp hpt => ?_⟩
  rcases Nat.lt_or_ge i (stampN s q.tx) with a | a
  · exact a
  · exfalso
    have := ser_between hs h1 hp (by rw [e1, hpt]) (stampN s q.tx) q1 (by omega) a h2
    exact htu (by rw [← e1, ← this, e2])
theorem ag_edge {s : List OpV} (h : validS s = true) {t u : Nat} (hb : ((agS4 s).getD t 0).testBit u = true) : t ≠ u ∧ (t : Int) ∈ survS s ∧ (u : Int) ∈ survS s ∧ stampN s t < commitN s u := by
  obtain ⟨m1, m2⟩ := agS_mem h hb
  unfold agS4 at hb
  rw [agTo_bit (survS_rng h) (fun o ho => validS_tx3 h ho)] at hb
  obtain ⟨j, o, _, ho, ht, hg, hu, hf⟩ := hb
  unfold fT at hf
  simp only [Bool.and_eq_true, bne_iff_ne, decide_eq_true_eq] at hf
  refine ⟨fun e => hf.1.1 ?_, m1, m2, ?_⟩
  · rw [ht, e]
  · rw [← ht]; exact hf.1.2
theorem ser_edge {s : List OpV} (h : validS s = true) (hs : isSer s = true) {t u : Int} (hne : t ≠ u) (ht : t ∈ survS s) (hu : u ∈ survS s) (hlt : stampN s t < commitN s u) :
    stampN s t < stampN s u ∧ commitN s t < stampN s u ∧ commitN s t < commitN s u := by
  obtain ⟨o, ho, rfl, hk⟩ := surv_commit h ht
  obtain ⟨q, hq, rfl, hkq⟩ := surv_commit h hu
  obtain ⟨o1, h1, e1, _⟩ := commitN_at ho hk
  obtain ⟨q1, h2, e2, _⟩ := commitN_at hq hkq
  have := ser_before hs ⟨o, ho, rfl⟩ h2 (by rw [e2]; exact hne) hlt
  rw [e2] at this
  have h3 := this.2 _ _ h1 e1
  have h4 := stampN_le h2
  rw [e2] at h4
  exact ⟨this.1, h3, by omega⟩
/-- A pivot is none in a serial schedule. -/
theorem piv_ser {s : List OpV} (h : validS s = true) (hs : isSer s = true) : pivR (agS4 s) (ovS s) = none := by
  refine pivR_none fun x hx => ?_
  unfold pivX pivF
  cases h1 : ((agS4 s).getD (x / 16) 0).testBit (x / 4 % 4)
  · simp
  · obtain ⟨hne, m1, m2, hlt⟩ := ag_edge h h1
    have h3 := ser_edge (t := ((x / 16 : Nat) : Int)) (u := ((x / 4 % 4 : Nat) : Int)) h hs (fun e => hne (by omega)) m1 m2 hlt
    have : ovS s ((x / 16 : Nat) : Int) ((x / 4 % 4 : Nat) : Int) = false := by
      unfold ovS
      rw [Bool.and_eq_false_iff]
      right
      exact decide_eq_false (by omega)
    rw [this]
    simp only [Bool.and_false, Bool.false_and]

/-- The stamps: each transaction at its first operation. -/
def stTo (s : List OpV) : Nat → List Int
  | 0 => []
  | k + 1 => match s[k]? with | some o => if ((stTo s k).any fun y => y == o.tx) then stTo s k else stTo s k ++ [o.tx] | none => stTo s k
theorem stTo_succ {s : List OpV} {k : Nat} {o : OpV} (h : s[k]? = some o) : stTo s (k + 1) = if ((stTo s k).any fun y => y == o.tx) then stTo s k else stTo s k ++ [o.tx] := by simp only [stTo, h]
def stI (s : List OpV) : List Int := stTo s s.length
theorem any_eq_iff {L : List Int} {x : Int} : (L.any fun y => y == x) = true ↔ x ∈ L := by
  rw [List.any_eq_true]
  constructor
  · rintro ⟨y, hy, e⟩
    have : y = x := by simpa using e
    subst this; exact hy
  · intro h; exact ⟨x, h, by simp⟩
theorem stTo_known {s : List OpV} (k : Nat) (hk : k ≤ s.length) : (∀ t, t ∈ stTo s k ↔ ∃ j o, j < k ∧ s[j]? = some o ∧ o.tx = t) ∧ (stTo s k).Pairwise (fun a b => stampN s a < stampN s b) := by
  induction k with
  | zero => exact ⟨by simp [stTo], by simp [stTo]⟩
  | succ k ih =>
    obtain ⟨i1, i2⟩ := ih (by omega)
    have e : s[k]? = some (s[k]'(by omega)) := List.getElem?_eq_getElem (by omega)
    rw [stTo_succ e]
    generalize s[k]'(by omega) = o at *
    by_cases hm : o.tx ∈ stTo s k
    · rw [if_pos (any_eq_iff.2 hm)]
      refine ⟨fun t => ?_, i2⟩
      rw [i1]
      constructor
      · rintro ⟨j, p, hj, r⟩; exact ⟨j, p, by omega, r⟩
      · rintro ⟨j, p, hj, hp, rfl⟩
        by_cases hjk : j = k
        · subst hjk
          rw [e] at hp; injection hp with hp; subst hp
          exact (i1 _).1 hm
        · exact ⟨j, p, by omega, hp, rfl⟩
    · rw [if_neg (fun h => hm (any_eq_iff.1 h))]
      refine ⟨fun t => ?_, ?_⟩
      · rw [List.mem_append, i1, List.mem_singleton]
        constructor
        · rintro (⟨j, p, hj, r⟩ | rfl)
          · exact ⟨j, p, by omega, r⟩
          · exact ⟨k, o, by omega, e, rfl⟩
        · rintro ⟨j, p, hj, hp, rfl⟩
          by_cases hjk : j = k
          · subst hjk
            rw [e] at hp; injection hp with hp; subst hp
            exact .inr rfl
          · exact .inl ⟨j, p, by omega, hp, rfl⟩
      · rw [List.pairwise_append]
        refine ⟨i2, by simp, ?_⟩
        intro a ha b hb
        rw [List.mem_singleton] at hb
        subst hb
        obtain ⟨j, p, hj, hp, rfl⟩ := (i1 a).1 ha
        have h1 := stampN_le hp
        have h2 : k ≤ stampN s o.tx := by
          rcases Nat.lt_or_ge (stampN s o.tx) k with hlt | hge
          · exfalso
            obtain ⟨q, hq, hqt⟩ := stampN_at (List.mem_of_getElem? e)
            exact hm ((i1 _).2 ⟨_, q, hlt, hq, hqt⟩)
          · exact hge
        omega
theorem mem_stI {s : List OpV} {t : Int} : t ∈ stI s ↔ ∃ o ∈ s, o.tx = t := by
  unfold stI
  rw [(stTo_known _ (Nat.le_refl _)).1]
  constructor
  · rintro ⟨j, o, _, ho, e⟩; exact ⟨o, List.mem_of_getElem? ho, e⟩
  · rintro ⟨o, ho, e⟩
    obtain ⟨j, hj⟩ := List.mem_iff_getElem?.1 ho
    exact ⟨j, o, (List.getElem?_eq_some_iff.1 hj).1, hj, e⟩
theorem stI_sorted (s : List OpV) : (stI s).Pairwise (fun a b => stampN s a < stampN s b) := (stTo_known _ (Nat.le_refl _)).2
/-- What is left of a sorted list if two of it are kept. -/
theorem filter_one {f : Int → Nat} {u : Int} : ∀ {l : List Int}, l.Pairwise (fun a b => f a < f b) → u ∈ l → l.filter (fun x => x == u) = [u] := by
  intro l
  induction l with
  | nil => intro _ h; cases h
  | cons x r ih =>
    intro hp hu
    rw [List.pairwise_cons] at hp
    by_cases hx : x = u
    · subst hx
      rw [List.filter_cons_of_pos (by simp)]
      congr 1
      rw [List.filter_eq_nil_iff]
      intro y hy e
      have : y = x := by simpa using e
      subst this
      have := hp.1 y hy
      omega
    · rw [List.filter_cons_of_neg (by simpa using hx)]
      refine ih hp.2 ?_
      rcases List.mem_cons.1 hu with h | h
      · exact absurd h.symm hx
      · exact h
theorem filter_two {f : Int → Nat} {t u : Int} (htu : f t < f u) : ∀ {l : List Int}, l.Pairwise (fun a b => f a < f b) → t ∈ l → u ∈ l → l.filter (fun x => x == t || x == u) = [t, u] := by
  intro l
  induction l with
  | nil => intro _ h; cases h
  | cons x r ih =>
    intro hp ht hu
    rw [List.pairwise_cons] at hp
    have hne : t ≠ u := fun e => by rw [e] at htu; omega
    by_cases hx : x = t
    · subst hx
      rw [List.filter_cons_of_pos (by simp)]
      congr 1
      have hur : u ∈ r := by
        rcases List.mem_cons.1 hu with h | h
        · exact absurd h.symm hne
        · exact h
      rw [← filter_one hp.2 hur]
      refine List.filter_congr fun y hy => ?_
      have h1 := hp.1 y hy
      have : (y == x) = false := by
        rw [beq_eq_false_iff_ne]
        intro e
        rw [e] at h1; omega
      rw [this, Bool.false_or]
    · have htr : t ∈ r := by
        rcases List.mem_cons.1 ht with h | h
        · exact absurd h.symm hx
        · exact h
      have hxu : x ≠ u := fun e => by
        have := hp.1 t htr
        rw [e] at this; omega
      rw [List.filter_cons_of_neg (by simp [hx, hxu])]
      refine ih hp.2 htr ?_
      rcases List.mem_cons.1 hu with h | h
      · exact absurd h.symm hxu
      · exact h
end Go.Proofs.Ytofcpfabjfhjoaa
namespace Go.Proofs.Ytofcpfabjfhjoaa
open Go.RowKit Go.BigFrame
set_option linter.unusedVariables false


set_option maxHeartbeats 400000 in
theorem IndexS_any (A : Option Addr) (n c : Nat) (xs : List Int) (x : Int) (w : World) (hx : RInts w A n xs) :
    Calls Try.prog 137 #[.slice A n c, .int .i64 x] w fun e w' => e = .returned (.int .i64 (idxZ xs x)) ∧ Below w.heap.size w w' := by
  have hn := hx.2.1
  have hl := hx.1
  have HX := Lib.hid hx
  clear hx
  go_enter Try.func137, Try.ntmps137
  go_wp2_with fail
  go_loopw [8] (fun i wr => ∃ k : Nat, k ≤ n ∧ i = .int .i64 k ∧ Below w.heap.size w wr ∧ (∀ j, j < k → ∀ y, xs[j]? = some y → (y == x) = false)) (fun i _ => n - (intOf i).toNat)
  case atStart => exact ⟨0, Nat.zero_le _, rfl, Below.refl _ _, by omega⟩
  case round =>
    obtain ⟨k, hk, rfl, hb, hno⟩ := hrel
    by_cases hlt : k < n
    · obtain ⟨b, off, y, rfl, hbl, ho, c0⟩ := (HX.out.below hb (Nat.le_refl _)).at_ hlt
      have HN : Hid ((y == x) = false → ∀ j, j < k + 1 → ∀ y, xs[j]? = some y → (y == x) = false) := fun h => no_snoc ho hno h
      have HT : Hid ((y == x) = true → idxZ xs x = (k : Int)) := fun h => idxZ_hit ho h hno
      have L0 := Later.cell c0
      clear hno ho
      by_cases h1 : y = x
      · have hs := Lib.hid (HT.out (by simpa using h1))
        have h1' : (x == y) = true := by simpa using h1.symm
        go_wp2_with fail
        try (refine region_later (by kernel_rfl) (by kernel_rfl) ?_; repeat (go_big_quiet_step (fail)); refine wpQuiet_nil ?_; rintro _ ⟨u, rfl⟩; go_wp2_with fail)
        go_ret
        exact ⟨ret_int hs.out.symm, by first | exact hb | exact hb.trans (u.2.mono hb.size)⟩
      · have hs := Lib.hid (HN.out (by simpa using h1))
        have h1' : (x == y) = false := by simpa using fun h => h1 h.symm
        go_wp2_with fail
        try (refine region_later (by kernel_rfl) (by kernel_rfl) ?_; repeat (go_big_quiet_step (fail)); refine wpQuiet_nil ?_; rintro _ ⟨u, rfl⟩; go_wp2_with fail)
        go_roundw
        case rel => exact ⟨k + 1, by omega, by go_num, by first | exact hb | exact hb.trans (u.2.mono hb.size), hs.out⟩
        case measure => simp [intOf]; omega
    · have HE := Lib.hid (idxZ_none (xs := xs) (x := x) (fun j hj => hno j (by omega)))
      clear hno
      go_wp2_with fail
      go_ret
      exact ⟨ret_int HE.out.symm, hb⟩


set_option maxHeartbeats 400000 in
theorem ContainsS_any (A : Option Addr) (n c : Nat) (xs : List Int) (x : Int) (w : World) (hx : RInts w A n xs) :
    Calls Try.prog 90 #[.slice A n c, .int .i64 x] w fun e w' => e = .returned (.bool (xs.any fun y => y == x)) ∧ Below w.heap.size w w' := by
  have HI := Lib.hid (IndexS_any A n c xs x w hx)
  have hz := idxZ_any xs x
  clear hx
  go_enter Try.func90, Try.ntmps90
  go_wp2_with fail
  refine HI.out.mono ?_
  rintro e w1 ⟨rfl, hb⟩
  generalize idxZ xs x = z at *
  cases ha : (xs.any fun y => y == x)
  · rw [ha] at hz
    have hz2 : z = -1 := by simpa using hz
    subst hz2
    have HA := Lib.hid ha
    clear ha hz
    go_wp2_with fail
    go_ret
    exact ⟨ret_bool HA.out.symm, hb⟩
  · rw [ha] at hz
    have hz2 : 0 ≤ z := by simpa using hz
    have HA := Lib.hid ha
    clear ha hz
    go_wp2_with fail
    go_ret
    exact ⟨ret_bool HA.out.symm, hb⟩


set_option maxRecDepth 100000 in
set_option maxHeartbeats 2000000 in
theorem StampsOf_any (A : Option Addr) (n c : Nat) (s : List OpV) (w : World) (hx : ROps w A n s) (hnc : n ≤ c) :
    Calls Try.prog 41 #[.slice A n c] w (RetInts w (orNil (validS s) (stI s))) := by
  have hn := hx.2.1
  have hl := hx.1
  have HX := Lib.hid hx
  clear hx
  obtain ⟨i0, hi, hz0, hz1, hz2⟩ := info_parts intInfo
  go_enter Try.func41, Try.ntmps41
  go_wp2_with fail
  refine (ValidSchedule_any A n c s w HX.out hnc).mono ?_
  rintro e w1 ⟨rfl, hb1⟩
  cases hv : validS s
  · have HV := Lib.hid hv
    clear hv
    go_wp2_with fail
    go_ret
    rw [HV.out]
    exact RetInts.nil hb1
  · have HV := Lib.hid hv
    clear hv
    have hsz1 := hb1.size
    go_wp2_with (at_make; refine wpList_make_own _ rfl _ _ 25 rfl w.heap.size 3 i0 _ 1 Try.underlying25 hi hz0 hz1 .i64 .i64 _ 4 rfl rfl rfl (by rw [hz2]; omega) (by unfold maxLen; omega) hsz1 ?_; intro w2 hown2 hg2)
    have hb2 : Below w.heap.size w w2 := hb1.grown hg2 hsz1 (by simp)
    have HST := Lib.hid (And.intro hown2 hb2)
    clear hown2 hg2 hi hz0 hz1 hz2 hb1 hb2
    go_loopw [3, 12] (fun ov i wr => ∃ (k m : Nat), k ≤ n ∧ m ≤ k ∧ i = .int .i64 k ∧ Below w.heap.size w wr ∧ wr.ownsRow w.heap.size 3 1 ov m (intCells (stTo s k))) (fun _ i _ => n - (intOf i).toNat)
    case atStart => exact ⟨0, 0, Nat.zero_le _, Nat.le_refl _, rfl, HST.out.2, HST.out.1⟩
    case round =>
      clear HST
      obtain ⟨k, m, hk, hmk, rfl, hb, hown⟩ := hrel
      obtain ⟨Ao, co, rfl, hmc⟩ := own_form2 hown
      by_cases hlt : k < n
      · obtain ⟨b, off, o, rfl, hbl, ho, c0, c1, c2⟩ := (HX.out.below hb (Nat.le_refl _)).at_ hlt
        have hs := hb.size
        have hstep := stTo_succ ho
        obtain ⟨tx, kd, it⟩ := o
        simp only at hstep c0 c1 c2
        obtain ⟨bc, hbc⟩ : ∃ bc, ((stTo s k).any fun y => y == tx) = bc := ⟨_, rfl⟩
        rw [hbc] at hstep
        have HS := Lib.hid hstep
        obtain ⟨W, hW⟩ : ∃ W : World, W = wr.alloc (.cells #[.int .i64 tx, .int .i64 kd, .int .i64 it] 46) := ⟨_, rfl⟩
        have hownW : W.ownsRow w.heap.size 3 1 (.slice Ao m co) m (intCells (stTo s k)) := by rw [hW]; exact hown.alloc _
        obtain ⟨L0, L1, L2, hbW, hWs⟩ := op_box hW
        have hC : Calls Try.prog 90 #[.slice Ao m co, .int .i64 tx] W fun e w' => e = .returned (.bool bc) ∧ Below W.heap.size W w' := by
          have := ContainsS_any Ao m co (stTo s k) tx W (RInts.of_own hownW (by omega)); rw [hbc] at this; exact this
        have HC := Lib.hid hC
        have x0 := L0 ⟨W, Below.refl _ _⟩
        simp only at x0
        have HW := Lib.hid hW
        clear ho hown hstep hbc hC hW L1 L2
        go_wp2_with fail
        rw [← HW.out]
        go_wp2_with fail
        refine HC.out.mono ?_
        rintro e w4 ⟨rfl, hb4⟩
        have hown4 := own_below hownW hb4
        have hb14 := hbW.trans (hb4.mono hbW.size)
        have hbw4 := hb.trans (hb14.mono hs)
        have hsz4 := hbw4.size
        have y0 := L0 ⟨w4, hb4⟩
        simp only at y0
        clear hb4 hb14 hownW x0 HW
        cases bc
        · go_wp2_with (at_builtin; refine app_ints (.tmp 21) (.tmp 24) (hown4.alloc _) (by simp; omega) (lit1 rfl _) (by omega) rfl rfl rfl rfl ?_; intro v5 w5 hown5 hg5 hat5)
          have hg5' := World.grownBy.trans (World.grownBy_alloc w4 _ _) hg5
          have hb5 := Below.own hbw4 hown4 (Nat.le_refl _) hg5'
          go_roundw
          case rel => exact ⟨k + 1, m + 1, by omega, by omega, by go_num, hb5, by rw [HS.out, if_neg (by simp)]; exact hown5⟩
          case measure => simp [intOf]; omega
        · go_wp2_with fail
          go_roundw
          case rel => exact ⟨k + 1, m, by omega, by omega, by go_num, hbw4, by rw [HS.out, if_pos (by first | rfl | trivial)]; exact hown4⟩
          case measure => simp [intOf]; omega
      · have e : stTo s k = stI s := by unfold stI; have : k = s.length := by omega
                                        rw [this]
        rw [e] at hown
        have HO := Lib.hid (RetInts.mk (c := m) (own_lenInts hown) (Nat.le_refl _) (FreshInts.of_own hown (Nat.le_refl _) (by omega)) hb)
        clear hown e
        go_wp2_with fail
        go_ret
        rw [HV.out]
        exact HO.out
end Go.Proofs.Ytofcpfabjfhjoaa
namespace Go.Proofs.Ytofcpfabjfhjoaa
open Go.RowKit Go.BigFrame Go.Shelf
set_option linter.unusedVariables false

attribute [local go_sem] Oper.semAt_some

set_option maxRecDepth 100000 in
set_option maxHeartbeats 1000000 in
theorem CloneI_any (b off n c : Nat) (xs : List Int) (w : World) (hx : RInts w (some ⟨b, off, none⟩) n xs) :
    Calls Try.prog 157 #[.slice (some ⟨b, off, none⟩) n c] w (RetInts w xs) := by
  have hl := hx.1
  have hn := hx.2.1
  have HX1 : Hid (RInts (w.alloc (.cells #[] 3)) (some ⟨b, off, none⟩) n xs) := hx.below ((Below.refl _ w).alloc (Nat.le_refl _) _) (Nat.le_refl _)
  have HST : Hid ((w.alloc (.cells #[] 3)).ownsRow w.heap.size 3 1 (.slice (some ⟨w.heap.size, 0, none⟩) 0 0) 0 (intCells [])) :=
    World.ownsRow_made w #[] 0 (Nat.le_refl _) (by decide) rfl
  have hz : ∀ w1 : World, (binOp .eql 25 (.slice (some ⟨b, off, none⟩) n c) (.slice none 0 0)).run Try.prog w1 = .ok (.bool false) w1 := fun w1 => Go.Lib.run_eql_slice_nil w1 25 3 (some ⟨b, off, none⟩) n c 0 0 Try.underlying25
  clear hx
  go_enter Try.func157, Try.ntmps157
  go_wp2_with (at_builtin; refine app_ints (.tmp 5) (.tmp 6) HST.out (by simp) HX1.out (by omega) rfl rfl rfl rfl ?_; intro v1 w1 hown1 hg1 hat1)
  have hb1 : Below w.heap.size w w1 := Below.own ((Below.refl _ w).alloc (Nat.le_refl _) _) HST.out (Nat.le_refl _) hg1
  rw [List.nil_append, Nat.zero_add] at hown1
  obtain ⟨A1, c1, rfl, hc1⟩ := own_form2 hown1
  have HO := Lib.hid (RetInts.mk hl hc1 (FreshInts.of_own (w0 := w) hown1 (Nat.le_refl _) (by omega)) hb1)
  clear hown1 hg1 hat1 HST HX1 hb1
  go_wp2_with fail
  go_ret
  exact HO.out

/-- A step of the iterator, as the loop's body sees it: new blocks, and its own four. -/
structure ItStep (a : Nat) (V W : World) : Prop where
  os : W.os = V.os
  tape : W.tape = V.tape
  output : W.output = V.output
  size : V.heap.size ≤ W.heap.size
  block : ∀ k, k < V.heap.size → ¬ (a ≤ k ∧ k < a + 4) → W.heap[k]? = V.heap[k]?
theorem ItStep.refl (a : Nat) (V : World) : ItStep a V V := ⟨rfl, rfl, rfl, Nat.le_refl _, fun _ _ _ => rfl⟩
theorem ItStep.trans {a : Nat} {U V W : World} (h : ItStep a U V) (k : ItStep a V W) : ItStep a U W :=
  ⟨k.os.trans h.os, k.tape.trans h.tape, k.output.trans h.output, Nat.le_trans h.size k.size, fun i hi hn => (k.block i (Nat.lt_of_lt_of_le hi h.size) hn).trans (h.block i hi hn)⟩
theorem ItStep.of_below {a : Nat} {V W : World} (h : Below V.heap.size V W) : ItStep a V W := ⟨h.os, h.tape, h.output, h.size, fun k hk _ => h.block k hk⟩
theorem ItStep.of_grown {a : Nat} {V W : World} {row : Option Nat} (h : V.grownBy W row) (hr : ∀ g, row = some g → a ≤ g ∧ g < a + 4) : ItStep a V W :=
  ⟨h.os, h.tape, h.output, h.size, fun k hk hn => h.block k hk (fun e => hn (hr k e.symm))⟩
theorem ItStep.set {a : Nat} (V : World) {p : Addr} (u : Value) (hp : a ≤ p.block ∧ p.block < a + 4) : ItStep a V (V.setCell p u) :=
  ⟨rfl, rfl, rfl, by simp [World.setCell], fun k hk hn => Below.heap_setCell V p u k (by rintro rfl; exact hn hp)⟩
/-- What a round keeps for the iterator. -/
structure RdKeep (a bx n0 : Nat) (V W : World) : Prop where
  size : V.heap.size ≤ W.heap.size
  block : ∀ k, k < V.heap.size → (k < n0 ∨ k = bx ∨ (a ≤ k ∧ k < a + 4)) → W.heap[k]? = V.heap[k]?
theorem RInts.kept {V W : World} {A : Option Addr} {n : Nat} {xs : List Int} (h : RInts V A n xs) (hs : V.heap.size ≤ W.heap.size) (hA : ∀ ad, A = some ad → W.heap[ad.block]? = V.heap[ad.block]?) : RInts W A n xs := by
  refine ⟨h.1, h.2.1, fun hn => ?_⟩
  obtain ⟨b, off, hA', hl, hc⟩ := h.2.2 hn
  have hk := hA _ hA'
  exact ⟨b, off, hA', by omega, fun i x hx => (World.cell?_of_block (w := V) (a := ⟨b, off + i, none⟩) hk).trans (hc i x hx)⟩

/-- The iterator's blocks, and the list that it goes over. -/
structure Iter (a bx l n c : Nat) (A : Option Addr) (list pre : List Int) (V : World) : Prop where
  yb : V.heap[a]? = some (.cells #[.func (.yield l) #[] #[]] 47 (0, 0))
  row : V.ownsRow a 3 1 (.slice (some ⟨a + 1, 0, none⟩) pre.length n) pre.length (intCells pre)
  ob : V.heap[a + 2]? = some (.cells #[.slice (some ⟨a + 1, 0, none⟩) pre.length n] 25 (0, 0))
  fb : V.heap[a + 3]? = some (.cells #[.func (.func 156) #[] #[.pointer (some ⟨a + 2, 0, none⟩), .pointer (some ⟨bx, 0, none⟩), .pointer (some ⟨a, 0, none⟩), .pointer (some ⟨a + 3, 0, none⟩)]] 62 (0, 0))
  lb : V.cell? ⟨bx, 0, none⟩ = some (.slice A n c)
  list : RInts V A n list
theorem Iter.below {a bx l n c : Nat} {A : Option Addr} {list pre : List Int} {V W : World} (h : Iter a bx l n c A list pre V) (hb : Below V.heap.size V W) : Iter a bx l n c A list pre W :=
  ⟨(hb.block _ (lt_of_block h.yb)).trans h.yb, own_below h.row hb, (hb.block _ (lt_of_block h.ob)).trans h.ob, (hb.block _ (lt_of_block h.fb)).trans h.fb,
   (hb.cell (p := ⟨bx, 0, none⟩) (block_lt_of_cell h.lb)).trans h.lb, h.list.below hb (Nat.le_refl _)⟩
theorem ownsRow_block {V W : World} {base n m : Nat} {T : TypeId} {sz g c : Nat} {xs : List Value} (h : V.ownsRow base T sz (.slice (some ⟨g, 0, none⟩) n c) m xs) (hs : V.heap.size ≤ W.heap.size) (hk : W.heap[g]? = V.heap[g]?) : W.ownsRow base T sz (.slice (some ⟨g, 0, none⟩) n c) m xs := by
  refine ⟨h.1, ?_⟩
  rcases h.2 with ⟨e, _⟩ | ⟨g', cap, cur, e, h2, h3, h4⟩
  · cases e
  · have eg : g' = g := by
      injection e with e1
      injection e1 with e1
      injection e1 with e1
      exact e1.symm
    subst eg
    exact .inr ⟨g', cap, cur, e, h2, hk.trans h3, h4⟩
theorem Iter.kept {a bx l n c n0 : Nat} {A : Option Addr} {list pre : List Int} {V W : World} (h : Iter a bx l n c A list pre V) (hA : ∀ ad, A = some ad → ad.block < n0) (hk : RdKeep a bx n0 V W) : Iter a bx l n c A list pre W := by
  have hob := hk.block (a + 2) (lt_of_block h.ob) (.inr (.inr (by omega)))
  have hyb := hk.block a (lt_of_block h.yb) (.inr (.inr (by omega)))
  have hfb := hk.block (a + 3) (lt_of_block h.fb) (.inr (.inr (by omega)))
  have hrb := hk.block (a + 1) (by have := lt_of_block h.ob; omega) (.inr (.inr (by omega)))
  have hbx : bx < V.heap.size := block_lt_of_cell h.lb
  have hlb := hk.block bx hbx (.inr (.inl rfl))
  refine ⟨hyb.trans h.yb, ownsRow_block h.row hk.size hrb, hob.trans h.ob, hfb.trans h.fb, (World.cell?_of_block (w := V) (a := ⟨bx, 0, none⟩) hlb).trans h.lb, ?_⟩
  refine ⟨h.list.1, h.list.2.1, fun h0 => ?_⟩
  obtain ⟨b, off, hA', hl, hc⟩ := h.list.2.2 h0
  have hkb := hk.block b hl (.inl (hA _ hA'))
  have hs := hk.size
  exact ⟨b, off, hA', by omega, fun i x hx => (World.cell?_of_block (w := V) (a := ⟨b, off + i, none⟩) hkb).trans (hc i x hx)⟩
theorem Iter.cells {a bx l n c : Nat} {A : Option Addr} {list pre : List Int} {V : World} (h : Iter a bx l n c A list pre V) :
    V.cell? ⟨a, 0, none⟩ = some (.func (.yield l) #[] #[]) ∧ V.cell? ⟨a + 2, 0, none⟩ = some (.slice (some ⟨a + 1, 0, none⟩) pre.length n) ∧ V.frozen? ⟨a + 2, 0, none⟩ = false ∧
    V.cell? ⟨a + 3, 0, none⟩ = some (.func (.func 156) #[] #[.pointer (some ⟨a + 2, 0, none⟩), .pointer (some ⟨bx, 0, none⟩), .pointer (some ⟨a, 0, none⟩), .pointer (some ⟨a + 3, 0, none⟩)]) := by
  refine ⟨?_, ?_, ?_, ?_⟩
  · rw [cell_of_row _ _ _ _ _ _ h.yb]; rfl
  · rw [cell_of_row _ _ _ _ _ _ h.ob]; rfl
  · simp [World.frozen?, h.ob]
  · rw [cell_of_row _ _ _ _ _ _ h.fb]; rfl
/-- The order with another length, as its box tells. -/
theorem Iter.put {a bx l n c : Nat} {A : Option Addr} {list pre pre' : List Int} {V W : World} (h : Iter a bx l n c A list pre V) (hg : V.grownBy W (some (a + 1))) (hbx : bx < a) (hA : ∀ ad, A = some ad → ad.block < a)
    (hrow : W.ownsRow a 3 1 (.slice (some ⟨a + 1, 0, none⟩) pre'.length n) pre'.length (intCells pre')) :
    Iter a bx l n c A list pre' (W.setCell ⟨a + 2, 0, none⟩ (.slice (some ⟨a + 1, 0, none⟩) pre'.length n)) := by
  have blk : ∀ k, k < V.heap.size → k ≠ a + 1 → k ≠ a + 2 → (W.setCell ⟨a + 2, 0, none⟩ (.slice (some ⟨a + 1, 0, none⟩) pre'.length n)).heap[k]? = V.heap[k]? := fun k hk h1 h2 =>
    (Below.heap_setCell W _ _ k (by simpa using h2)).trans (hg.block k hk (fun e => h1 (by injection e)))
  have hs := World.grownBy.size hg
  have hob : W.heap[a + 2]? = some (.cells #[.slice (some ⟨a + 1, 0, none⟩) pre.length n] 25 (0, 0)) := (hg.block (a + 2) (lt_of_block h.ob) (by simp)).trans h.ob
  refine ⟨(blk a (lt_of_block h.yb) (by omega) (by omega)).trans h.yb, ?_, ?_, (blk (a + 3) (lt_of_block h.fb) (by omega) (by omega)).trans h.fb, ?_, ?_⟩
  · refine ownsRow_block hrow (by simp [World.setCell]) (Below.heap_setCell W _ _ (a + 1) (by simp))
  · simp [World.setCell, Array.getElem?_modify, hob]
  · exact (World.cell?_of_block (w := V) (a := ⟨bx, 0, none⟩) (blk bx (block_lt_of_cell h.lb) (by omega) (by omega))).trans h.lb
  · refine ⟨h.list.1, h.list.2.1, fun h0 => ?_⟩
    obtain ⟨b, off, hA', hl, hc⟩ := h.list.2.2 h0
    have hba := hA _ hA'
    simp only at hba
    refine ⟨b, off, hA', by simp [World.setCell]; omega, fun i x hx => (World.cell?_of_block (w := V) (a := ⟨b, off + i, none⟩) (blk b hl (by omega) (by omega))).trans (hc i x hx)⟩
theorem own_less {w : World} {base g k c : Nat} {xs : List Int} {t : Int} (h : w.ownsRow base 3 1 (.slice (some ⟨g, 0, none⟩) (k + 1) c) (k + 1) (intCells (xs ++ [t]))) (hk : xs.length = k) : w.ownsRow base 3 1 (.slice (some ⟨g, 0, none⟩) k c) k (intCells xs) := by
  refine ⟨by simp [intCells, hk], ?_⟩
  rcases h.2 with ⟨e, _⟩ | ⟨g', cap, cur, e, h2, h3, h4, h5, h6, h7⟩
  · cases e
  · injection e with e1 e2 e3
    injection e1 with e1
    injection e1 with e1
    subst e1; subst e3
    refine .inr ⟨_, _, cur, rfl, h2, h3, by omega, h5, h6, ?_⟩
    have : (cur.toList.take ((k + 1) * 1)).take (k * 1) = cur.toList.take (k * 1) := by rw [List.take_take]; congr 1; omega
    rw [← this, h7]
    simp [intCells, hk]
end Go.Proofs.Ytofcpfabjfhjoaa
namespace Go.Proofs.Ytofcpfabjfhjoaa
open Go.RowKit Go.BigFrame Go.Shelf
set_option linter.unusedVariables false

attribute [local go_sem] Oper.semAt_some

/-- What the loop's body asks of the iterator, and what it does in a round. -/
structure PermCtx (a bx n0 l n : Nat) (list : List Int) (J : List (List Int) → World → Prop) : Prop where
  abide : ∀ s V W, J s V → ItStep a V W → J s W
  round : ∀ acc x V W1 A' c' m, J acc V → ItStep a V W1 → a + 4 ≤ V.heap.size → FreshInts V W1 A' n x → n ≤ c' → (acc ++ [x]) <+: permF list n [] →
    YieldAt Fence.wide m Try.prog l #[.slice A' n c'] W1 fun e W' => e = .returned (.bool true) ∧ J (acc ++ [x]) W' ∧ RdKeep a bx n0 W1 W'

/-- What the orders that begin with 'pre' and then go on with t are. -/
def permN (list : List Int) (m : Nat) (pre : List Int) (t : Int) : List (List Int) := if pre.any (fun y => y == t) then [] else permF list m (pre ++ [t])
theorem permF_succ {list : List Int} {m : Nat} {pre : List Int} : permF list (m + 1) pre = list.flatMap (permN list m pre) := rfl
theorem prefix_of_snoc {α : Type} {acc a b c L : List α} (h : (acc ++ (a ++ (b ++ c))) <+: L) : (acc ++ (a ++ b)) <+: L := by
  refine List.IsPrefix.trans ?_ h
  exact ⟨c, by simp⟩
theorem Iter.sz {a bx l n c : Nat} {A : Option Addr} {list pre : List Int} {V : World} (h : Iter a bx l n c A list pre V) : a + 4 ≤ V.heap.size := by have := lt_of_block h.fb; omega

set_option maxRecDepth 100000 in
set_option maxHeartbeats 1000000 in
theorem from_zero (a bx n0 l n c : Nat) (A : Option Addr) (list : List Int) (J : List (List Int) → World → Prop) (hP : PermCtx a bx n0 l n list J) (hA : ∀ ad, A = some ad → ad.block < n0)
    (pre : List Int) (acc : List (List Int)) (V : World) (hI : Iter a bx l n c A list pre V) (hJ : J acc V) (hlen : pre.length = n) (hpre : (acc ++ [pre]) <+: permF list n []) :
      Calls Try.prog 156 #[.pointer (some ⟨a + 2, 0, none⟩), .pointer (some ⟨bx, 0, none⟩), .pointer (some ⟨a, 0, none⟩), .pointer (some ⟨a + 3, 0, none⟩)] V fun e V' =>
        e = .returned (.bool true) ∧ Iter a bx l n c A list pre V' ∧ J (acc ++ [pre]) V' := by
  subst hlen
  obtain ⟨c0, c2, f2, c3⟩ := hI.cells
  have clb := hI.lb
  have hln := hI.list.2.1
  have hcl : Calls Try.prog 157 #[.slice (some ⟨a + 1, 0, none⟩) pre.length pre.length] V.drew (RetInts V.drew pre) := CloneI_any (a + 1) 0 pre.length pre.length pre V.drew (RInts.of_own hI.row hln)
  have HC := Lib.hid hcl
  have HR : Hid (∀ (A1 : Option Addr) (c1 m : Nat) (w1 : World), FreshInts V.drew w1 A1 pre.length pre → pre.length ≤ c1 → Below V.drew.heap.size V.drew w1 →
      YieldAt Fence.wide m Try.prog l #[.slice A1 pre.length c1] w1 fun e W' => e = .returned (.bool true) ∧ J (acc ++ [pre]) W' ∧ Iter a bx l pre.length c A list pre W') := by
    intro A1 c1 m w1 hf hc1 hb
    refine (hP.round acc pre V w1 A1 c1 m hJ ⟨hb.os, hb.tape, hb.output, hb.size, fun k hk _ => hb.block k hk⟩ hI.sz hf hc1 hpre).mono ?_
    rintro e W' ⟨he, hj, hk⟩
    exact ⟨he, hj, (hI.below (W := w1) ⟨hb.os, hb.tape, hb.output, hb.size, hb.block⟩).kept hA hk⟩
  clear hI hJ hpre hP hcl
  refine (callsIn_wide (n := 5)).1 ?_
  refine callsIn_of_wp Try.func156 rfl trivial ?_ rfl
  simp only [Try.ntmps156, List.size_toArray, List.length_cons, List.length_nil, Nat.reduceAdd, Nat.reduceSub, Array.replicate_succ, Array.replicate_zero, List.push_toArray, List.append_toArray, List.nil_append, List.cons_append]
  gi_wp2
  gi_region_with (first
    | (refine ⟨trivial, ?_⟩; gi_at_call 157; refine (callsIn_wide.2 HC.out).mono ?_; rintro e w1 ⟨A1, c1, rfl, hc1, hf, hb⟩; have c0' := (hb.cell (p := ⟨a, 0, none⟩) (block_lt_of_cell c0)).trans c0; obtain ⟨fn, tmps, assign, body, hy, hR⟩ := HR.out A1 c1 4 w1 hf hc1 hb)
    | (refine hR.mono ?_; rintro e w2 ⟨rfl, hJ2, hI2⟩))
  all_goals
    gi_wp2
    go_ret
    exact ⟨rfl, hI2, hJ2⟩
end Go.Proofs.Ytofcpfabjfhjoaa
namespace Go.Proofs.Ytofcpfabjfhjoaa
open Go.RowKit Go.BigFrame Go.Shelf
set_option linter.unusedVariables false

/-- A loop of the recursion: what lies and what has come. -/
structure FromInv (a bx l n c : Nat) (A : Option Addr) (list pre : List Int) (J : List (List Int) → World → Prop) (acc : List (List Int)) (V : World) : Prop where
  it : Iter a bx l n c A list pre V
  j : J acc V

theorem cell_grown {V W : World} {row : Option Nat} (hg : V.grownBy W row) {p : Addr} (hp : p.block < V.heap.size) (hne : some p.block ≠ row) : W.cell? p = V.cell? p := World.cell?_of_block (w := V) (hg.block _ hp hne)
theorem frozen_grown {V W : World} {row : Option Nat} (hg : V.grownBy W row) {p : Addr} (hp : p.block < V.heap.size) (hne : some p.block ≠ row) : W.frozen? p = V.frozen? p := by
  unfold World.frozen?
  rw [hg.block _ hp hne]
/-- One order more: what lies then. -/
theorem put_len {a bx l n c d : Nat} {A : Option Addr} {list pre : List Int} {t : Int} {V W : World} (hd : pre.length = d) (h : Iter a bx l n c A list pre V) (hg : V.grownBy W (some (a + 1))) (hbx : bx < a) (hA : ∀ ad, A = some ad → ad.block < a)
    (hrow : W.ownsRow a 3 1 (.slice (some ⟨a + 1, 0, none⟩) (d + 1) n) (d + 1) (intCells pre ++ [.int .i64 t])) :
    W.cell? ⟨a + 2, 0, none⟩ = some (.slice (some ⟨a + 1, 0, none⟩) d n) ∧ W.frozen? ⟨a + 2, 0, none⟩ = false ∧ Iter a bx l n c A list (pre ++ [t]) (W.setCell ⟨a + 2, 0, none⟩ (.slice (some ⟨a + 1, 0, none⟩) (d + 1) n)) ∧
      (W.setCell ⟨a + 2, 0, none⟩ (.slice (some ⟨a + 1, 0, none⟩) (d + 1) n)).cell? ⟨a + 3, 0, none⟩ = some (.func (.func 156) #[] #[.pointer (some ⟨a + 2, 0, none⟩), .pointer (some ⟨bx, 0, none⟩), .pointer (some ⟨a, 0, none⟩), .pointer (some ⟨a + 3, 0, none⟩)]) := by
  subst hd
  obtain ⟨c0, c2, f2, c3⟩ := h.cells
  have hs := h.sz
  have hl : (pre ++ [t]).length = pre.length + 1 := by simp
  have hI : Iter a bx l n c A list (pre ++ [t]) (W.setCell ⟨a + 2, 0, none⟩ (.slice (some ⟨a + 1, 0, none⟩) (pre ++ [t]).length n)) := h.put hg hbx hA (by rw [hl]; simpa [intCells] using hrow)
  rw [hl] at hI
  exact ⟨(cell_grown hg (p := ⟨a + 2, 0, none⟩) (by simp; omega) (by simp)).trans c2, (frozen_grown hg (p := ⟨a + 2, 0, none⟩) (by simp; omega) (by simp)).trans f2, hI, hI.cells.2.2.2⟩
theorem put_step {a : Nat} {V W : World} {u : Value} (hg : V.grownBy W (some (a + 1))) : ItStep a V (W.setCell ⟨a + 2, 0, none⟩ u) :=
  (ItStep.of_grown hg (fun g e => by injection e with e; omega)).trans (ItStep.set W u (p := ⟨a + 2, 0, none⟩) (by simp))

set_option maxRecDepth 100000 in
set_option maxHeartbeats 2000000 in
theorem from_any (a bx n0 l n c : Nat) (A : Option Addr) (list : List Int) (J : List (List Int) → World → Prop) (hP : PermCtx a bx n0 l n list J) (hbx : bx < a) (hA : ∀ ad, A = some ad → ad.block < n0) (hn0 : n0 ≤ a) (m : Nat) :
    ∀ (pre : List Int) (acc : List (List Int)) (V : World), Iter a bx l n c A list pre V → J acc V → pre.length + m = n → (acc ++ permF list m pre) <+: permF list n [] →
      Calls Try.prog 156 #[.pointer (some ⟨a + 2, 0, none⟩), .pointer (some ⟨bx, 0, none⟩), .pointer (some ⟨a, 0, none⟩), .pointer (some ⟨a + 3, 0, none⟩)] V fun e V' =>
        e = .returned (.bool true) ∧ Iter a bx l n c A list pre V' ∧ J (acc ++ permF list m pre) V' := by
  induction m with
  | zero =>
    intro pre acc V hI hJ hlen hpre
    exact from_zero a bx n0 l n c A list J hP hA pre acc V hI hJ (by omega) hpre
  | succ m ih =>
    intro pre acc V hI hJ hlen hpre
    obtain ⟨d, hh⟩ : ∃ d, pre.length = d := ⟨_, rfl⟩
    have HLEN := Lib.hid hh
    have hhn : d < n := by omega
    have hdm : d + m + 1 = n := by omega
    have hdn : ((d : Int) == (n : Int)) = false := by simp; omega
    obtain ⟨c0, c2, f2, c3⟩ := hI.cells
    rw [hh] at c2
    have clb := hI.lb
    have hln := hI.list.2.1
    have hlist := hI.list.1
    have HP := Lib.hid hP
    have HIH := Lib.hid ih
    have HPRE := Lib.hid hpre
    have HFI : Hid (FromInv a bx l n c A list pre J acc V) := ⟨hI, hJ⟩
    have HA := Lib.hid hA
    have HL := Lib.hid hlist
    clear hI hJ hP ih hpre hA hlist hlen hh
    go_enter Try.func156, Try.ntmps156
    go_wp2_with fail
    go_loopw [18] (fun i wr => ∃ k : Nat, k ≤ n ∧ i = .int .i64 k ∧ FromInv a bx l n c A list pre J (acc ++ (list.take k).flatMap (permN list m pre)) wr) (fun i _ => n - (intOf i).toNat)
    case atStart => exact ⟨0, Nat.zero_le _, rfl, by simpa using HFI.out⟩
    case round =>
      clear HFI c0 c2 f2 c3 clb
      obtain ⟨k, hk, rfl, hinv⟩ := hrel
      have HINV := Lib.hid hinv
      clear hinv
      by_cases hlt : k < n
      · obtain ⟨c0, c2, f2, c3⟩ := HINV.out.it.cells
        rw [HLEN.out] at c2
        obtain ⟨b, off, t, hAe, hbl, ho, ct⟩ := HINV.out.it.list.at_ hlt
        have hbA : b < a := by have := HA.out _ hAe; simp only at this; omega
        subst hAe
        have hst : (list.take (k + 1)).flatMap (permN list m pre) = (list.take k).flatMap (permN list m pre) ++ permN list m pre t := by
          rw [take_snoc ho, List.flatMap_append]; simp
        have hpx : permF list (m + 1) pre = ((list.take k).flatMap (permN list m pre) ++ permN list m pre t) ++ (list.drop (k + 1)).flatMap (permN list m pre) := by
          rw [permF_succ, ← hst, ← List.flatMap_append, List.take_append_drop]
        have HPX : Hid ((acc ++ (list.take k).flatMap (permN list m pre) ++ permN list m pre t) <+: permF list n []) := by
          have := HPRE.out
          rw [hpx] at this
          refine List.IsPrefix.trans ⟨(list.drop (k + 1)).flatMap (permN list m pre), ?_⟩ this
          simp [List.append_assoc]
        have HST : Hid (acc ++ (list.take (k + 1)).flatMap (permN list m pre) = acc ++ (list.take k).flatMap (permN list m pre) ++ permN list m pre t) := by show _ = _; rw [hst, List.append_assoc]
        have HN : Hid (permN list m pre t = if pre.any (fun y => y == t) then [] else permF list m (pre ++ [t])) := rfl
        clear hst hpx ho
        generalize acc ++ (list.take k).flatMap (permN list m pre) = acc1 at *
        generalize permN list m pre t = nx at *
        have hrow := HINV.out.it.row
        rw [HLEN.out] at hrow
        have hcI : Calls Try.prog 90 #[.slice (some ⟨a + 1, 0, none⟩) d n, .int .i64 t] wr fun e w' => e = .returned (.bool (pre.any fun y => y == t)) ∧ Below wr.heap.size wr w' := ContainsS_any (some ⟨a + 1, 0, none⟩) d n pre t wr (RInts.of_own hrow (by omega))
        obtain ⟨bc, hbc⟩ : ∃ bc, (pre.any fun y => y == t) = bc := ⟨_, rfl⟩
        have HBC := Lib.hid hbc
        rw [hbc] at hcI
        have HC := Lib.hid hcI
        have HROW := Lib.hid hrow
        have clb := HINV.out.it.lb
        have hsz := HINV.out.it.sz
        clear hcI hbc hrow
        cases bc
        · go_wp2_with fail
          refine (HC.out).mono ?_
          rintro e w1 ⟨rfl, hb1⟩
          have c2' := (hb1.cell (p := ⟨a + 2, 0, none⟩) (by simp; omega)).trans c2
          have f2' := (hb1.frozen (p := ⟨a + 2, 0, none⟩) (by simp; omega)).trans f2
          have hrow1 := (own_below HROW.out hb1).alloc (.cells #[.int .i64 t] 3)
          have hbw1 := hb1.size
          have HI1 : Hid (Iter a bx l n c (some ⟨b, off, none⟩) list pre (w1.alloc (.cells #[.int .i64 t] 3))) := HINV.out.it.below ((hb1.trans ((Below.refl wr.heap.size w1).alloc hbw1 _)))
          have HJ1 : Hid (∀ W, ItStep a (w1.alloc (.cells #[.int .i64 t] 3)) W → J acc1 W) := fun W hW => HP.out.abide _ _ _ HINV.out.j ((ItStep.of_below (hb1.trans ((Below.refl wr.heap.size w1).alloc hbw1 _))).trans hW)
          have HAB : Hid (∀ ad, some (⟨b, off, none⟩ : Addr) = some ad → ad.block < a) := fun ad h => by injection h with h; subst h; exact hbA
          go_wp2_with (at_builtin; refine wpList_append_fits _ rfl (.tmp 25) (.tmp 27) 25 rfl a 3 (info_parts intInfo).choose 1 Try.underlying25 (info_parts intInfo).choose_spec.1 (info_parts intInfo).choose_spec.2.2.1 (a + 1) d n (intCells pre) rfl hrow1 ⟨w1.heap.size, 0, none⟩ 1 1 [.int .i64 t] rfl rfl (cell_one_new _ _ _) (by simp [Value.oneCell']) (by omega) ?_; intro w3 hown3 hg3; have hpl := put_len HLEN.out HI1.out hg3 hbx HAB.out hown3; have c2w := hpl.1; have f2w := hpl.2.1; have c3w := hpl.2.2.2; have HI4 := Lib.hid hpl.2.2.1; have HJ4 := Lib.hid (HJ1.out _ (put_step (u := .slice (some ⟨a + 1, 0, none⟩) (d + 1) n) hg3)); clear hpl hown3 hg3)
          have hlen4 : (pre ++ [t]).length + m = n := by simp [HLEN.out]; omega
          refine (HIH.out (pre ++ [t]) acc1 _ HI4.out HJ4.out hlen4 (by have := HPX.out; rw [HN.out, HBC.out] at this; simpa using this)).mono ?_
          rintro e w5 ⟨rfl, hI5, hJ5⟩
          obtain ⟨_, c25, f25, _⟩ := hI5.cells
          have hl5 : (pre ++ [t]).length = d + 1 := by simp [HLEN.out]
          rw [hl5] at c25
          have s1 : IntKind.i64.wrap (((d + 1 : Nat) : Int) - 1) = (d : Int) := by rw [IntWalk.i64_in _ (by omega)]; omega
          have HI5 := Lib.hid hI5
          have HJ5 := Lib.hid hJ5
          clear hI5 hJ5 c2w f2w c3w
          go_wp2_with fail
          go_roundw
          case rel => exact ⟨k + 1, by omega, by go_num, by
            rw [HST.out, HN.out, HBC.out, if_neg (by simp)]
            refine ⟨?_, HP.out.abide _ _ _ HJ5.out (ItStep.set _ _ (by simp))⟩
            have hr := HI5.out.row
            rw [hl5] at hr
            have h6 := HI5.out.put (pre' := pre) (World.grownBy.refl _ _) hbx HAB.out (by rw [HLEN.out]; exact own_less (xs := pre) hr HLEN.out)
            rw [HLEN.out] at h6
            exact h6⟩
          case measure => simp [intOf]; omega
        · go_wp2_with fail
          refine (HC.out).mono ?_
          rintro e w1 ⟨rfl, hb1⟩
          go_wp2_with fail
          go_roundw
          case rel => exact ⟨k + 1, by omega, by go_num, by
            rw [HST.out, HN.out, HBC.out, if_pos rfl, List.append_nil]
            exact ⟨HINV.out.it.below hb1, HP.out.abide _ _ _ HINV.out.j (ItStep.of_below hb1)⟩⟩
          case measure => simp [intOf]; omega
      · obtain rfl : k = n := by omega
        go_wp2_with fail
        go_ret
        have e : list.take k = list := List.take_of_length_le (by have := HL.out; omega)
        have hi := HINV.out
        rw [e] at hi
        exact ⟨rfl, hi.it, hi.j⟩
end Go.Proofs.Ytofcpfabjfhjoaa
namespace Go.Proofs.Ytofcpfabjfhjoaa
open Go.RowKit Go.BigFrame Go.Shelf
set_option linter.unusedVariables false

attribute [local go_sem] Oper.semAt_some

theorem run_mkInts (n : Nat) (hn : n ≤ 1000000) (w : World) : ∃ cs : Array Value, cs.size = n ∧
    (Instr.makeSlice 25 (.int .i64 0) (.int .i64 (n : Int))).run Try.prog w = .ok (.slice (some ⟨w.heap.size, 0, none⟩) 0 n) (w.alloc (.cells cs 3)) := by
  obtain ⟨i0, hi, hz0, hz1, hz2⟩ := info_parts intInfo
  have := run_makeSlice (P := Try.prog) (w := w) 25 3 i0 _ Try.underlying25 hi hz0 .i64 .i64 0 (n : Int) (Int.le_refl _) (by omega) (by rw [hz1]; omega) (by rw [hz2]; omega) (by omega)
  simp only [Int.toNat_zero, Int.toNat_natCast, hz1] at this
  exact ⟨_, by rw [size_madeCells]; omega, this⟩

set_option maxHeartbeats 1000000 in
/-- 'permutations(list)': a closure over the list's box. -/
theorem permutations_any (A : Option Addr) (n c : Nat) (w : World) :
    Calls Try.prog 139 #[.slice A n c] w fun e w' => e = .returned (.func (.func 155) #[] #[.pointer (some ⟨w.heap.size, 0, none⟩)]) ∧ w' = w.alloc (.cells #[.slice A n c] 25) := by
  go_enter Try.func139, Try.ntmps139
  go_wp2_with fail
  go_ret
  exact ⟨rfl, rfl⟩

/-- What lies where the recursion begins. -/
theorem iter_start {bx l n c : Nat} {A : Option Addr} {list : List Int} {W : World} {cs : Array Value} (hcs : cs.size = n) (hb : W.cell? ⟨bx, 0, none⟩ = some (.slice A n c)) (hl : RInts W A n list) (hn : n ≤ 4) :
    Iter W.heap.size bx l n c A list [] ((((W.alloc (.cells #[.func (.yield l) #[] #[]] 47)).alloc (.cells cs 3)).alloc (.cells #[.slice (some ⟨W.heap.size + 1, 0, none⟩) 0 n] 25)).alloc (.cells #[.func (.func 156) #[] #[.pointer (some ⟨W.heap.size + 2, 0, none⟩), .pointer (some ⟨bx, 0, none⟩), .pointer (some ⟨W.heap.size, 0, none⟩), .pointer (some ⟨W.heap.size + 3, 0, none⟩)]] 62)) := by
  obtain ⟨W1, h1⟩ : ∃ W1, W.alloc (.cells #[.func (.yield l) #[] #[]] 47) = W1 := ⟨_, rfl⟩
  obtain ⟨W2, h2⟩ : ∃ W2, W1.alloc (.cells cs 3) = W2 := ⟨_, rfl⟩
  obtain ⟨W3, h3⟩ : ∃ W3, W2.alloc (.cells #[.slice (some ⟨W.heap.size + 1, 0, none⟩) 0 n] 25) = W3 := ⟨_, rfl⟩
  obtain ⟨W4, h4⟩ : ∃ W4, W3.alloc (.cells #[.func (.func 156) #[] #[.pointer (some ⟨W.heap.size + 2, 0, none⟩), .pointer (some ⟨bx, 0, none⟩), .pointer (some ⟨W.heap.size, 0, none⟩), .pointer (some ⟨W.heap.size + 3, 0, none⟩)]] 62) = W4 := ⟨_, rfl⟩
  rw [h1, h2, h3, h4]
  have s1 : W1.heap.size = W.heap.size + 1 := by rw [← h1]; simp
  have s2 : W2.heap.size = W.heap.size + 2 := by rw [← h2]; simp; omega
  have s3 : W3.heap.size = W.heap.size + 3 := by rw [← h3]; simp; omega
  have b4 : Below W3.heap.size W3 W4 := by rw [← h4]; exact (Below.refl _ _).alloc (Nat.le_refl _) _
  have b3 : Below W2.heap.size W2 W4 := by
    refine Below.trans ?_ (b4.mono (by omega))
    rw [← h3]; exact (Below.refl _ _).alloc (Nat.le_refl _) _
  have b2 : Below W1.heap.size W1 W4 := by
    refine Below.trans ?_ (b3.mono (by omega))
    rw [← h2]; exact (Below.refl _ _).alloc (Nat.le_refl _) _
  have b1 : Below W.heap.size W W4 := by
    refine Below.trans ?_ (b2.mono (by omega))
    rw [← h1]; exact (Below.refl _ _).alloc (Nat.le_refl _) _
  have k1 : W1.heap[W.heap.size]? = some (.cells #[.func (.yield l) #[] #[]] 47 (0, 0)) := by rw [← h1]; exact heap_alloc_new W _
  have k2 : W2.ownsRow W.heap.size 3 1 (.slice (some ⟨W.heap.size + 1, 0, none⟩) 0 n) 0 (intCells []) := by
    have := World.ownsRow_made (base := W.heap.size) (e := 3) (size := 1) W1 cs n (by omega) (by unfold maxLen; omega) (by omega)
    rw [s1, h2] at this
    exact this
  have k3 : W3.heap[W.heap.size + 2]? = some (.cells #[.slice (some ⟨W.heap.size + 1, 0, none⟩) 0 n] 25 (0, 0)) := by
    have := heap_alloc_new W2 (.cells #[.slice (some ⟨W.heap.size + 1, 0, none⟩) 0 n] 25)
    rw [h3, s2] at this; exact this
  have k4 := heap_alloc_new W3 (.cells #[.func (.func 156) #[] #[.pointer (some ⟨W.heap.size + 2, 0, none⟩), .pointer (some ⟨bx, 0, none⟩), .pointer (some ⟨W.heap.size, 0, none⟩), .pointer (some ⟨W.heap.size + 3, 0, none⟩)]] 62)
  rw [h4, s3] at k4
  exact ⟨(b2.block _ (by omega)).trans k1, own_below k2 b3, (b4.block _ (by omega)).trans k3, k4, (b1.cell (p := ⟨bx, 0, none⟩) (block_lt_of_cell hb)).trans hb, hl.below b1 (Nat.le_refl _)⟩

set_option maxRecDepth 100000 in
set_option maxHeartbeats 2000000 in
/-- The closure, called with what takes the orders: all of them come, in order. -/
theorem perms_any (bx n0 l n c : Nat) (A : Option Addr) (list : List Int) (J : List (List Int) → World → Prop) (W : World) (hP : PermCtx W.heap.size bx n0 l n list J)
    (hb : W.cell? ⟨bx, 0, none⟩ = some (.slice A n c)) (hl : RInts W A n list) (hA : ∀ ad, A = some ad → ad.block < n0) (hn0 : n0 ≤ W.heap.size) (hn4 : n ≤ 4) (h0 : J [] W) :
    Calls Try.prog 155 #[.func (.yield l) #[] #[], .pointer (some ⟨bx, 0, none⟩)] W fun e W' => (∃ v, e = .returned v) ∧ J (permF list n []) W' := by
  obtain ⟨cs, hcs, hmk⟩ := run_mkInts n (by omega) (W.alloc (.cells #[.func (.yield l) #[] #[]] 47))
  have hbx : bx < W.heap.size := by have := block_lt_of_cell hb; simpa using this
  have HX := Lib.hid (And.intro hl (And.intro h0 hP))
  have HA := Lib.hid hA
  have HCS := Lib.hid hcs
  clear hl h0 hP hA hcs
  go_enter Try.func155, Try.ntmps155
  go_wp2_with fail
  refine (from_any W.heap.size bx n0 l n c A list J HX.out.2.2 hbx HA.out hn0 n [] [] _ (iter_start HCS.out hb HX.out.1 hn4) (HX.out.2.2.abide _ _ _ HX.out.2.1 ?hst) (by simp) (by simp)).mono ?_
  case hst => exact ItStep.of_below ((((Below.refl _ W).alloc (Nat.le_refl _) _).alloc (by simp) _).alloc (by simp; omega) _ |>.alloc (by simp; omega) _)
  rintro e w5 ⟨rfl, _, hJ5⟩
  have HJ5 := Lib.hid hJ5
  clear hJ5
  go_wp2_with fail
  go_end0
  exact ⟨⟨_, rfl⟩, by have := HJ5.out; simpa using this⟩
end Go.Proofs.Ytofcpfabjfhjoaa
namespace Go.Proofs.Ytofcpfabjfhjoaa
open Go.RowKit Go.BigFrame Go.Shelf
set_option linter.unusedVariables false

/-- Six blocks more: what is made behind them is made since. -/
def six (w : World) : World := (((((w.alloc (.cells #[] 3)).alloc (.cells #[] 3)).alloc (.cells #[] 3)).alloc (.cells #[] 3)).alloc (.cells #[] 3)).alloc (.cells #[] 3)
theorem six_size (w : World) : (six w).heap.size = w.heap.size + 6 := by simp [six]

/-- A step of the loop's statement and of the iterator, as the body's own things see it. -/
structure LpStep (b : Nat) (V W : World) : Prop where
  os : W.os = V.os
  tape : W.tape = V.tape
  output : W.output = V.output
  size : V.heap.size ≤ W.heap.size
  block : ∀ k, k < V.heap.size → ¬ (b ≤ k ∧ k < b + 6) → W.heap[k]? = V.heap[k]?
theorem LpStep.refl (b : Nat) (V : World) : LpStep b V V := ⟨rfl, rfl, rfl, Nat.le_refl _, fun _ _ _ => rfl⟩
theorem LpStep.trans {b : Nat} {U V W : World} (h : LpStep b U V) (k : LpStep b V W) : LpStep b U W :=
  ⟨k.os.trans h.os, k.tape.trans h.tape, k.output.trans h.output, Nat.le_trans h.size k.size, fun i hi hn => (k.block i (Nat.lt_of_lt_of_le hi h.size) hn).trans (h.block i hi hn)⟩
theorem LpStep.of_below {b : Nat} {V W : World} (h : Below V.heap.size V W) : LpStep b V W := ⟨h.os, h.tape, h.output, h.size, fun k hk _ => h.block k hk⟩
theorem LpStep.of_it {b : Nat} {V W : World} (h : ItStep (b + 2) V W) : LpStep b V W := ⟨h.os, h.tape, h.output, h.size, fun k hk hn => h.block k hk (fun e => hn (by omega))⟩
theorem LpStep.put {b : Nat} (V : World) {l : Nat} (o : Obj) (hl : b ≤ l ∧ l < b + 6) : LpStep b V (V.putObj l o) :=
  ⟨rfl, rfl, rfl, by simp, fun k hk hn => World.putObj_heap_other (by rintro rfl; exact hn hl)⟩
/-- What a round's body keeps. -/
structure BdKeep (b bx n0 : Nat) (V W : World) : Prop where
  size : V.heap.size ≤ W.heap.size
  block : ∀ k, k < V.heap.size → (k < n0 ∨ k = bx ∨ (b ≤ k ∧ k < b + 6)) → W.heap[k]? = V.heap[k]?
theorem BdKeep.trans {b bx n0 : Nat} {U V W : World} (h : BdKeep b bx n0 U V) (k : BdKeep b bx n0 V W) : BdKeep b bx n0 U W :=
  ⟨Nat.le_trans h.size k.size, fun i hi hn => (k.block i (Nat.lt_of_lt_of_le hi h.size) hn).trans (h.block i hi hn)⟩
theorem BdKeep.of_below {b bx n0 : Nat} {V W : World} (h : Below V.heap.size V W) : BdKeep b bx n0 V W := ⟨h.size, fun k hk _ => h.block k hk⟩

def permPost (b bx n0 : Nat) (I : List (List Int) → World → Prop) (xs : List (List Int)) (W : World) : Exit → Act → World → Prop
  | .normal, _, W' => BdKeep b bx n0 W W' ∧ I xs W'
  | _, _, _ => False

theorem wpIn_rangePerm {g : Operand} {ps : Array Tmp} {assign body : Code} {Q : Exit → Act → World → Prop} {a : Act} {w : World} {N : Nat} (bx n0 n c : Nat) (A : Option Addr) (list : List Int)
    (hg : a.eval g = .func (.func 155) #[] #[.pointer (some ⟨bx, 0, none⟩)]) (hps : ps.size = 1)
    (hb : w.cell? ⟨bx, 0, none⟩ = some (.slice A n c)) (hl : RInts w A n list) (hA : ∀ ad, A = some ad → ad.block < n0) (hn0 : n0 ≤ w.heap.size) (hn4 : n ≤ 4)
    (I : List (List Int) → World → Prop) (hI : ∀ s V W, I s V → LpStep w.heap.size V W → I s W) (h0 : I [] w) (a₁ : Value → Act)
    (hassign : ∀ (l m : Nat) (v : Value) (W : World) (K : Act → World → Prop), K (a₁ v) W →
      assign.wpIn (Fence.wide.inRound l) m Try.prog (Exit.then K (fun _ _ _ => False)) { tmps := (ps.zip #[v]).foldl (fun t (p, v) => t.setIfInBounds p v) a.tmps, defers := [] } W)
    (hbody : ∀ (l m : Nat) (pre : List (List Int)) (x : List Int) (V W : World) (A' : Option Addr) (c' : Nat), I pre V → LpStep w.heap.size V W → w.heap.size + 6 ≤ V.heap.size → FreshInts V W A' n x → n ≤ c' → (pre ++ [x]) <+: permF list n [] →
      body.wpIn (Fence.wide.inRound l) m Try.prog (permPost w.heap.size bx n0 I (pre ++ [x]) W) (a₁ (.slice A' n c')) W)
    (hdone : ∀ W : World, I (permF list n []) W → w.heap.size < W.heap.size → W.heap[w.heap.size]? = some (.deferred (some [])) → Q .normal { a with defers := { target := .collected w.heap.size, args := #[] } :: a.defers } W) :
    (Code.rangeFunc g ps assign body).wpIn Fence.wide N Try.prog Q a w := by
  refine wpIn_rangeFunc ?_
  intro fn hfn
  rw [Fence.wide_round]
  obtain ⟨rec, hrec⟩ : ∃ rec : LoopState → Loop, rec = fun st => { state := st, pending := none, fn, tmps := a.tmps, params := ps, assign, body, defers := w.heap.size } := ⟨_, rfl⟩
  obtain ⟨W1, hW1⟩ : ∃ W1, (w.alloc (.deferred (some []))).alloc (.loop (rec .ready)) = W1 := ⟨_, rfl⟩
  have hL1 : W1.heap[w.heap.size + 1]? = some (.loop (rec .ready)) := by
    rw [← hW1]; have := World.alloc_heap_new (w.alloc (.deferred (some []))) (.loop (rec .ready)); rwa [World.size_alloc] at this
  have hK1 : W1.heap[w.heap.size]? = some (.deferred (some [])) := by
    rw [← hW1]; exact (Below.heap_alloc _ _ _ (by simp)).trans (World.alloc_heap_new w _)
  have hb1 : Below w.heap.size w W1 := by
    rw [← hW1]; exact (((Below.refl _ w).alloc (Nat.le_refl _) _).alloc (by simp) _)
  have hs1 : W1.heap.size = w.heap.size + 2 := by rw [← hW1]; simp
  have hI1 : I [] W1 := hI _ _ _ h0 (LpStep.of_below hb1)
  have hbx : bx < w.heap.size := block_lt_of_cell hb
  refine ⟨w.heap.size + 1, [{ target := .collected w.heap.size, args := #[] }], W1, { target := .fn (.func 155) #[.pointer (some ⟨bx, 0, none⟩)], args := #[.func (.yield (w.heap.size + 1)) #[] #[]] }, W1, 155,
    #[.func (.yield (w.heap.size + 1)) #[] #[], .pointer (some ⟨bx, 0, none⟩)], W1, ?_, ?_, fun f' hf' => trivial, ?_, fun h => by simp [Fence.wide] at h, ?_⟩
  · rw [← hW1, hrec]; exact run_enterLoop_outer _ _ _ _ _
  · simp only [resolve, hg]
    simp [go_sem]
  · have eg : ∀ args w, (callFunc 155 args).run Try.prog w = .ok (.enter 155 args) w := enters_of Try.func155 (by kernel_rfl) rfl
    simp [invoke, go_sem, eg]
  · refine callsIn_wide.2 ((perms_any bx n0 (w.heap.size + 1) n c A list
      (fun pre V => I pre V ∧ V.heap[w.heap.size + 1]? = some (.loop (rec .ready)) ∧ V.heap[w.heap.size]? = some (.deferred (some []))) W1 ?_
      ((hb1.cell (p := ⟨bx, 0, none⟩) hbx).trans hb) (hl.below hb1 (Nat.le_refl _)) hA (by omega) hn4 ⟨hI1, hL1, hK1⟩).mono ?_)
    · rw [hs1]
      refine ⟨fun s V W hs hst => ?_, fun acc x V W A' c' m hj hst hsz hf hc' hpre => ?_⟩
      · obtain ⟨hi, hlp, hdf⟩ := hs
        exact ⟨hI _ _ _ hi (LpStep.of_it hst), (hst.block _ (Array.getElem?_eq_some_iff.1 hlp).1 (by omega)).trans hlp, (hst.block _ (Array.getElem?_eq_some_iff.1 hdf).1 (by omega)).trans hdf⟩
      · obtain ⟨hi0, hl0, hk0⟩ := hj
        have hi : I acc W := hI _ _ _ hi0 (LpStep.of_it hst)
        have hlp : W.heap[w.heap.size + 1]? = some (.loop (rec .ready)) := (hst.block _ (Array.getElem?_eq_some_iff.1 hl0).1 (by omega)).trans hl0
        have hk : W.heap[w.heap.size]? = some (.deferred (some [])) := (hst.block _ (Array.getElem?_eq_some_iff.1 hk0).1 (by omega)).trans hk0
        have hlt : w.heap.size + 1 < W.heap.size := (Array.getElem?_eq_some_iff.1 hlp).1
        have hy := run_yield (P := Try.prog) (args := #[.slice A' n c']) hlp (by rw [hrec]; simp [hps])
        rw [hrec] at hy
        refine ⟨fn, _, assign, body, hy, roundIn_of_wpIn hfn (hassign _ m (.slice A' n c') W _ ⟨_, run_beginRound hlp (by rw [hrec]), ?_⟩)⟩
        have hl2 : (W.putObj (w.heap.size + 1) (.loop { rec .ready with state := .busy })).heap[w.heap.size + 1]? = some (.loop { rec .ready with state := .busy }) := World.putObj_heap_same hlt
        have hk2 : (W.putObj (w.heap.size + 1) (.loop { rec .ready with state := .busy })).heap[w.heap.size]? = some (.deferred (some [])) := (World.putObj_heap_other (by omega)).trans hk
        have hf2 : FreshInts V (W.putObj (w.heap.size + 1) (.loop { rec .ready with state := .busy })) A' n x := by
          refine (hf.grownT (grownBy_putObj' W (w.heap.size + 1) _) ?_)
          intro g hg' cur hcur
          injection hg' with hg'
          subst hg'
          rw [hlp] at hcur
          cases hcur
        refine wpIn_mono (hbody _ m acc x V _ A' c' hi0 ((LpStep.of_it hst).trans (LpStep.put _ _ (by omega))) (by omega) hf2 hc' hpre) ?_
        rintro e a3 W3 hp
        cases e with
        | normal =>
          obtain ⟨hk3, hi3⟩ := hp
          have hl3 : W3.heap[w.heap.size + 1]? = some (.loop { rec .ready with state := .busy }) := (hk3.block _ (by simp; omega) (.inr (.inr (by omega)))).trans hl2
          have hd3 : W3.heap[w.heap.size]? = some (.deferred (some [])) := (hk3.block _ (by simp; omega) (.inr (.inr (by omega)))).trans hk2
          have hr := run_endRound (P := Try.prog) none hl3
          rw [hrec] at hr
          refine ⟨_, _, hr, rfl, ⟨hI _ _ _ hi3 (LpStep.put _ _ (by omega)), ?_, (World.putObj_heap_other (by omega)).trans hd3⟩, ?_, ?_⟩
          · rw [hrec]; exact World.putObj_heap_same (Array.getElem?_eq_some_iff.1 hl3).1
          · have := hk3.size; simp at this ⊢; exact this
          · intro k hkk hc
            have hne : k ≠ w.heap.size + 1 := by omega
            refine (World.putObj_heap_other hne).trans ((hk3.block k (by simpa using hkk) ?_).trans (World.putObj_heap_other hne))
            rcases hc with h | h | h
            · exact .inl h
            · exact .inr (.inl h)
            · exact .inr (.inr (by omega))
        | ret => exact hp.elim
        | exit id => exact hp.elim
        | goto t => exact hp.elim
        | panic ch => exact hp.elim
        | outgrown => exact hp.elim
    · rintro e W2 ⟨⟨v, rfl⟩, hi, hlp, hdf⟩
      have := run_endLoop (P := Try.prog) hlp (by rw [hrec]; simp)
      rw [hrec] at this
      exact ⟨none, _, this, hdone _ (hI _ _ _ hi (LpStep.put _ _ (by omega))) (by simpa using (Array.getElem?_eq_some_iff.1 hdf).1) ((World.putObj_heap_other (by omega)).trans hdf)⟩
#print axioms wpIn_rangePerm
end Go.Proofs.Ytofcpfabjfhjoaa
