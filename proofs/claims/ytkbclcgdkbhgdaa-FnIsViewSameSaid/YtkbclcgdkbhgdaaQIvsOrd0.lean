/-
  orderOf and DrawSerialBy: a schedule and its transactions in some order.
-/
import Derived.Test.YtkbclcgdkbhgdaaPkOrdX2
import Derived.Test.YtkbclcgdkbhgdaaPkOrdX1
import Derived.Test.YtkbclcgdkbhgdaaQIvsGen3
import Derived.Deep.RegionLaw
namespace Go.Proofs.Ytkbclcgdkbhgdaa
open Go.RowKit Go.BigFrame
set_option linter.unusedVariables false

def OrdersOne (w0 : World) (rb : Nat) (e : Ending) (w : World) : Prop :=
  ∃ (B : Option Addr) (m d : Nat) (ts : List Int), e = .returned (.slice B m d) ∧ w.ownsRow w0.heap.size 3 1 (.slice B m d) m (intCells ts) ∧ m ≤ 5 ∧ Only rb w0 w

/-- .. of at least k numbers. -/
def OrdersOneN (k : Nat) (w0 : World) (rb : Nat) (e : Ending) (w : World) : Prop :=
  ∃ (B : Option Addr) (m d : Nat) (ts : List Int), e = .returned (.slice B m d) ∧ w.ownsRow w0.heap.size 3 1 (.slice B m d) m (intCells ts) ∧ m ≤ 5 ∧ Only rb w0 w ∧ k ≤ m

set_option maxRecDepth 100000 in
set_option maxHeartbeats 4000000 in
theorem orderOf_anyN (k rb p : Nat) (A : Option Addr) (n c : Nat) (s : List OpV) (w : World) (hr : Rd w rb p) (hp : p ≤ 80000) (hx : ROps w A n s) (hk : (txsOf s).length = k) :
    Calls Try.prog 127 #[.pointer (some ⟨rb, 0, none⟩), .slice A n c] w (OrdersOneN k w rb) := by
  have hlt := hr.lt
  have HX := Lib.hid hx
  clear hx
  go_enter Try.func127, Try.ntmps127
  go_wp2_with fail
  refine (stxs_any A n c s w HX.out).mono ?_
  rintro e w1 ⟨C, g, rfl, hg, hf, hb1⟩
  have HCB : Hid (∀ ad, C = some ad → w.heap.size ≤ ad.block) := fun ad had => by obtain ⟨_, _, e, h1, _⟩ := hf.2 ad had; rw [e]; exact h1
  have HL := Lib.hid hf.1
  have hl4 : (txsOf s).length ≤ 4 := txsOf_len s
  have hs1 := hb1.size
  have hr1 := hr.below hb1
  have HST : Hid ((w1.alloc (.cells #[] 3)).ownsRow w.heap.size 3 1 (.slice (some ⟨w1.heap.size, 0, none⟩) 0 0) 0 (intCells [])) := World.ownsRow_made w1 #[] 0 hs1 (by decide) rfl
  have HO0 : Hid (Only rb w (w1.alloc (.cells #[] 3))) := (Only.of_below hb1).alloc _
  have HR0 := Lib.hid (hr1.alloc (.cells #[] 3))
  have HL0 := Lib.hid (HL.out.below ((Below.refl _ w1).alloc (Nat.le_refl _) (.cells #[] 3)) (Nat.le_refl _))
  clear hf hb1 hr1 hr
  generalize txsOf s = L at *
  have HKK := Lib.hid hk
  clear hk
  go_wp2_with fail
  go_loopw [6, 7] (fun ov i wr => ∃ (q p' : Nat) (ts : List Int), q ≤ L.length ∧ i = .int .i64 q ∧ p' ≤ p + q ∧ Rd wr rb p' ∧ Only rb w wr ∧ wr.ownsRow w.heap.size 3 1 ov q (intCells ts) ∧ RInts wr C L.length L) (fun _ i _ => L.length - (intOf i).toNat)
  case atStart => exact ⟨0, p, [], Nat.zero_le _, rfl, by omega, HR0.out, HO0.out, HST.out, HL0.out⟩
  case round =>
    clear HST HO0 HR0 HL0 HL
    obtain ⟨q, p', ts, hq, rfl, hp', hr, hO, hown, hlst⟩ := hrel
    obtain ⟨Ao, co, rfl, hqc⟩ := own_form2 hown
    have HOWN := Lib.hid hown
    have HLST := Lib.hid hlst
    have HO := Lib.hid hO
    have HR := Lib.hid hr
    clear hown hlst hO hr
    by_cases hql : q < L.length
    · have hqi : (q : Int) < (L.length : Int) := by omega
      go_wp2_with fail
      refine (pick_any rb p' _ _ HR.out (by omega) (by omega)).mono ?_
      rintro e w3 ⟨v, rfl, hr3, _, hv, ho3⟩
      obtain ⟨hv0, hv1⟩ := hv (by omega)
      obtain ⟨k, rfl⟩ := Int.eq_ofNat_of_zero_le hv0
      have hkq : k ≤ q := by omega
      have hown3 := own_only HOWN.out ho3 hlt
      have hl3 : RInts w3 C L.length L := HLST.out.grown ho3 (fun b hb => by have := HCB.out b hb; simp; omega)
      obtain ⟨b, off, t, rfl, hbl, ht, c0i⟩ := hl3.at_ hql
      have hri := RInts.of_own hown3 (by omega)
      have hs3 := ho3.size
      have HO3 := Lib.hid (HO.out.trans ho3)
      have HL3 := Lib.hid hl3
      have HR3 := Lib.hid hr3
      have HPT : Hid (∀ W, Below w3.heap.size w3 W → RInts W Ao k (ts.take k)) := fun W hW => (hri.take hkq).below hW (Nat.le_refl _)
      have HPD : Hid (∀ W, Below w3.heap.size w3 W → RInts W (if co = k then Ao else Ao.map (·.add k)) (q - k) (ts.drop k)) := fun W hW => (hri.drop1 hkq hqc).below hW (Nat.le_refl _)
      have HBA : Hid (Below w3.heap.size w3 (w3.alloc (.cells #[] 3)).drew) := ((Below.refl _ w3).alloc (Nat.le_refl _) _).drew
      have HEA : Hid ((w3.alloc (.cells #[] 3)).drew.ownsRow w3.heap.size 3 1 (.slice (some ⟨w3.heap.size, 0, none⟩) 0 0) 0 (intCells [])) := (lit1_own w3).drew
      have c0a : (w3.alloc (.cells #[] 3)).drew.cell? ⟨b, off + q, none⟩ = some (.int .i64 t) := (HBA.out.cell (p := ⟨b, off + q, none⟩) hbl).trans c0i
      have HEB := Lib.hid (arg1_b w3 t)
      have HEC := Lib.hid (arg1_c w3 t)
      have hsw : w.heap.size ≤ w3.heap.size := HO3.out.size
      have k1 : (k : Int) ≤ (q : Int) := by omega
      have k2 : (k : Int) ≤ (co : Int) := by omega
      have k3 : (0 : Int) ≤ (k : Int) := by omega
      have k4 : (q : Int) ≤ (co : Int) := by omega
      clear hv hv0 hv1 hown3 hri hl3 hr3 ho3 ht HOWN HLST HO HR
      go_wp2_with fail
      go_region_law (first
        | (refine step_ints (.tmp 23) (.tmp 26) (c := co) (HEA.out) (HBA.out.size) (HPT.out _ HBA.out) ?_ ?_ ?_ ?_ ?_ ?_; (· omega); (· rfl); (· rfl); (· rfl); (· rfl); intro v1 w1' hown1 hg1 hat1; have hb1' := Below.own HBA.out HEA.out (Nat.le_refl _) hg1; have hcw := (hb1'.cell (p := ⟨b, off + q, none⟩) hbl).trans c0i; have ha1' := hb1'.alloc hb1'.size (.cells #[.int .i64 t] 3 (0, 0)))
        | (refine step_ints (.tmp 23) (.tmp 26) (c := co) (HEB.out.row) (HEB.out.below.size) (HPT.out _ HEB.out.below) ?_ ?_ ?_ ?_ ?_ ?_; (· omega); (· rfl); (· rfl); (· rfl); (· rfl); intro v1 w1' hown1 hg1 hat1; have hl1 := HEB.out.lit.grownAt hg1 HEB.out.lt HEB.out.ne; have hb1' := Below.own HEB.out.below HEB.out.row (Nat.le_refl _) hg1)
        | (refine step_ints (.tmp 23) (.tmp 26) (c := co) (HEC.out.row) (HEC.out.below.size) (HPT.out _ HEC.out.below) ?_ ?_ ?_ ?_ ?_ ?_; (· omega); (· rfl); (· rfl); (· rfl); (· rfl); intro v1 w1' hown1 hg1 hat1; have hl1 := HEC.out.lit.grownAt hg1 HEC.out.lt HEC.out.ne; have hb1' := Below.own HEC.out.below HEC.out.row (Nat.le_refl _) hg1)
        | (refine step_ints (.tmp 27) (.tmp 32) (c := 1) (hown1.alloc _) (ha1'.size) (lit1 rfl t) ?_ ?_ ?_ ?_ ?_ ?_; (· omega); (· rfl); (· rfl); (· rfl); (· rfl); intro v2 w2' hown2 hg2 hat2; rw [List.nil_append, Nat.zero_add] at hown2; have hb2' := Below.own ha1' (hown1.alloc _) (Nat.le_refl _) hg2)
        | (refine step_ints (.tmp 27) (.tmp 32) (c := 1) (hown1) (hb1'.size) (hl1) ?_ ?_ ?_ ?_ ?_ ?_; (· omega); (· rfl); (· rfl); (· rfl); (· rfl); intro v2 w2' hown2 hg2 hat2; rw [List.nil_append, Nat.zero_add] at hown2; have hb2' := Below.own hb1' hown1 (Nat.le_refl _) hg2)
        | (refine step_ints (.tmp 33) (.tmp 36) (c := co - k) (hown2) (hb2'.size) (HPD.out _ hb2') ?_ ?_ ?_ ?_ ?_ ?_; (· omega); (· rfl); (· rfl); (· rfl); (· rfl); intro v3 w3' hown3 hg3 hat3; have hb3' := Below.own hb2' hown2 (Nat.le_refl _) hg3))
      all_goals
        have hlen : k + 1 + (q - k) = q + 1 := by omega
        rw [hlen] at hown3
        have hn : ∃ (q' p' : Nat) (ts : List Int), q' ≤ L.length ∧ (Value.int .i64 ((q : Int) + 1)) = .int .i64 q' ∧ p' ≤ p + q' ∧ Rd w3' rb p' ∧ Only rb w w3' ∧ w3'.ownsRow w.heap.size 3 1 v3 q' (intCells ts) ∧ RInts w3' (some ⟨b, off, none⟩) L.length L :=
          ⟨q + 1, _, _, by omega, by go_num, (by omega : p' + 1 ≤ p + (q + 1)), HR3.out.below hb3', HO3.out.trans (Only.of_below hb3'), own_base hown3 hsw, HL3.out.below hb3' (Nat.le_refl _)⟩
        have HN := Lib.hid hn
        clear hn hown3 hg3 hat3 hb3' hown2 hg2 hat2 hb2' hown1 hg1 hat1
        go_wp2_with fail
        go_roundw
        case rel => exact HN.out
        case measure => simp [intOf]; omega
    · obtain rfl : q = L.length := by omega
      go_wp2_with fail
      refine (pick_any rb p' _ _ HR.out (by omega) (by omega)).mono ?_
      rintro e w3 ⟨v, rfl, hr3, _, _, ho3⟩
      have HOW3 := Lib.hid (own_only HOWN.out ho3 hlt)
      have HO3 := Lib.hid (HO.out.trans ho3)
      have hlt3 := hr3.lt
      have hsw : w.heap.size ≤ w3.heap.size := HO3.out.size
      have HR3 := Lib.hid hr3
      clear ho3 hr3 HOWN HO HR HLST
      by_cases hv : v = 0
      · subst hv
        go_wp2_with fail
        refine (one_any rb (p' + 1) (some ⟨w3.heap.size, 0, none⟩) 3 3 [0, 3, 5] _ (HR3.out.alloc _) (by omega) (lit3 rfl 0 3 5) (by omega) (far_lit hlt3)).mono ?_
        rintro e w5 ⟨x, rfl, _, hr5, ho5⟩
        have hown5 := own_only (HOW3.out.alloc (.cells #[.int .i64 0, .int .i64 3, .int .i64 5] 3)) ho5 hlt
        have hO5 := (HO3.out.alloc (.cells #[.int .i64 0, .int .i64 3, .int .i64 5] 3)).trans ho5
        have hs5 := hO5.size
        clear ho5 HOW3
        go_wp2_with (at_builtin; refine app_ints (.tmp 41) (.tmp 45) (hown5.alloc _) (by simp; omega) (lit1 rfl x) (by omega) rfl rfl rfl rfl ?_; intro v6 w6 hown6 hg6 hat6)
        have hO6 := hO5.own hown5 (Nat.le_refl _) (World.grownBy.trans (World.grownBy_alloc w5 _ _) hg6)
        obtain ⟨B6, c6, rfl, hc6⟩ := own_form2 hown6
        have HF : Hid (OrdersOneN k w rb (.returned (.slice B6 (L.length + 1) c6)) w6) := ⟨B6, L.length + 1, c6, _, rfl, hown6, by omega, hO6, by have := HKK.out; omega⟩
        clear hown6 hg6 hat6 hO6
        go_wp2_with fail
        go_ret
        exact HF.out
      · have hv' : (v == 0) = false := by simpa using hv
        have HF : Hid (OrdersOneN k w rb (.returned (.slice Ao L.length co)) w3) := ⟨Ao, L.length, co, _, rfl, HOW3.out, by omega, HO3.out, by have := HKK.out; omega⟩
        go_wp2_with fail
        go_ret
        exact HF.out

theorem orderOf_any (rb p : Nat) (A : Option Addr) (n c : Nat) (s : List OpV) (w : World) (hr : Rd w rb p) (hp : p ≤ 80000) (hx : ROps w A n s) :
    Calls Try.prog 127 #[.pointer (some ⟨rb, 0, none⟩), .slice A n c] w (OrdersOne w rb) :=
  (orderOf_anyN _ rb p A n c s w hr hp hx rfl).mono fun e w' ⟨B, m, d, ts, h1, h2, h3, h4, _⟩ => ⟨B, m, d, ts, h1, h2, h3, h4⟩

def DrawnO (w0 : World) (e : Ending) (w : World) : Prop :=
  ∃ (A : Option Addr) (n c : Nat) (xs : List OpV) (B : Option Addr) (m d : Nat) (ts : List Int), e = .returned (.tuple #[.slice A n c, .slice B m d]) ∧
    w.ownsRow w0.heap.size 32 3 (.slice A n c) n (opCells xs) ∧ n ≤ 20 ∧ w.ownsRow w0.heap.size 3 1 (.slice B m d) m (intCells ts) ∧ m ≤ 5 ∧ Below w0.heap.size w0 w

end Go.Proofs.Ytkbclcgdkbhgdaa
