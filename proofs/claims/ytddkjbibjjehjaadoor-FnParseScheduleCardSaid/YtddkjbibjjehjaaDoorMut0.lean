/-
  The generators change a text.
-/
import Derived.Test.YtddkjbibjjehjaaDoorOf0
import Derived.Test.YtddkjbibjjehjaaDoorReg
import Derived.Test.YtddkjbibjjehjaaDoorGen
import Derived.Lib.Strings
import Derived.IntWalk
namespace Go.Proofs.YtddkjbibjjehjaaDoor
open Go.RowKit Go.BigFrame
set_option linter.unusedVariables false

def nine : List ByteArray := [⟨#[48]⟩, ⟨#[49]⟩, ⟨#[120]⟩, ⟨#[44]⟩, ⟨#[99]⟩, ⟨#[114]⟩, ⟨#[119]⟩, ⟨#[52]⟩, ⟨#[32]⟩]
def fiveS : List ByteArray := [⟨#[44, 99, 48]⟩, ⟨#[44]⟩, ⟨#[32]⟩, ⟨#[44, 119, 49, 120]⟩, ⟨#[120]⟩]
theorem nine_one : ∀ b ∈ nine, b.size ≤ 4 := by decide
theorem five_four : ∀ b ∈ fiveS, b.size ≤ 4 := by decide
def Mutd (rb p : Nat) (s : ByteArray) (w : World) (e : Ending) (w' : World) : Prop :=
  ∃ (t : ByteArray) (q : Nat), e = .returned (.string t) ∧ t.size ≤ s.size + 4 ∧ q ≤ p + 3 ∧ Rd w' rb q ∧ Only rb w w'
theorem ext_le (s : ByteArray) (a b : Nat) : (s.extract a b).size ≤ s.size := by
  rw [ByteArray.size_extract]; omega
theorem litS {w : World} (xs : List ByteArray) : RowIs (w.alloc (.cells (xs.map Value.string).toArray 9)) w.heap.size 9 (xs.map Value.string) := heap_alloc_new w _
set_option maxRecDepth 100000 in
set_option maxHeartbeats 2000000 in
theorem mutate_any (rb p : Nat) (s : ByteArray) (w : World) (h : Rd w rb p) (hp : p ≤ 90000) (hs : s.size ≤ 1000000) :
    Calls Tryd.prog 32 #[.pointer (some ⟨rb, 0, none⟩), .string s] w (Mutd rb p s w) := by
  obtain ⟨n, hn⟩ : ∃ n, s.size = n := ⟨_, rfl⟩
  have HN := Lib.hid hn
  unfold Mutd
  rw [hn] at hs
  go_enter Tryd.func32, Tryd.ntmps32
  go_wp2_with fail
  refine (pick_any rb p _ w h (by omega) (by omega)).mono ?_
  rintro e w1 ⟨v, rfl, hr1, _, hv, ho1⟩
  obtain ⟨hv0, hv1⟩ := hv (by omega)
  obtain ⟨k, rfl⟩ := Int.eq_ofNat_of_zero_le hv0
  go_wp2_with fail
  refine (pick_any rb (p + 1) 5 w1 hr1 (by omega) (by omega)).mono ?_
  rintro e w2 ⟨sw, rfl, hr2, _, hsw, ho2⟩
  obtain ⟨hs0, hs1⟩ := hsw (by omega)
  have hr2' : Rd w2 rb (p + 1 + 1) := hr2
  obtain ⟨q, hq⟩ : ∃ q, q = p + 1 + 1 := ⟨_, rfl⟩
  rw [← hq] at hr2'
  have HO2 : Hid (Only rb w w2) := ho1.trans ho2
  have HR2 := Lib.hid hr2'
  have hqp : q ≤ p + 2 := by omega
  have hqb : q ≤ 100000 := by omega
  have hX := ext_le s 0 k
  have hY := ext_le s (k + 1) n
  have k0 : (0 : Int) ≤ (k : Int) := by omega
  clear h hr1 ho1 hr2 ho2 hr2' hv hsw hv0 hq
  have hfin0 : Hid (∀ t : ByteArray, t.size ≤ n → (∃ (t' : ByteArray) (q' : Nat), Ending.returned (Value.string t) = .returned (.string t') ∧ t'.size ≤ s.size + 4 ∧ q' ≤ p + 3 ∧ Rd w2 rb q' ∧ Only rb w w2)) := fun t ht => ⟨t, q, rfl, by rw [HN.out]; omega, by omega, HR2.out, HO2.out⟩
  have HF5 : Hid (Calls Tryd.prog 48 #[.pointer (some ⟨rb, 0, none⟩), .slice (some ⟨w2.heap.size, 0, none⟩) 5 5] (w2.alloc (.cells (fiveS.map Value.string).toArray 9)) fun e w' => ∃ b ∈ fiveS, e = .returned (.string b) ∧ Rd w' rb (q + 1) ∧ Only rb (w2.alloc (.cells (fiveS.map Value.string).toArray 9)) w') :=
    of_any rb q w2.heap.size fiveS 9 _ (HR2.out.alloc _) (by omega) (litS fiveS) (by decide) (by decide) (by have := HR2.out.lt; omega)
  unfold fiveS at HF5
  simp only [List.map_cons, List.map_nil] at HF5
  rcases (by omega : sw = 0 ∨ sw = 1 ∨ sw = 2 ∨ sw = 3 ∨ sw = 4) with rfl | rfl | rfl | rfl | rfl
  case inr.inr.inl =>
    have l1 : (k : Int) ≤ (n : Int) := by omega
    go_wp2_with fail
    go_ret
    exact hfin0.out _ (by rw [← HN.out]; exact hX)
  case inr.inr.inr.inl =>
    go_wp2_with (go_at_call 48; refine HF5.out.mono ?_; rintro e w4 ⟨b, hb, rfl, hr4, ho4⟩; have hb4 : b.size ≤ 4 := five_four b hb)
    go_ret
    exact ⟨_, _, rfl, by simp only [ByteArray.size_append]; omega, by omega, hr4, HO2.out.trans (((Only.refl _ _).alloc _).trans ho4)⟩
  case inr.inr.inr.inr =>
    go_wp2_with fail
    go_ret
    exact hfin0.out _ (by rw [HN.out]; exact Nat.le_refl _)
  all_goals
    by_cases hk : k < n
    · have hk1 : (k : Int) < (n : Int) := by omega
      have hk2 : (k : Int) ≤ (n : Int) := by omega
      have hk3 : (k : Int) + 1 ≤ (n : Int) := by omega
      have hk4 : IntKind.i64.wrap ((k : Int) + 1) = (k : Int) + 1 := IntWalk.i64_in _ (by omega)
      have hk5 : ((k : Int) + 1).toNat = k + 1 := by omega
      have hk6 : (0 : Int) ≤ (k : Int) + 1 := by omega
      obtain ⟨X, hXX⟩ : ∃ X, s.extract 0 k = X := ⟨_, rfl⟩
      obtain ⟨Y, hYY⟩ : ∃ Y, s.extract (k + 1) n = Y := ⟨_, rfl⟩
      have hXs : X.size = k := by rw [← hXX, ByteArray.size_extract]; omega
      have hYs : Y.size = n - (k + 1) := by rw [← hYY, ByteArray.size_extract]; omega
      clear hX hY
      go_wp2_with fail
      obtain ⟨wd, hwd⟩ : ∃ wd : World, wd = w2.drew := ⟨_, rfl⟩
      have HWD := Lib.hid hwd
      have HRD : Hid (Rd wd rb q) := by rw [hwd]; exact HR2.out.drewN 1
      have HROW := Lib.hid (litS (w := wd) nine)
      unfold nine at HROW
      simp only [List.map_cons, List.map_nil] at HROW
      have HO3 : Hid (Only rb w wd) := by rw [hwd]; exact HO2.out.drewN 1
      clear hwd HO2
      have HO2 := HO3
      refine wp_region_any (by kernel_rfl) ?_
      change wpAny _ _ _ _ _ _ _ (World.drew _)
      rw [← HWD.out]
      refine wpAny_take (i := 0) (v := ?_) rfl (by kernel_rfl) (by kernel_rfl) (by kernel_rfl) (fun _ _ _ h => h) (Or.inl ⟨by kernel_rfl, ?_⟩) ?_
      rotate_left
      · intro w; go_simp; try with_reducible rfl
      refine wpAny_take (i := 1) (v := ?_) rfl (by kernel_rfl) (by kernel_rfl) (by kernel_rfl) (fun _ _ _ h => h) (Or.inl ⟨by kernel_rfl, ?_⟩) ?_
      rotate_left
      · intro w; go_simp; try with_reducible rfl
      refine wpAny_take (i := 2) (v := ?_) rfl (by kernel_rfl) (by kernel_rfl) (by kernel_rfl) (fun _ _ _ h => h) (Or.inl ⟨by kernel_rfl, ?_⟩) ?_
      rotate_left
      · intro w; go_simp; try with_reducible rfl
      refine wpAny_take (i := 3) (v := ?_) rfl (by kernel_rfl) (by kernel_rfl) (by kernel_rfl) (fun _ _ _ h => h) (Or.inl ⟨by kernel_rfl, ?_⟩) ?_
      rotate_left
      · intro w; go_simp; try with_reducible rfl
      refine wpAny_take (i := 7) (v := ?_) rfl (by kernel_rfl) (by kernel_rfl) (by kernel_rfl) (fun _ _ _ h => h) (Or.inl ⟨by kernel_rfl, ?_⟩) ?_
      rotate_left
      · intro w; go_simp; try with_reducible rfl
      refine wpAny_take (i := 8) (v := ?_) rfl (by kernel_rfl) (by kernel_rfl) (by kernel_rfl) (fun _ _ _ h => h) (Or.inl ⟨by kernel_rfl, ?_⟩) ?_
      rotate_left
      · intro w; go_simp; try with_reducible rfl
      refine wpAny_take (i := 9) (v := ?_) rfl (by kernel_rfl) (by kernel_rfl) (by kernel_rfl) (fun _ _ _ h => h) (Or.inl ⟨by kernel_rfl, ?_⟩) ?_
      rotate_left
      · intro w; go_simp; try with_reducible rfl
      refine wpAny_take (i := 10) (v := ?_) rfl (by kernel_rfl) (by kernel_rfl) (by kernel_rfl) (fun _ _ _ h => h) (Or.inl ⟨by kernel_rfl, ?_⟩) ?_
      rotate_left
      · intro w; go_simp; try with_reducible rfl
      refine wpAny_ready (rs := [4]) (by kernel_rfl) (by simp) ?_
      refine AllReady.cons rfl (fun K hK => ?_) AllReady.nil
      go_simp
      try (refine hK _ _ ?_; clear hK K)
      refine wpAny_ready (rs := [5]) (by kernel_rfl) (by simp) ?_
      refine AllReady.cons rfl (fun K hK => ?_) AllReady.nil
      go_simp
      go_wp2_with (go_at_call 48; go_loud (refine (of_any rb q wd.heap.size nine 9 _ (HRD.out.alloc _) (by omega) HROW.out (by decide) (by decide) (by have := HRD.out.lt; omega)).mono ?_; rintro e w4 ⟨b, hb, rfl, hr4, ho4⟩; have hbs := nine_one b hb; have hc1 : ¬ (9223372036854775807 < k + b.size) := (by omega); have hc2 : ¬ (9223372036854775807 < k + b.size + (n - (k + 1))) := (by omega)))
      try (refine hK _ _ ?_; clear hK K)
      refine wpAny_take (i := 6) (v := ?_) rfl (by kernel_rfl) (by kernel_rfl) (by kernel_rfl) (fun _ _ _ h => h) (Or.inl ⟨by kernel_rfl, ?_⟩) ?_
      rotate_left
      · intro w; go_simp; try with_reducible rfl
      refine wpAny_take (i := 11) (v := ?_) rfl (by kernel_rfl) (by kernel_rfl) (by kernel_rfl) (fun _ _ _ h => h) (Or.inl ⟨by kernel_rfl, ?_⟩) ?_
      rotate_left
      · intro w; go_simp; try with_reducible rfl
      refine wpAny_take (i := 12) (v := ?_) rfl (by kernel_rfl) (by kernel_rfl) (by kernel_rfl) (fun _ _ _ h => h) (Or.inl ⟨by kernel_rfl, ?_⟩) ?_
      rotate_left
      · intro w; go_simp; try with_reducible rfl
      refine wpAny_done (by kernel_rfl) ?_ _
      try go_simp
      go_wp2_with fail
      go_ret
      exact ⟨_, _, rfl, by simp only [ByteArray.size_append]; omega, by omega, hr4, HO2.out.trans (((Only.refl _ _).alloc _).trans ho4)⟩
    · have hk1 : ¬ (k : Int) < (n : Int) := by omega
      go_wp2_with fail
      go_ret
      exact hfin0.out _ (by rw [HN.out]; exact Nat.le_refl _)
end Go.Proofs.YtddkjbibjjehjaaDoor
