/-
  PivotOf of the program and of the reference.
-/
import Derived.Test.YtofcpfabjfhjoaaPlain3
namespace Go.Proofs.Ytofcpfabjfhjoaa
open Go.RowKit Go.BigFrame
set_option linter.unusedVariables false

def ovI (s : List OpV) (t u : Int) : Bool := decide (firstI s t < commitI s u) && decide (firstI s u < commitI s t)
def ovS (s : List OpV) (t u : Int) : Bool := decide (stampN s t < commitN s u) && decide (stampN s u < commitN s t)

set_option maxHeartbeats 1000000 in
theorem PivotOf1_any (t u : Int) (A : Option Addr) (n c b : Nat) (s : List OpV) (w : World) (hc : w.cell? ⟨b, 0, none⟩ = some (.slice A n c)) (hx : ROps w A n s) :
    Calls Try.prog 83 #[.int .i64 t, .int .i64 u, .pointer (some ⟨b, 0, none⟩)] w fun e w' => e = .returned (.bool (ovI s t u)) ∧ Below w.heap.size w w' := by
  have L := Later.cell hc
  have hC : ∀ (x : Int) (v : Later w), Calls Try.prog 85 #[.slice A n c, .int .i64 x] v.1 fun e w' => e = .returned (.int .i64 (commitI s x)) ∧ Below v.1.heap.size v.1 w' := fun x v => commitOf_any A n c s x v.1 (hx.later v)
  have hF : ∀ (x : Int) (v : Later w), Calls Try.prog 84 #[.slice A n c, .int .i64 x] v.1 fun e w' => e = .returned (.int .i64 (firstI s x)) ∧ Below v.1.heap.size v.1 w' := fun x v => firstOf_any A n c s x v.1 (hx.later v)
  have HC := Lib.hid hC
  have HF := Lib.hid hF
  have hres : Hid (ovI s t u = (decide (firstI s t < commitI s u) && decide (firstI s u < commitI s t))) := rfl
  clear hC hF hx hc
  cases h1 : decide (firstI s t < commitI s u)
  · have H1 := Lib.hid h1
    have h1' := h1
    clear h1
    go_enter Try.func83, Try.ntmps83
    go_wp2_with fail
    refine region_later (by kernel_rfl) (by kernel_rfl) ?_
    repeat (go_big_quiet_step ((first | (go_at_call 85; exact later_call _ (HC.out _ _)) | (go_at_call 84; exact later_call _ (HF.out _ _)))))
    refine wpQuiet_nil ?_
    rintro _ ⟨v, rfl⟩
    go_wp2_with fail
    go_ret
    exact ⟨ret_bool (by rw [hres.out, H1.out]; rfl), v.2⟩
  · cases h2 : decide (firstI s u < commitI s t)
    all_goals
      have H1 := Lib.hid h1
      have H2 := Lib.hid h2
      have h1' := h1
      have h2' := h2
      clear h1 h2
      go_enter Try.func83, Try.ntmps83
      go_wp2_with fail
      refine region_later (by kernel_rfl) (by kernel_rfl) ?_
      repeat (go_big_quiet_step ((first | (go_at_call 85; exact later_call _ (HC.out _ _)) | (go_at_call 84; exact later_call _ (HF.out _ _)))))
      refine wpQuiet_nil ?_
      rintro _ ⟨v, rfl⟩
      go_wp2_with fail
      go_ret
      exact ⟨ret_bool (by rw [hres.out, H1.out, H2.out]; rfl), v.2⟩
theorem runs_PivotOf1 : Runs 83 := runs_of Try.func83 (by kernel_rfl) rfl

set_option maxHeartbeats 1000000 in
theorem overlap_any (A : Option Addr) (n c : Nat) (s : List OpV) (t u : Int) (w : World) (hx : ROps w A n s) :
    Calls Try.prog 80 #[.slice A n c, .int .i64 t, .int .i64 u] w fun e w' => e = .returned (.bool (ovS s t u)) ∧ Below w.heap.size w w' := by
  have HX := Lib.hid hx
  have hres : Hid (ovS s t u = (decide (stampN s t < commitN s u) && decide (stampN s u < commitN s t))) := rfl
  clear hx
  obtain ⟨a1, ha1⟩ : ∃ z, stampN s t = z := ⟨_, rfl⟩
  obtain ⟨a2, ha2⟩ : ∃ z, commitN s u = z := ⟨_, rfl⟩
  obtain ⟨a3, ha3⟩ : ∃ z, stampN s u = z := ⟨_, rfl⟩
  obtain ⟨a4, ha4⟩ : ∃ z, commitN s t = z := ⟨_, rfl⟩
  rw [ha1, ha2, ha3, ha4] at hres
  have H1 := Lib.hid ha1
  have H2 := Lib.hid ha2
  have H3 := Lib.hid ha3
  have H4 := Lib.hid ha4
  clear ha1 ha2 ha3 ha4
  go_enter Try.func80, Try.ntmps80
  go_wp2_with fail
  refine (stampOf_any A n c s t w HX.out).mono ?_
  rw [H1.out]
  rintro e w1 ⟨rfl, hb1⟩
  go_wp2_with fail
  refine (commitAt_any A n c s u w1 (HX.out.below hb1 (Nat.le_refl _))).mono ?_
  rw [H2.out]
  rintro e w2 ⟨rfl, hb2⟩
  have hb12 := hb1.trans (hb2.mono hb1.size)
  clear hb2
  by_cases h1 : a1 < a2
  · have h1' : decide ((a1 : Int) < (a2 : Int)) = true := by simpa using h1
    go_wp2_with fail
    refine (stampOf_any A n c s u w2 (HX.out.below hb12 (Nat.le_refl _))).mono ?_
    rw [H3.out]
    rintro e w3 ⟨rfl, hb3⟩
    have hb13 := hb12.trans (hb3.mono hb12.size)
    clear hb3
    go_wp2_with fail
    refine (commitAt_any A n c s t w3 (HX.out.below hb13 (Nat.le_refl _))).mono ?_
    rw [H4.out]
    rintro e w4 ⟨rfl, hb4⟩
    have hb14 := hb13.trans (hb4.mono hb13.size)
    clear hb4
    by_cases h2 : a3 < a4
    · have h2' : decide ((a3 : Int) < (a4 : Int)) = true := by simpa using h2
      go_wp2_with fail
      go_ret
      exact ⟨ret_bool (by rw [hres.out]; simp [h1, h2]), hb14⟩
    · have h2' : decide ((a3 : Int) < (a4 : Int)) = false := by simpa using h2
      go_wp2_with fail
      go_ret
      exact ⟨ret_bool (by rw [hres.out]; simp [h1, h2]), hb14⟩
  · have h1' : decide ((a1 : Int) < (a2 : Int)) = false := by simpa using h1
    go_wp2_with fail
    go_ret
    exact ⟨ret_bool (by rw [hres.out]; simp [h1]), hb12⟩

/-- Three who are against each other. -/
def pivF (rows : List Nat) (ov : Int → Int → Bool) (t u v : Nat) : Bool := (rows.getD t 0).testBit u && (rows.getD u 0).testBit v && ov t u && ov u v
def pivX (rows : List Nat) (ov : Int → Int → Bool) (x : Nat) : Bool := pivF rows ov (x / 16) (x / 4 % 4) (x % 4)
def pivR (rows : List Nat) (ov : Int → Int → Bool) : Option Nat := (List.range 64).find? (pivX rows ov)
def pivL : Option Nat → List Int
  | some x => [((x / 16 : Nat) : Int), ((x / 4 % 4 : Nat) : Int), ((x % 4 : Nat) : Int)]
  | none => []
theorem pivR_hit {rows : List Nat} {ov : Int → Int → Bool} {x : Nat} (hx : x < 64) (h : pivX rows ov x = true) (hno : ∀ y, y < x → pivX rows ov y = false) : pivR rows ov = some x := by
  unfold pivR
  rw [List.find?_eq_some_iff_getElem]
  exact ⟨h, x, by simpa using hx, by simp, fun j hj => by simp [hno j hj]⟩
theorem pivR_none {rows : List Nat} {ov : Int → Int → Bool} (hno : ∀ y, y < 64 → pivX rows ov y = false) : pivR rows ov = none := by
  unfold pivR
  rw [List.find?_eq_none]
  intro x hx
  rw [hno x (List.mem_range.1 hx)]; simp
theorem pivX_at {rows : List Nat} {ov : Int → Int → Bool} {t u v : Nat} (hu : u < 4) (hv : v < 4) : pivX rows ov (16 * t + 4 * u + v) = pivF rows ov t u v := by
  unfold pivX
  rw [show (16 * t + 4 * u + v) / 16 = t by omega, show (16 * t + 4 * u + v) / 4 % 4 = u by omega, show (16 * t + 4 * u + v) % 4 = v by omega]
/-- The call hands back these integers in new memory and a bool, and changes nothing. -/
def RetIntsB (w0 : World) (xs : List Int) (b : Bool) (e : Ending) (w : World) : Prop :=
  ∃ A c, e = .returned (.tuple #[.slice A xs.length c, .bool b]) ∧ xs.length ≤ c ∧ FreshInts w0 w A xs.length xs ∧ Below w0.heap.size w0 w
theorem RetIntsB.nil {w0 w : World} {b : Bool} (h : Below w0.heap.size w0 w) : RetIntsB w0 [] b (.returned (.tuple #[.slice none 0 0, .bool b])) w := ⟨none, 0, rfl, Nat.le_refl _, FreshInts.none_, h⟩
theorem RetIntsB.lit {w0 w : World} {H : Nat} (hH : w.heap.size = H) (h : Below w0.heap.size w0 w) (xs : List Int) (hl : xs.length ≤ 64) {b : Bool} : RetIntsB w0 xs b (.returned (.tuple #[.slice (some ⟨H, 0, none⟩) xs.length xs.length, .bool b])) (w.alloc (.cells (intCells xs).toArray 3)) := by
  subst hH
  refine ⟨_, _, rfl, Nat.le_refl _, ⟨RInts.lit w xs _ (by omega), fun ad had => ?_⟩, h.alloc h.size _⟩
  injection had with had
  subst had
  exact ⟨_, _, rfl, h.size, heap_alloc_new w _, by simp [intCells]⟩
end Go.Proofs.Ytofcpfabjfhjoaa
