/-
  Plain facts on who is against whom: the program's rows are the reference's.
-/
import Derived.Test.YtofcpfabjfhjoaaPlain2
import Derived.Test.YtofcpfabjfhjoaaAg2
namespace Go.Proofs.Ytofcpfabjfhjoaa
set_option linter.unusedVariables false

theorem touchB_take (s : List OpV) (k : Nat) (t kd x : Int) : touchB (s.take k) (s.take k).length t kd x = touchB s k t kd x := by
  unfold touchB
  rw [List.take_length]
theorem wI_bit {s : List OpV} (h : itemsOk s) (t : Int) (x : Nat) : (wI s t).testBit x = touchB s s.length t 1 (x : Int) := wTo_bit s t x h _ (Nat.le_refl _)
theorem wI_take_bit {s : List OpV} (h : itemsOk s) (k : Nat) (t : Int) (x : Nat) : (wI (s.take k) t).testBit x = touchB s k t 1 (x : Int) := by
  rw [wI_bit (itemsOk_take h k), touchB_take]
theorem gI_eq {s : List OpV} (h : validS s = true) (L : List Int) {k : Nat} {o : OpV} (ho : s[k]? = some o) : gI s L k o = gS s L k o := by
  have hi := validS_item h (List.mem_of_getElem? ho)
  obtain ⟨t, kd, x⟩ := o
  obtain ⟨X, rfl⟩ := Int.eq_ofNat_of_zero_le hi.1
  unfold gI gS
  simp only [Int.toNat_natCast]
  rw [wI_take_bit (validS_items h)]
theorem fI_eq {s : List OpV} (h : validS s = true) {o q : OpV} (ho : o ∈ s) (hq : q ∈ s) (hk : q.kind = 2) : fI s o q.tx = fT s o q.tx := by
  have hi := validS_item h ho
  have h1 := firstI_eq ho
  have h2 := commitI_eq h hq hk
  obtain ⟨t, kd, x⟩ := o
  obtain ⟨X, rfl⟩ := Int.eq_ofNat_of_zero_le hi.1
  unfold fI fT
  simp only [Int.toNat_natCast] at *
  rw [wI_bit (validS_items h), h1, h2]
  congr 2
  exact decide_eq_decide.2 (by omega)
theorem agIn_congr {f g : Int → Bool} {t : Int} {list : List Int} (h : ∀ u ∈ list, f u = g u) : ∀ rows, agIn f t list rows = agIn g t list rows := by
  unfold agIn
  induction list with
  | nil => intro rows; rfl
  | cons x r ih =>
    intro rows
    rw [List.foldl_cons, List.foldl_cons, h x (by simp)]
    exact ih (fun u hu => h u (by simp [hu])) _
theorem agTo_congr {g g' : Nat → OpV → Bool} {f f' : OpV → Int → Bool} {list : List Int} {s : List OpV} (hg : ∀ k o, s[k]? = some o → g k o = g' k o) (hf : ∀ o ∈ s, ∀ u ∈ list, f o u = f' o u) (k : Nat) : agTo g f list s k = agTo g' f' list s k := by
  induction k with
  | zero => rfl
  | succ k ih =>
    simp only [agTo]
    cases h : s[k]? with
    | none => simp only [ih]
    | some o =>
      simp only [ih, hg k o h]
      split
      · exact agIn_congr (hf o (List.mem_of_getElem? h)) _
      · rfl
theorem ag_eq {s : List OpV} (h : validS s = true) : agI4 s = agS4 s := by
  unfold agI4 agS4
  rw [surv_eq h]
  refine agTo_congr (fun k o ho => gI_eq h _ ho) (fun o ho u hu => ?_) _
  obtain ⟨q, hq, rfl, hk⟩ := surv_commit h hu
  exact fI_eq h ho hq hk
end Go.Proofs.Ytofcpfabjfhjoaa
