/-
  Slices of strings: what they read as, rows of the call's own that grow.
-/
import Derived.Test.YtddkjbibjjehjaaDoorApp
import Derived.Test.YtddkjbibjjehjaaDoorRows0
import Derived.Test.YtddkjbibjjehjaaDoorTxP0
import Derived.Lib.Strings
namespace Go.Proofs.YtddkjbibjjehjaaDoor
open Go.RowKit Go.BigFrame
set_option linter.unusedVariables false

abbrev strV (x : List UInt8) : Value := .string ⟨⟨x⟩⟩
def strCells (xs : List (List UInt8)) : List Value := xs.map strV
theorem strInfo : (Tryd.prog.info? 9).map (fun i => (i.zero, i.size, i.bytes)) = some (some (.string ByteArray.empty), 1, 16) := by kernel_rfl
/-- The slice reads as these strings. -/
def RStrs (w : World) (A : Option Addr) (n : Nat) (xs : List (List UInt8)) : Prop :=
  xs.length = n ∧ n ≤ 1099511627776 ∧ (0 < n → ∃ b off, A = some ⟨b, off, none⟩ ∧ b < w.heap.size ∧ ∀ i x, xs[i]? = some x → w.cell? ⟨b, off + i, none⟩ = some (strV x))
theorem RStrs.nil {w : World} {A : Option Addr} : RStrs w A 0 [] := ⟨rfl, by omega, fun h => absurd h (by omega)⟩
theorem RStrs.below {w w' : World} {A : Option Addr} {n B : Nat} {xs : List (List UInt8)} (h : RStrs w A n xs) (hb : Below B w w') (hB : w.heap.size ≤ B) : RStrs w' A n xs := by
  refine ⟨h.1, h.2.1, fun h0 => ?_⟩
  obtain ⟨b, off, hA, hlt, hc⟩ := h.2.2 h0
  exact ⟨b, off, hA, Nat.lt_of_lt_of_le hlt hb.size, fun i x hx => (hb.cell (p := ⟨b, _, none⟩) (by simp; omega)).trans (hc i x hx)⟩
theorem RStrs.at_ {w : World} {A : Option Addr} {n k : Nat} {xs : List (List UInt8)} (h : RStrs w A n xs) (hk : k < n) : ∃ b off x, A = some ⟨b, off, none⟩ ∧ b < w.heap.size ∧ xs[k]? = some x ∧ w.cell? ⟨b, off + k, none⟩ = some (strV x) := by
  obtain ⟨b, off, hA, hlt, hc⟩ := h.2.2 (by omega)
  have e : xs[k]? = some (xs[k]'(by rw [h.1]; exact hk)) := List.getElem?_eq_getElem _
  exact ⟨b, off, _, hA, hlt, e, hc k _ e⟩
theorem strCells_one (xs : List (List UInt8)) : ∀ u ∈ strCells xs, u.oneCell' = true := by
  intro u hu
  obtain ⟨x, _, rfl⟩ := List.mem_map.1 hu
  rfl
theorem RStrs.src {w : World} {A : Option Addr} {m : Nat} {ys : List (List UInt8)} (h : RStrs w A m ys) : Src w 1 A m (strCells ys) := by
  obtain ⟨h1, h2, h3⟩ := h
  refine ⟨by simp [strCells, h1], strCells_one ys, fun hm => ?_⟩
  obtain ⟨b, off, hA, _, hc⟩ := h3 hm
  refine ⟨_, hA, fun j u hu => ?_⟩
  rw [addr_add]
  simp only [strCells, List.getElem?_map, Option.map_eq_some_iff] at hu
  obtain ⟨x, hx, rfl⟩ := hu
  exact hc j x hx
theorem RStrs.of_own {w : World} {base n c : Nat} {A : Option Addr} {xs : List (List UInt8)} (h : w.ownsRow base 9 1 (.slice A n c) n (strCells xs)) (hn : n ≤ 1099511627776) : RStrs w A n xs := by
  have hl := h.1
  simp [strCells] at hl
  refine ⟨by omega, hn, fun h0 => ?_⟩
  rcases h.2 with ⟨h1, h2⟩ | ⟨g, cap, cur, h1, h2, h3, h4, h5, h6, h7⟩
  · omega
  · injection h1 with hA _ _
    subst hA
    refine ⟨g, 0, rfl, lt_of_block h3, fun i x hx => ?_⟩
    have := h.cells (g := g) rfl i (strV x) (by simp [strCells, hx])
    unfold Addr.add at this
    split at this
    · subst_vars; simpa using this
    · simpa using this
/-- One string as a literal. -/
theorem strLit1 {w : World} {H : Nat} (hH : w.heap.size = H) {s : ByteArray} {x : List UInt8} (hs : s = ⟨⟨x⟩⟩) : RStrs (w.alloc (.cells #[.string s] 9)) (some ⟨H, 0, none⟩) 1 [x] := by
  subst hH; subst hs
  refine ⟨rfl, by omega, fun _ => ⟨w.heap.size, 0, rfl, by simp, fun i y hy => ?_⟩⟩
  match i, hy with
  | 0, hy =>
    simp at hy; subst hy
    exact cell_of_row _ _ _ _ _ (0, 0) (heap_alloc_new w _)
theorem cut_str (l : List UInt8) (a b : Nat) : (ByteArray.extract ⟨⟨l⟩⟩ a b) = ⟨⟨(l.drop a).take (b - a)⟩⟩ := Lib.extract_eq _ _ _
section
variable {w : World} {ops : Array Oper} {rest : List Oper} {o : Oper} {a : Act} {Q : Exit → Act → World → Prop}
/-- append of strings. -/
theorem app_strs (s x : Operand) {base : Nat} {v : Value} {n : Nat} {xs : List (List UInt8)} (hown : w.ownsRow base 9 1 v n (strCells xs)) (hbase : base ≤ w.heap.size)
    {A : Option Addr} {m c : Nat} {ys : List (List UInt8)} (hr : RStrs w A m ys) (hn : n + m ≤ 1099511627776)
    (hgd : o.guard = none) (ho : o.op = .call { callee := .builtin .append, args := #[s, x], argTypes := #[46, 46] }) (hs : a.eval s = v) (hx : a.eval x = .slice A m c)
    (h : ∀ v' w', w'.ownsRow base 9 1 v' (n + m) (strCells (xs ++ ys)) → w.grownBy w' v.ownBlock → (v'.ownBlock = v.ownBlock ∨ v'.ownBlock = some w.heap.size) → wpList Tryd.prog ops Q rest (a.put o.dst v') w') : wpList Tryd.prog ops Q (o :: rest) a w := by
  obtain ⟨i0, hi, hz0, hz1, hz2⟩ := info_parts strInfo
  have hm := hr.2.1
  refine wpList_app hgd s x _ ho base _ i0 _ 1 16 Tryd.underlying46 hi hz0 hz1 hz2 rfl (by decide) v n _ hs hown A m c _ hx hr.src (by simp only [maxLen]; omega) (by omega) hbase ?_
  intro v' w' h1 h2 h3
  have e : strCells xs ++ strCells ys = strCells (xs ++ ys) := by simp [strCells]
  rw [e] at h1
  exact h v' w' h1 h2 h3
end
/-- The call hands back these strings and changes nothing that lay. -/
def RetStrs (w0 : World) (xs : List (List UInt8)) (e : Ending) (w : World) : Prop :=
  ∃ A c, e = .returned (.slice A xs.length c) ∧ xs.length ≤ c ∧ RStrs w A xs.length xs ∧ (∀ ad, A = some ad → w0.heap.size ≤ ad.block) ∧ Below w0.heap.size w0 w
theorem own_from {w : World} {base n c : Nat} {e : TypeId} {size : Nat} {A : Option Addr} {xs : List Value} (h : w.ownsRow base e size (.slice A n c) n xs) : ∀ ad, A = some ad → base ≤ ad.block := by
  intro ad had
  have := World.ownsRow.lt h ad.block (by rw [had]; rfl)
  exact this.1
theorem RetStrs.mk {w0 w : World} {xs : List (List UInt8)} {A : Option Addr} {n c : Nat} (hn : xs.length = n) (hc : n ≤ c) (h1 : RStrs w A n xs) (hA : ∀ ad, A = some ad → w0.heap.size ≤ ad.block) (hb : Below w0.heap.size w0 w) : RetStrs w0 xs (.returned (.slice A n c)) w := by
  subst hn
  exact ⟨A, c, rfl, hc, h1, hA, hb⟩
theorem RStrs.grown {w w' : World} {A : Option Addr} {n : Nat} {row : Option Nat} {xs : List (List UInt8)} (h : RStrs w A n xs) (hg : w.grownBy w' row) (hne : ∀ ad, A = some ad → row ≠ some ad.block) : RStrs w' A n xs := by
  refine ⟨h.1, h.2.1, fun h0 => ?_⟩
  obtain ⟨b, off, hA, hlt, hc⟩ := h.2.2 h0
  have hk : w'.heap[b]? = w.heap[b]? := hg.block b hlt (fun e => hne _ hA e.symm)
  exact ⟨b, off, hA, Nat.lt_of_lt_of_le hlt (World.grownBy.size hg), fun i x hx => (World.cell?_of_block (w := w) (a := ⟨b, off + i, none⟩) hk).trans (hc i x hx)⟩
theorem own_lenStrs {w : World} {base n : Nat} {v : Value} {xs : List (List UInt8)} (h : w.ownsRow base 9 1 v n (strCells xs)) : xs.length = n := by
  have := h.1
  simpa [strCells] using this
end Go.Proofs.YtddkjbibjjehjaaDoor
