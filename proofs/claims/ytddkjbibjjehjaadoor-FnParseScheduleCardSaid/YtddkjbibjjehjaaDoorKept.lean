/-
  What the program keeps of a schedule: kept, txsOf, opsOf, committedOf and their exported faces.
-/
import Derived.Test.YtddkjbibjjehjaaDoorFunc
namespace Go.Proofs.YtddkjbibjjehjaaDoor
open Go.RowKit Go.BigFrame
set_option linter.unusedVariables false

/-- A slice of operations that lies in memory made since w0, from its block's head on, free to be written. -/
def FreshOps (w0 w : World) (A : Option Addr) (n : Nat) (xs : List OpV) : Prop :=
  ROps w A n xs ∧ ∀ ad, A = some ad → ∃ b cur, ad = ⟨b, 0, none⟩ ∧ w0.heap.size ≤ b ∧ w.heap[b]? = some (.cells cur 38 (0, 0)) ∧ n * 3 ≤ cur.size
def FreshInts (w0 w : World) (A : Option Addr) (n : Nat) (xs : List Int) : Prop :=
  RInts w A n xs ∧ ∀ ad, A = some ad → ∃ b cur, ad = ⟨b, 0, none⟩ ∧ w0.heap.size ≤ b ∧ w.heap[b]? = some (.cells cur 3 (0, 0)) ∧ n ≤ cur.size
/-- The call hands back these operations in new memory and changes nothing. -/
def RetOps (w0 : World) (xs : List OpV) (e : Ending) (w : World) : Prop :=
  ∃ A c, e = .returned (.slice A xs.length c) ∧ xs.length ≤ c ∧ FreshOps w0 w A xs.length xs ∧ Below w0.heap.size w0 w
def RetInts (w0 : World) (xs : List Int) (e : Ending) (w : World) : Prop :=
  ∃ A c, e = .returned (.slice A xs.length c) ∧ xs.length ≤ c ∧ FreshInts w0 w A xs.length xs ∧ Below w0.heap.size w0 w

theorem FreshOps.none_ {w0 w : World} : FreshOps w0 w none 0 [] := ⟨ROps.nil, fun ad h => by cases h⟩
theorem FreshInts.none_ {w0 w : World} : FreshInts w0 w none 0 [] := ⟨RInts.nil, fun ad h => by cases h⟩
theorem RetOps.nil {w0 w : World} (h : Below w0.heap.size w0 w) : RetOps w0 [] (.returned (.slice none 0 0)) w := ⟨none, 0, rfl, Nat.le_refl _, FreshOps.none_, h⟩
theorem RetInts.nil {w0 w : World} (h : Below w0.heap.size w0 w) : RetInts w0 [] (.returned (.slice none 0 0)) w := ⟨none, 0, rfl, Nat.le_refl _, FreshInts.none_, h⟩

theorem FreshOps.of_own {w0 w : World} {base n c : Nat} {A : Option Addr} {xs : List OpV} (h : w.ownsRow base 38 3 (.slice A n c) n (opCells xs)) (hb : w0.heap.size ≤ base) (hn : n ≤ 1099511627776) : FreshOps w0 w A n xs := by
  refine ⟨ROps.of_own h hn, fun ad had => ?_⟩
  subst had
  rcases h.2 with ⟨h1, h2⟩ | ⟨g, cap, cur, h1, h2, h3, h4, h5, h6, h7⟩
  · cases h1
  · injection h1 with ha _ hc
    injection ha with ha
    subst ha
    exact ⟨g, cur, rfl, by omega, h3, by rw [h6]; omega⟩
theorem FreshInts.of_own {w0 w : World} {base n c : Nat} {A : Option Addr} {xs : List Int} (h : w.ownsRow base 3 1 (.slice A n c) n (intCells xs)) (hb : w0.heap.size ≤ base) (hn : n ≤ 1099511627776) : FreshInts w0 w A n xs := by
  refine ⟨RInts.of_own h hn, fun ad had => ?_⟩
  subst had
  rcases h.2 with ⟨h1, h2⟩ | ⟨g, cap, cur, h1, h2, h3, h4, h5, h6, h7⟩
  · cases h1
  · injection h1 with ha _ hc
    injection ha with ha
    subst ha
    exact ⟨g, cur, rfl, by omega, h3, by rw [h6]; omega⟩
theorem RetOps.mk {w0 w : World} {xs : List OpV} {A : Option Addr} {n c : Nat} (hn : xs.length = n) (hc : n ≤ c) (h : FreshOps w0 w A n xs) (hb : Below w0.heap.size w0 w) : RetOps w0 xs (.returned (.slice A n c)) w := by
  subst hn; exact ⟨A, c, rfl, hc, h, hb⟩
theorem RetInts.mk {w0 w : World} {xs : List Int} {A : Option Addr} {n c : Nat} (hn : xs.length = n) (hc : n ≤ c) (h : FreshInts w0 w A n xs) (hb : Below w0.heap.size w0 w) : RetInts w0 xs (.returned (.slice A n c)) w := by
  subst hn; exact ⟨A, c, rfl, hc, h, hb⟩
theorem own_below {w w' : World} {base : Nat} {e : TypeId} {size n : Nat} {v : Value} {xs : List Value} (h : w.ownsRow base e size v n xs) (hb : Below w.heap.size w w') : w'.ownsRow base e size v n xs :=
  World.ownsRow.kept h (row := none) ⟨hb.os, hb.tape, hb.output, hb.size, fun k hk _ => hb.block k hk⟩ (by cases v.ownBlock <;> simp)
theorem Below.own {w0 w w' : World} {base : Nat} {e : TypeId} {size n : Nat} {v : Value} {xs : List Value} (h : Below w0.heap.size w0 w) (hown : w.ownsRow base e size v n xs) (hb : w0.heap.size ≤ base) (hg : w.grownBy w' v.ownBlock) : Below w0.heap.size w0 w' :=
  h.grown hg h.size fun k hk => Nat.le_trans hb (World.ownsRow.lt hown k hk).1
theorem own_lenOps {w : World} {base n : Nat} {e : TypeId} {v : Value} {xs : List OpV} (h : w.ownsRow base e 3 v n (opCells xs)) : xs.length = n := by
  have := h.1; rw [length_opCells] at this; omega
theorem own_lenInts {w : World} {base n : Nat} {e : TypeId} {v : Value} {xs : List Int} (h : w.ownsRow base e 1 v n (intCells xs)) : xs.length = n := by
  have := h.1; simp only [intCells, List.length_map] at this; omega
theorem own_form2 {w : World} {base : Nat} {e : TypeId} {size n : Nat} {v : Value} {xs : List Value} (h : w.ownsRow base e size v n xs) : ∃ A c, v = .slice A n c ∧ n ≤ c := by
  rcases h.2 with ⟨h1, h2⟩ | ⟨g, cap, cur, h1, _, _, h4, _⟩
  · exact ⟨none, 0, by rw [h1, h2], by omega⟩
  · exact ⟨_, _, h1, h4⟩
theorem take_snoc {α : Type} {s : List α} {k : Nat} {o : α} (h : s[k]? = some o) : s.take (k + 1) = s.take k ++ [o] := by
  rw [List.take_add_one, h]; rfl

end Go.Proofs.YtddkjbibjjehjaaDoor
