/-
  Rows that a call owns, beside other rows and boxes of its own.
-/
import Derived.Test.YtmookobaljcpbaaRows0
import Derived.Test.YtmookobaljcpbaaGen2
namespace Go.Proofs.Ytmookobaljcpbaa
open Go.RowKit Go.BigFrame
set_option linter.unusedVariables false

theorem RowIs.grown {w w' : World} {g : Nat} {T : TypeId} {vs : List Value} {row : Option Nat} (h : RowIs w g T vs) (hg : w.grownBy w' row) (hne : row ≠ some g) : RowIs w' g T vs :=
  (hg.block g h.lt hne.symm).trans h
theorem own_ne {w : World} {base : Nat} {e : TypeId} {size n : Nat} {v : Value} {xs : List Value} (h : w.ownsRow base e size v n xs) {g : Nat} {T : TypeId} {vs : List Value} (hr : RowIs w g T vs) (hT : T ≠ e) : v.ownBlock ≠ some g := by
  rcases h.2 with ⟨rfl, _⟩ | ⟨g', cap, cur, rfl, _, hh, _⟩
  · simp [Value.ownBlock]
  · intro e'
    simp [Value.ownBlock] at e'
    subst e'
    unfold RowIs at hr
    rw [hr] at hh
    injection hh with hh
    injection hh with _ hh _
    exact hT hh
theorem nb_app {v v' : Value} {b K : Nat} (h : v.ownBlock ≠ some b) (hat : v'.ownBlock = v.ownBlock ∨ v'.ownBlock = some K) (hb : b < K) : v'.ownBlock ≠ some b := by
  rcases hat with e | e
  · rw [e]; exact h
  · rw [e]; intro e'; injection e' with e'; omega
theorem own_lt {w : World} {base : Nat} {e : TypeId} {size n : Nat} {v : Value} {xs : List Value} (h : w.ownsRow base e size v n xs) {b : Nat} (hb : w.heap.size ≤ b) : v.ownBlock ≠ some b := by
  intro e'
  have := (World.ownsRow.lt h b e').2
  omega
theorem own_grown {w w' : World} {base : Nat} {e : TypeId} {size n : Nat} {v : Value} {xs : List Value} (h : w.ownsRow base e size v n xs) {row : Option Nat} (hg : w.grownBy w' row) (hne : ∀ b, row = some b → v.ownBlock ≠ some b) : w'.ownsRow base e size v n xs := by
  refine World.ownsRow.kept h hg ?_
  cases hv : v.ownBlock with
  | none => exact .inl rfl
  | some b =>
    refine .inr (fun e => ?_)
    exact hne b e.symm hv
theorem op_ne_int : (55 : TypeId) ≠ 3 := by decide
theorem ints_ne_op : (28 : TypeId) ≠ 55 := by decide
theorem ints_ne_int : (28 : TypeId) ≠ 3 := by decide

theorem ROps.litH {w : World} {H : Nat} (hH : w.heap.size = H) (o : OpV) (t : TypeId) : ROps (w.alloc (.cells #[.int .i64 o.tx, .int .i64 o.kind, .int .i64 o.item] t)) (some ⟨H, 0, none⟩) 1 [o] := by subst hH; exact ROps.lit1 w o t

/-- A call hands back operations and integers, in new memory. -/
def RetOI (w0 : World) (xs : List OpV) (ys : List Int) (e : Ending) (w : World) : Prop :=
  ∃ A c B d, e = .returned (.tuple #[.slice A xs.length c, .slice B ys.length d]) ∧ xs.length ≤ c ∧ ys.length ≤ d ∧ FreshOps w0 w A xs.length xs ∧ FreshInts w0 w B ys.length ys ∧ Below w0.heap.size w0 w
theorem RetOI.nil {w0 w : World} (h : Below w0.heap.size w0 w) : RetOI w0 [] [] (.returned (.tuple #[.slice none 0 0, .slice none 0 0])) w :=
  ⟨none, 0, none, 0, rfl, Nat.le_refl _, Nat.le_refl _, FreshOps.none_, FreshInts.none_, h⟩
theorem RetOI.mk {w0 w : World} {xs : List OpV} {ys : List Int} {A B : Option Addr} {n m c d : Nat} (hn : xs.length = n) (hm : ys.length = m) (hc : n ≤ c) (hd : m ≤ d) (h1 : FreshOps w0 w A n xs) (h2 : FreshInts w0 w B m ys) (hb : Below w0.heap.size w0 w) :
    RetOI w0 xs ys (.returned (.tuple #[.slice A n c, .slice B m d])) w := by
  subst hn; subst hm
  exact ⟨A, c, B, d, rfl, hc, hd, h1, h2, hb⟩
theorem RetOI.later {w0 w1 : World} {xs : List OpV} {ys : List Int} {e : Ending} {w : World} (hb : Below w0.heap.size w0 w1) (h : RetOI w1 xs ys e w) : RetOI w0 xs ys e w := by
  obtain ⟨A, c, B, d, rfl, hc, hd, ⟨a1, a2⟩, ⟨b1, b2⟩, hb'⟩ := h
  have hs := hb.size
  exact ⟨A, c, B, d, rfl, hc, hd, ⟨a1, fun ad had => by obtain ⟨b, cur, h3, h4, h5⟩ := a2 ad had; exact ⟨b, cur, h3, by omega, h5⟩⟩,
    ⟨b1, fun ad had => by obtain ⟨b, cur, h3, h4, h5⟩ := b2 ad had; exact ⟨b, cur, h3, by omega, h5⟩⟩, hb.trans (hb'.mono hs)⟩
end Go.Proofs.Ytmookobaljcpbaa
