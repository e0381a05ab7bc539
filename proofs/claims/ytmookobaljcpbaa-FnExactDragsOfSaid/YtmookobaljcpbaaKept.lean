/-
  What the program keeps of a schedule: kept, txsOf, opsOf, committedOf and their exported faces.
-/
import Derived.Test.YtmookobaljcpbaaFunc
namespace Go.Proofs.Ytmookobaljcpbaa
open Go.RowKit Go.BigFrame
set_option linter.unusedVariables false

/-- A slice of operations that lies in memory made since w0, from its block's head on, free to be written. -/
def FreshOps (w0 w : World) (A : Option Addr) (n : Nat) (xs : List OpV) : Prop :=
  ROps w A n xs ∧ ∀ ad, A = some ad → ∃ b cur, ad = ⟨b, 0, none⟩ ∧ w0.heap.size ≤ b ∧ w.heap[b]? = some (.cells cur 55 (0, 0)) ∧ n * 3 ≤ cur.size
def FreshInts (w0 w : World) (A : Option Addr) (n : Nat) (xs : List Int) : Prop :=
  RInts w A n xs ∧ ∀ ad, A = some ad → ∃ b cur, ad = ⟨b, 0, none⟩ ∧ w0.heap.size ≤ b ∧ w.heap[b]? = some (.cells cur 3 (0, 0)) ∧ n ≤ cur.size
/-- The call hands back these operations in new memory and changes nothing. -/
def RetOps (w0 : World) (xs : List OpV) (e : Ending) (w : World) : Prop :=
  ∃ A c, e = .returned (.slice A xs.length c) ∧ xs.length ≤ c ∧ FreshOps w0 w A xs.length xs ∧ Below w0.heap.size w0 w
def RetInts (w0 : World) (xs : List Int) (e : Ending) (w : World) : Prop :=
  ∃ A c, e = .returned (.slice A xs.length c) ∧ xs.length ≤ c ∧ FreshInts w0 w A xs.length xs ∧ Below w0.heap.size w0 w

theorem FreshOps.none_ {w0 w : World} : FreshOps w0 w none 0 [] := ⟨ROps.nil, fun ad h => by cases h⟩
theorem FreshInts.none_ {w0 w : World} : FreshInts w0 w none 0 [] := ⟨RInts.nil, fun ad h => by cases h⟩
theorem RetOps.nil {w0 w : World} (h : Below w0.heap.size w0 w) : RetOps w0 [] (.returned (.slice none 0 0)) w := ⟨none, 0, rfl, Nat.le_refl _, FreshOps.none_, h⟩
theorem RetInts.nil {w0 w : World} (h : Below w0.heap.size w0 w) : RetInts w0 [] (.returned (.slice none 0 0)) w := ⟨none, 0, rfl, Nat.le_refl _, FreshInts.none_, h⟩

theorem FreshOps.of_own {w0 w : World} {base n c : Nat} {A : Option Addr} {xs : List OpV} (h : w.ownsRow base 55 3 (.slice A n c) n (opCells xs)) (hb : w0.heap.size ≤ base) (hn : n ≤ 1099511627776) : FreshOps w0 w A n xs := by
  refine ⟨ROps.of_own h hn, fun ad had => ?_⟩
  subst had
  rcases h.2 with ⟨h1, h2⟩ | ⟨g, cap, cur, h1, h2, h3, h4, h5, h6, h7⟩
  · cases h1
  · injection h1 with ha _ hc
    injection ha with ha
    subst ha
    exact ⟨g, cur, rfl, by omega, h3, by rw [h6]; omega⟩
theorem FreshInts.of_own {w0 w : World} {base n c : Nat} {A : Option Addr} {xs : List Int} (h : w.ownsRow base 3 1 (.slice A n c) n (intCells xs)) (hb : w0.heap.size ≤ base) (hn : n ≤ 1099511627776) : FreshInts w0 w A n xs := by
  refine ⟨RInts.of_own h hn, fun ad had => ?_⟩
  subst had
  rcases h.2 with ⟨h1, h2⟩ | ⟨g, cap, cur, h1, h2, h3, h4, h5, h6, h7⟩
  · cases h1
  · injection h1 with ha _ hc
    injection ha with ha
    subst ha
    exact ⟨g, cur, rfl, by omega, h3, by rw [h6]; omega⟩
theorem RetOps.mk {w0 w : World} {xs : List OpV} {A : Option Addr} {n c : Nat} (hn : xs.length = n) (hc : n ≤ c) (h : FreshOps w0 w A n xs) (hb : Below w0.heap.size w0 w) : RetOps w0 xs (.returned (.slice A n c)) w := by
  subst hn; exact ⟨A, c, rfl, hc, h, hb⟩
theorem RetInts.mk {w0 w : World} {xs : List Int} {A : Option Addr} {n c : Nat} (hn : xs.length = n) (hc : n ≤ c) (h : FreshInts w0 w A n xs) (hb : Below w0.heap.size w0 w) : RetInts w0 xs (.returned (.slice A n c)) w := by
  subst hn; exact ⟨A, c, rfl, hc, h, hb⟩
theorem own_below {w w' : World} {base : Nat} {e : TypeId} {size n : Nat} {v : Value} {xs : List Value} (h : w.ownsRow base e size v n xs) (hb : Below w.heap.size w w') : w'.ownsRow base e size v n xs :=
  World.ownsRow.kept h (row := none) ⟨hb.os, hb.tape, hb.output, hb.size, fun k hk _ => hb.block k hk⟩ (by cases v.ownBlock <;> simp)
theorem Below.own {w0 w w' : World} {base : Nat} {e : TypeId} {size n : Nat} {v : Value} {xs : List Value} (h : Below w0.heap.size w0 w) (hown : w.ownsRow base e size v n xs) (hb : w0.heap.size ≤ base) (hg : w.grownBy w' v.ownBlock) : Below w0.heap.size w0 w' :=
  h.grown hg h.size fun k hk => Nat.le_trans hb (World.ownsRow.lt hown k hk).1
theorem own_lenOps {w : World} {base n : Nat} {e : TypeId} {v : Value} {xs : List OpV} (h : w.ownsRow base e 3 v n (opCells xs)) : xs.length = n := by
  have := h.1; rw [length_opCells] at this; omega
theorem own_lenInts {w : World} {base n : Nat} {e : TypeId} {v : Value} {xs : List Int} (h : w.ownsRow base e 1 v n (intCells xs)) : xs.length = n := by
  have := h.1; simp only [intCells, List.length_map] at this; omega
theorem own_form2 {w : World} {base : Nat} {e : TypeId} {size n : Nat} {v : Value} {xs : List Value} (h : w.ownsRow base e size v n xs) : ∃ A c, v = .slice A n c ∧ n ≤ c := by
  rcases h.2 with ⟨h1, h2⟩ | ⟨g, cap, cur, h1, _, _, h4, _⟩
  · exact ⟨none, 0, by rw [h1, h2], by omega⟩
  · exact ⟨_, _, h1, h4⟩
theorem take_snoc {α : Type} {s : List α} {k : Nat} {o : α} (h : s[k]? = some o) : s.take (k + 1) = s.take k ++ [o] := by
  rw [List.take_add_one, h]; rfl

set_option maxRecDepth 100000 in
set_option maxHeartbeats 1000000 in
theorem kept_any (A : Option Addr) (n c : Nat) (s : List OpV) (F : FuncId) (caps : Array Value) (p : OpV → Bool) (w : World) (hx : ROps w A n s) (hf : ClosOp w F caps s p) :
    Calls Try.prog 88 #[.slice A n c, .func (.func F) #[] caps] w (RetOps w (s.filter p)) := by
  have hn := hx.2.1
  have hl := hx.1
  have HX := Lib.hid hx
  have HF := Lib.hid hf
  clear hx hf
  obtain ⟨i0, hi, hz0, hz1, hz2⟩ := info_parts opInfo
  go_enter Try.func88, Try.ntmps88
  go_wp2_with (at_make; refine wpList_make_own _ rfl _ _ 23 rfl w.heap.size 55 i0 _ 3 Try.underlying23 hi hz0 hz1 .i64 .i64 _ n rfl rfl rfl (by rw [hz2]; omega) (by unfold maxLen; omega) (Nat.le_refl _) ?_; intro w1 hown1 hg1)
  have hb1 : Below w.heap.size w w1 := ⟨hg1.os, hg1.tape, hg1.output, hg1.size, fun k hk => hg1.block k hk (by simp)⟩
  have HST := Lib.hid (And.intro hown1 hb1)
  clear hown1 hb1 hg1 hi hz0 hz1 hz2
  go_loopw [5, 13] (fun ov i wr => ∃ (k m : Nat), k ≤ n ∧ m ≤ k ∧ i = .int .i64 k ∧ Below w.heap.size w wr ∧ wr.ownsRow w.heap.size 55 3 ov m (opCells ((s.take k).filter p))) (fun _ i _ => n - (intOf i).toNat)
  case atStart => exact ⟨0, 0, Nat.zero_le _, Nat.le_refl _, rfl, HST.out.2, by simpa [opCells] using HST.out.1⟩
  case round =>
    clear HST
    obtain ⟨k, m, hk, hmk, rfl, hb, hown⟩ := hrel
    by_cases hlt : k < n
    · obtain ⟨b, off, o, rfl, hbl, ho, c0, c1, c2⟩ := (HX.out.below hb (Nat.le_refl _)).at_ hlt
      have hs := hb.size
      have hcl := HF.out.2 (wr.alloc (.cells #[.int .i64 o.tx, .int .i64 o.kind, .int .i64 o.item] 55)) o (hb.trans ((by (repeat (first | exact Below.refl _ _ | assumption | refine B_alloc ?_ (Nat.le_refl _) _ | refine Below.drew ?_ | refine B_drewN ?_ _ | refine B_after (by assumption) ?_ | (refine B_set ?_ ?_; rotate_left; (first | exact Nat.le_refl _ | (simp; done) | (simp at *; omega))))) : Below wr.heap.size wr _).mono hb.size)) (List.mem_of_getElem? ho)
      have hrun := HF.out.1
      unfold Runs at hrun
      have HT : Hid ((s.take (k + 1)).filter p = (s.take k).filter p ++ if p o = true then [o] else []) := by
        show _ = _
        rw [take_snoc ho, List.filter_append]; simp [List.filter_cons]
      unfold OpV.val at hcl
      have HC := Lib.hid hcl
      clear ho hcl
      obtain ⟨tx, kd, it⟩ := o
      go_wp2_with fail
      refine (HC.out).mono ?_
      rintro e w2 ⟨rfl, hb2⟩
      obtain ⟨bc2, bf2⟩ := bcell hb2
      have hsz : wr.heap.size < w2.heap.size := by (have := hb2.size; (try simp at this); omega)
      have hbw : Below w.heap.size w w2 := hb.trans (((by (repeat (first | exact Below.refl _ _ | assumption | refine B_alloc ?_ (Nat.le_refl _) _ | refine Below.drew ?_ | refine B_drewN ?_ _ | refine B_after (by assumption) ?_ | (refine B_set ?_ ?_; rotate_left; (first | exact Nat.le_refl _ | (simp; done) | (simp at *; omega))))) : Below wr.heap.size wr w2)).mono hb.size)
      have hown2 := own_below (hown.alloc _) hb2
      cases hp : p ⟨tx, kd, it⟩
      · rw [hp] at HT
        go_wp2_with fail
        go_roundw
        case rel => exact ⟨k + 1, m, by omega, by omega, by go_num, hbw, by rw [HT.out]; simpa using hown2⟩
        case measure => simp [intOf]; omega
      · rw [hp] at HT
        go_wp2_with (at_builtin; refine app_ops (.tmp 20) (.tmp 22) (hown2.alloc _) (by simp; omega) (ROps.lit1 _ ⟨_, _, _⟩ _) (by omega) rfl rfl rfl rfl ?_; intro v3 w3 hown3 hg3 hat3)
        have hb3 := Below.own hbw hown2 (Nat.le_refl _) (World.grownBy.trans (World.grownBy_alloc w2 _ _) hg3)
        go_wp2_with fail
        go_roundw
        case rel => exact ⟨k + 1, m + 1, by omega, by omega, by go_num, hb3, by rw [HT.out]; simpa using hown3⟩
        case measure => simp [intOf]; omega
    · obtain ⟨Ao, co, rfl, hmc⟩ := own_form2 hown
      have e : s.take k = s := List.take_of_length_le (by omega)
      rw [e] at hown
      have HO := Lib.hid (RetOps.mk (c := m) (own_lenOps hown) (Nat.le_refl _) (FreshOps.of_own hown (Nat.le_refl _) (by omega)) hb)
      clear hown e
      go_wp2_with fail
      go_ret
      exact HO.out
end Go.Proofs.Ytmookobaljcpbaa
