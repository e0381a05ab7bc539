/-
  Texts that the proof rests on, joined: part 5.
-/
import Derived.Test.YtcakjhappchlmaaSWx3
import Derived.Test.YtcakjhappchlmaaSWx4
namespace Go.Proofs.Ytcakjhappchlmaa
open Go.RowKit Go.BigFrame
set_option linter.unusedVariables false

/-- Function F is entered by a call. -/
def Runs (F : FuncId) : Prop := ∀ args w, (callFunc F args).run Try.prog w = .ok (.enter F args) w
theorem runs_of {f : FuncId} {fn : Func} {c : Code} (hf : Try.prog.funcs[f]? = some fn) (hname : (fn.name == "runtime.NumGoroutine") = false) (hb : fn.body = some c) : Runs f :=
  by
  intro args w
  have h1 : fn.name ≠ "runtime.NumGoroutine" := by simpa using hname
  simp [callFunc, hf, h1, hb]

/-- A closure that answers p of each of the operations s, in whatever the world may become. -/
def ClosOp (w : World) (F : FuncId) (caps : Array Value) (s : List OpV) (p : OpV → Bool) : Prop := Runs F ∧
  ∀ (W : World) (o : OpV), Below w.heap.size w W → o ∈ s → Calls Try.prog F (#[o.val] ++ caps) W fun e w' => e = .returned (.bool (p o)) ∧ Below W.heap.size W w'
theorem find_none_all {α : Type} {s : List α} {p : α → Bool} (h : ∀ j, j < s.length → ∀ o, s[j]? = some o → p o = false) : s.any p = false := by
  rw [List.any_eq_false]
  intro o ho
  obtain ⟨j, hj⟩ := List.mem_iff_getElem?.1 ho
  have hl : j < s.length := by
    rcases Nat.lt_or_ge j s.length with h | h
    · exact h
    · rw [List.getElem?_eq_none h] at hj; cases hj
  simp [h j hl o hj]

def IdxPost {α : Type} (s : List α) (p : α → Bool) (w : World) (e : Ending) (w' : World) : Prop :=
  Below w.heap.size w w' ∧ ((s.any p = false ∧ e = .returned (.int .i64 (-1))) ∨ (s.any p = true ∧ ∃ k : Nat, k < s.length ∧ (∃ o, s[k]? = some o ∧ p o = true) ∧ (∀ j, j < k → ∀ o, s[j]? = some o → p o = false) ∧ e = .returned (.int .i64 k)))


set_option maxRecDepth 100000 in
set_option maxHeartbeats 400000 in
theorem IndexFuncOp_any (A : Option Addr) (n c : Nat) (s : List OpV) (F : FuncId) (caps : Array Value) (p : OpV → Bool) (w : World) (hx : ROps w A n s) (hf : ClosOp w F caps s p) :
    Calls Try.prog 151 #[.slice A n c, .func (.func F) #[] caps] w (IdxPost s p w) := by
  have hn := hx.2.1
  have hl := hx.1
  have HX := Lib.hid hx
  have HF := Lib.hid hf
  clear hx hf
  go_enter Try.func151, Try.ntmps151
  go_wp2_with fail
  go_loopw [8] (fun i wr => ∃ k : Nat, k ≤ n ∧ i = .int .i64 k ∧ Below w.heap.size w wr ∧ (∀ j, j < k → ∀ o, s[j]? = some o → p o = false)) (fun i _ => n - (intOf i).toNat)
  case atStart => exact ⟨0, Nat.zero_le _, rfl, Below.refl _ _, by omega⟩
  case round =>
    obtain ⟨k, hk, rfl, hb, hno⟩ := hrel
    by_cases hlt : k < n
    · obtain ⟨b, off, o, rfl, hbl, ho, c0, c1, c2⟩ := (HX.out.below hb (Nat.le_refl _)).at_ hlt
      have hcl := HF.out.2 wr o hb (List.mem_of_getElem? ho)
      have hrun := HF.out.1
      unfold Runs at hrun
      unfold OpV.val at hcl
      have HN : Hid (p o = false → ∀ j, j < k + 1 → ∀ o, s[j]? = some o → p o = false) := fun h => no_snoc ho hno h
      have HT : Hid (p o = true → ∀ w', Below w.heap.size w w' → IdxPost s p w (.returned (.int .i64 k)) w') := fun h w' hb' =>
        ⟨hb', .inr ⟨List.any_eq_true.2 ⟨o, List.mem_of_getElem? ho, h⟩, k, by omega, ⟨o, ho, h⟩, hno, rfl⟩⟩
      have HC := Lib.hid hcl
      clear hno ho hcl
      cases hp : p o
      · rw [hp] at HC
        go_wp2_with fail
        refine (HC.out).mono ?_
        rintro e w1 ⟨rfl, hb1⟩
        go_wp2_with fail
        go_roundw
        case rel => exact ⟨k + 1, by omega, by go_num, hb.trans (hb1.mono hb.size), HN.out hp⟩
        case measure => simp [intOf]; omega
      · rw [hp] at HC
        go_wp2_with fail
        refine (HC.out).mono ?_
        rintro e w1 ⟨rfl, hb1⟩
        go_wp2_with fail
        go_ret
        exact HT.out hp _ (hb.trans (hb1.mono hb.size))
    · have HE := Lib.hid (find_none_all (s := s) (p := p) (fun j hj => hno j (by omega)))
      clear hno
      go_wp2_with fail
      go_ret
      exact ⟨hb, .inl ⟨HE.out, rfl⟩⟩


set_option maxHeartbeats 400000 in
theorem ContainsFuncOp_any (A : Option Addr) (n c : Nat) (s : List OpV) (F : FuncId) (caps : Array Value) (p : OpV → Bool) (w : World) (hx : ROps w A n s) (hf : ClosOp w F caps s p) :
    Calls Try.prog 126 #[.slice A n c, .func (.func F) #[] caps] w fun e w' => e = .returned (.bool (s.any p)) ∧ Below w.heap.size w w' := by
  have HI := Lib.hid (IndexFuncOp_any A n c s F caps p w hx hf)
  clear hx hf
  go_enter Try.func126, Try.ntmps126
  go_wp2_with fail
  refine (HI.out).mono ?_
  rintro e w1 ⟨hb, ⟨ha, rfl⟩ | ⟨ha, k, hk, _, _, rfl⟩⟩
  · have HA := Lib.hid ha
    clear ha
    go_wp2_with fail
    go_ret
    exact ⟨ret_bool HA.out.symm, hb⟩
  · have HA := Lib.hid ha
    clear ha
    go_wp2_with fail
    go_ret
    exact ⟨ret_bool HA.out.symm, hb⟩


end Go.Proofs.Ytcakjhappchlmaa
namespace Go.Proofs.Ytcakjhappchlmaa
open Go.RowKit Go.BigFrame
set_option linter.unusedVariables false

/-- A slice of operations that lies in memory made since w0, from its block's head on, free to be written. -/
def FreshOps (w0 w : World) (A : Option Addr) (n : Nat) (xs : List OpV) : Prop :=
  ROps w A n xs ∧ ∀ ad, A = some ad → ∃ b cur, ad = ⟨b, 0, none⟩ ∧ w0.heap.size ≤ b ∧ w.heap[b]? = some (.cells cur 92 (0, 0)) ∧ n * 3 ≤ cur.size
def FreshInts (w0 w : World) (A : Option Addr) (n : Nat) (xs : List Int) : Prop :=
  RInts w A n xs ∧ ∀ ad, A = some ad → ∃ b cur, ad = ⟨b, 0, none⟩ ∧ w0.heap.size ≤ b ∧ w.heap[b]? = some (.cells cur 3 (0, 0)) ∧ n ≤ cur.size
/-- The call hands back these operations in new memory and changes nothing. -/
def RetOps (w0 : World) (xs : List OpV) (e : Ending) (w : World) : Prop :=
  ∃ A c, e = .returned (.slice A xs.length c) ∧ xs.length ≤ c ∧ FreshOps w0 w A xs.length xs ∧ Below w0.heap.size w0 w
def RetInts (w0 : World) (xs : List Int) (e : Ending) (w : World) : Prop :=
  ∃ A c, e = .returned (.slice A xs.length c) ∧ xs.length ≤ c ∧ FreshInts w0 w A xs.length xs ∧ Below w0.heap.size w0 w

theorem FreshOps.none_ {w0 w : World} : FreshOps w0 w none 0 [] := ⟨ROps.nil, fun ad h => by cases h⟩
theorem FreshInts.none_ {w0 w : World} : FreshInts w0 w none 0 [] := ⟨RInts.nil, fun ad h => by cases h⟩
theorem RetOps.nil {w0 w : World} (h : Below w0.heap.size w0 w) : RetOps w0 [] (.returned (.slice none 0 0)) w := ⟨none, 0, rfl, Nat.le_refl _, FreshOps.none_, h⟩
theorem RetInts.nil {w0 w : World} (h : Below w0.heap.size w0 w) : RetInts w0 [] (.returned (.slice none 0 0)) w := ⟨none, 0, rfl, Nat.le_refl _, FreshInts.none_, h⟩

theorem FreshOps.of_own {w0 w : World} {base n c : Nat} {A : Option Addr} {xs : List OpV} (h : w.ownsRow base 92 3 (.slice A n c) n (opCells xs)) (hb : w0.heap.size ≤ base) (hn : n ≤ 1099511627776) : FreshOps w0 w A n xs := by
  refine ⟨ROps.of_own h hn, fun ad had => ?_⟩
  subst had
  rcases h.2 with ⟨h1, h2⟩ | ⟨g, cap, cur, h1, h2, h3, h4, h5, h6, h7⟩
  · cases h1
  · injection h1 with ha _ hc
    injection ha with ha
    subst ha
    exact ⟨g, cur, rfl, by omega, h3, by rw [h6]; omega⟩
theorem FreshInts.of_own {w0 w : World} {base n c : Nat} {A : Option Addr} {xs : List Int} (h : w.ownsRow base 3 1 (.slice A n c) n (intCells xs)) (hb : w0.heap.size ≤ base) (hn : n ≤ 1099511627776) : FreshInts w0 w A n xs := by
  refine ⟨RInts.of_own h hn, fun ad had => ?_⟩
  subst had
  rcases h.2 with ⟨h1, h2⟩ | ⟨g, cap, cur, h1, h2, h3, h4, h5, h6, h7⟩
  · cases h1
  · injection h1 with ha _ hc
    injection ha with ha
    subst ha
    exact ⟨g, cur, rfl, by omega, h3, by rw [h6]; omega⟩
theorem RetOps.mk {w0 w : World} {xs : List OpV} {A : Option Addr} {n c : Nat} (hn : xs.length = n) (hc : n ≤ c) (h : FreshOps w0 w A n xs) (hb : Below w0.heap.size w0 w) : RetOps w0 xs (.returned (.slice A n c)) w := by
  subst hn; exact ⟨A, c, rfl, hc, h, hb⟩
theorem RetInts.mk {w0 w : World} {xs : List Int} {A : Option Addr} {n c : Nat} (hn : xs.length = n) (hc : n ≤ c) (h : FreshInts w0 w A n xs) (hb : Below w0.heap.size w0 w) : RetInts w0 xs (.returned (.slice A n c)) w := by
  subst hn; exact ⟨A, c, rfl, hc, h, hb⟩
theorem own_below {w w' : World} {base : Nat} {e : TypeId} {size n : Nat} {v : Value} {xs : List Value} (h : w.ownsRow base e size v n xs) (hb : Below w.heap.size w w') : w'.ownsRow base e size v n xs :=
  World.ownsRow.kept h (row := none) ⟨hb.os, hb.tape, hb.output, hb.size, fun k hk _ => hb.block k hk⟩ (by cases v.ownBlock <;> simp)
theorem Below.own {w0 w w' : World} {base : Nat} {e : TypeId} {size n : Nat} {v : Value} {xs : List Value} (h : Below w0.heap.size w0 w) (hown : w.ownsRow base e size v n xs) (hb : w0.heap.size ≤ base) (hg : w.grownBy w' v.ownBlock) : Below w0.heap.size w0 w' :=
  h.grown hg h.size fun k hk => Nat.le_trans hb (World.ownsRow.lt hown k hk).1
theorem own_lenOps {w : World} {base n : Nat} {e : TypeId} {v : Value} {xs : List OpV} (h : w.ownsRow base e 3 v n (opCells xs)) : xs.length = n := by
  have := h.1; rw [length_opCells] at this; omega
theorem own_lenInts {w : World} {base n : Nat} {e : TypeId} {v : Value} {xs : List Int} (h : w.ownsRow base e 1 v n (intCells xs)) : xs.length = n := by
  have := h.1; simp only [intCells, List.length_map] at this; omega
theorem own_form2 {w : World} {base : Nat} {e : TypeId} {size n : Nat} {v : Value} {xs : List Value} (h : w.ownsRow base e size v n xs) : ∃ A c, v = .slice A n c ∧ n ≤ c := by
  rcases h.2 with ⟨h1, h2⟩ | ⟨g, cap, cur, h1, _, _, h4, _⟩
  · exact ⟨none, 0, by rw [h1, h2], by omega⟩
  · exact ⟨_, _, h1, h4⟩
theorem take_snoc {α : Type} {s : List α} {k : Nat} {o : α} (h : s[k]? = some o) : s.take (k + 1) = s.take k ++ [o] := by
  rw [List.take_add_one, h]; rfl

end Go.Proofs.Ytcakjhappchlmaa
namespace Go.Proofs.Ytcakjhappchlmaa
open Go.RowKit Go.BigFrame
set_option linter.unusedVariables false

def opsOf (s : List OpV) (t : Int) : List OpV := s.filter fun o => o.tx == t
end Go.Proofs.Ytcakjhappchlmaa
namespace Go.Proofs.Ytcakjhappchlmaa
open Go.RowKit Go.BigFrame
set_option linter.unusedVariables false

theorem RetInts.later {w W w' : World} {xs : List Int} {e : Ending} (hb : Below w.heap.size w W) (h : RetInts W xs e w') : RetInts w xs e w' := by
  obtain ⟨A', c', rfl, hc', ⟨h1, h2⟩, hb'⟩ := h
  have hs := hb.size
  exact ⟨A', c', rfl, hc', ⟨h1, fun ad had => by obtain ⟨b, cur, h3, h4, h5⟩ := h2 ad had; exact ⟨b, cur, h3, by omega, h5⟩⟩, hb.trans (hb'.mono hs)⟩
theorem RetOps.later {w W w' : World} {xs : List OpV} {e : Ending} (hb : Below w.heap.size w W) (h : RetOps W xs e w') : RetOps w xs e w' := by
  obtain ⟨A', c', rfl, hc', ⟨h1, h2⟩, hb'⟩ := h
  have hs := hb.size
  exact ⟨A', c', rfl, hc', ⟨h1, fun ad had => by obtain ⟨b, cur, h3, h4, h5⟩ := h2 ad had; exact ⟨b, cur, h3, by omega, h5⟩⟩, hb.trans (hb'.mono hs)⟩


end Go.Proofs.Ytcakjhappchlmaa
