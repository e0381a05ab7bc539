/-
  The reference parses a schedule.
-/
import Derived.Test.YtddkjbibjjehjaaDoorTx1
import Derived.Test.YtddkjbibjjehjaaDoorKept
import Derived.Test.YtddkjbibjjehjaaDoorSpV0
namespace Go.Proofs.YtddkjbibjjehjaaDoor
open Go.RowKit Go.BigFrame
set_option linter.unusedVariables false

/-- Operations in new memory, and a bool. -/
def RetOB (w0 : World) (xs : List OpV) (b : Bool) (e : Ending) (w : World) : Prop :=
  ∃ A c, e = .returned (.tuple #[.slice A xs.length c, .bool b]) ∧ xs.length ≤ c ∧ FreshOps w0 w A xs.length xs ∧ Below w0.heap.size w0 w
theorem RetOB.mk {w0 w : World} {xs : List OpV} {A : Option Addr} {n c : Nat} {b : Bool} (hn : xs.length = n) (hc : n ≤ c) (h1 : FreshOps w0 w A n xs) (hb : Below w0.heap.size w0 w) : RetOB w0 xs b (.returned (.tuple #[.slice A n c, .bool b])) w := by
  subst hn
  exact ⟨A, c, rfl, hc, h1, hb⟩
theorem RetOB.nil {w0 w : World} {b : Bool} (h : Below w0.heap.size w0 w) : RetOB w0 [] b (.returned (.tuple #[.slice none 0 0, .bool b])) w := ⟨none, 0, rfl, Nat.le_refl _, FreshOps.none_, h⟩
theorem own_below0 {w w' : World} {base : Nat} {e : TypeId} {size n : Nat} {v : Value} {xs : List Value} (h : w.ownsRow base e size v n xs) (hb : Below w.heap.size w w') : w'.ownsRow base e size v n xs := own_below h hb

set_option maxRecDepth 100000 in
set_option maxHeartbeats 2000000 in
theorem sparse_any (l : List UInt8) (w : World) (hn : l.length ≤ 1073741824) :
    Calls Tryd.prog 17 #[.string ⟨⟨l⟩⟩] w (RetOB w (parL l) (validS (parL l))) := by
  have HST : Hid ((w.alloc (.cells #[] 38)).ownsRow w.heap.size 38 3 (.slice (some ⟨w.heap.size, 0, none⟩) 0 0) 0 (opCells [])) :=
    World.ownsRow_made w #[] 0 (Nat.le_refl _) (by decide) rfl
  have HB0 : Hid (Below w.heap.size w (w.alloc (.cells #[] 38))) := (Below.refl _ _).alloc (Nat.le_refl _) _
  cases l with
  | nil =>
    have HV := Lib.hid (svalid_any (some ⟨w.heap.size, 0, none⟩) 0 0 [] (w.alloc (.cells #[] 38)) (ROps.of_own HST.out (by omega)))
    have HR : Hid (∀ w', Below (w.alloc (.cells #[] 38)).heap.size (w.alloc (.cells #[] 38)) w' → RetOB w (parL []) (validS (parL [])) (.returned (.tuple #[.slice (some ⟨w.heap.size, 0, none⟩) 0 0, .bool (validS [])])) w') := fun w' hb =>
      RetOB.mk rfl (Nat.le_refl _) (FreshOps.of_own (own_below HST.out hb) (Nat.le_refl _) (by omega)) (HB0.out.trans (hb.mono (by simp)))
    go_enter Tryd.func17, Tryd.ntmps17
    go_wp2_with (go_at_call 26; refine HV.out.mono ?_; rintro e w1 ⟨rfl, hb1⟩)
    go_ret2
    exact HR.out _ hb1
  | cons a r =>
    have hpar : parL (a :: r) = (splc 44 (a :: r)).map rdL := by unfold parL; rw [if_neg (by simp)]
    have hnl : (splc 44 (a :: r)).length ≤ 1073741825 := Nat.le_trans (splc_len 44 (a :: r)) (by omega)
    have HSP : Hid (Calls Tryd.prog 33 #[.string ⟨⟨a :: r⟩⟩, .int .u8 44] (w.alloc (.cells #[] 38)) (RetStrs (w.alloc (.cells #[] 38)) (splc 44 (a :: r)))) := splitAt_any (a :: r) 44 _ hn
    rw [hpar]
    obtain ⟨ps, hps⟩ : ∃ ps, splc 44 (a :: r) = ps := ⟨_, rfl⟩
    rw [hps] at HSP hnl ⊢
    clear hps hpar hn
    go_enter Tryd.func17, Tryd.ntmps17
    go_wp2_with (go_at_call 33; refine HSP.out.mono ?_; rintro e w1 ⟨A, c, rfl, hc, hx, hA, hb1⟩)
    obtain ⟨n, hlen⟩ : ∃ n, ps.length = n := ⟨_, rfl⟩
    have hb1' : Below w.heap.size w w1 := HB0.out.trans (hb1.mono (by simp))
    have HOW : Hid (w1.ownsRow w.heap.size 38 3 (.slice (some ⟨w.heap.size, 0, none⟩) 0 0) 0 (opCells [])) := own_below HST.out hb1
    have hs1 := hb1'.size
    have hs2 := hb1.size
    have hs3 : w.heap.size + 1 ≤ w1.heap.size := by simpa using hs2
    have hA2 : ∀ ad, A = some ad → w.heap.size + 1 ≤ ad.block ∧ (0 < ps.length → ad.block < w1.heap.size) := fun ad had => ⟨by have := hA ad had; simpa using this, fun h0 => by obtain ⟨b, off, e, hlt, _⟩ := hx.2.2 h0; rw [had] at e; injection e with e; rw [e]; exact hlt⟩
    rw [hlen] at hx hc hnl hA2
    have HA := Lib.hid hA2
    try rw [hlen]
    have HX := Lib.hid hx
    have HLEN := Lib.hid hlen
    clear hx hb1 HST HB0 HSP hlen hA hA2 hs2
    go_loopw [4, 6] (fun ov iv wr => ∃ (k : Nat), k ≤ n ∧ iv = .int .i64 k ∧ Below w.heap.size w wr ∧ Hid (RStrs wr A n ps) ∧ Hid (∀ q, ov.ownBlock = some q → q = w.heap.size ∨ w1.heap.size ≤ q) ∧ w1.heap.size ≤ wr.heap.size ∧ wr.ownsRow w.heap.size 38 3 ov k (opCells ((ps.map rdL).take k))) (fun _ i _ => n - (intOf i).toNat)
    case atStart => exact ⟨0, Nat.zero_le _, rfl, hb1', HX, Lib.hid (fun q hq => .inl (by simpa [Value.ownBlock, eq_comm] using hq)), Nat.le_refl _, HOW.out⟩
    case round =>
      clear HOW
      obtain ⟨k, hk, rfl, hb, HXR, HQ, hsz, hown⟩ := hrel
      obtain ⟨Ao, co, rfl, hmc⟩ := own_form2 hown
      by_cases hlt : k < n
      · obtain ⟨b, off, x, rfl, hbl, hx, c0⟩ := HXR.out.at_ hlt
        obtain ⟨hA1, hA2⟩ := HA.out _ rfl
        have hA3 := hA2 (by omega)
        simp only at hA1 hA3
        clear hA2
        have hlt2 : (k : Int) < (n : Int) := by omega
        have HT : Hid ((ps.map rdL).take (k + 1) = (ps.map rdL).take k ++ [rdL x]) := take_snoc (by rw [List.getElem?_map, hx]; rfl)
        have HRD := Lib.hid (sreadOp_any x)
        unfold OpV.val at HRD
        clear hx
        generalize rdL x = o at *
        obtain ⟨tx, kd, it⟩ := o
        go_wp2_with (first
          | (go_at_call 34; refine (HRD.out wr).mono ?_; rintro e w2 ⟨rfl, hb3⟩; have hown2 := own_below hown hb3)
          | (at_builtin; refine app_ops (.tmp 18) (.tmp 24) (hown2.alloc _) (by simp; have := hb.size; have := hb3.size; omega) (ROps.lit1 _ ⟨_, _, _⟩ _) (by omega) rfl rfl rfl rfl ?_; intro v5 w5 hown5 hg5 hat5))
        have hg6 := World.grownBy.trans (World.grownBy_alloc w2 _ _) hg5
        have hb5 := Below.own (hb.trans (hb3.mono hb.size)) hown2 (Nat.le_refl _) hg6
        have hgs := World.grownBy.size hg6
        have hbs3 := hb3.size
        have HX5 : Hid (RStrs w5 (some ⟨b, off, none⟩) n ps) := (HXR.out.below hb3 (Nat.le_refl _)).grown hg6 (fun ad had e => by
          injection had with had
          subst had
          have := HQ.out _ e
          simp only at this
          omega)
        have HQ5 : Hid (∀ q, v5.ownBlock = some q → q = w.heap.size ∨ w1.heap.size ≤ q) := by
          intro q hq
          rcases hat5 with h | h
          · rw [h] at hq; exact HQ.out q hq
          · rw [h] at hq; injection hq with hq; simp at hq; exact .inr (by omega)
        clear hg5 hat5
        go_wp2_with fail
        go_roundw
        case rel => exact ⟨k + 1, by omega, by go_num, hb5, HX5, HQ5, by omega, by rw [HT.out]; exact hown5⟩
        case measure => simp [intOf]; omega
      · obtain rfl : k = n := by omega
        have hall : (ps.map rdL).take k = ps.map rdL := List.take_of_length_le (by rw [List.length_map, HLEN.out]; exact Nat.le_refl _)
        rw [hall] at hown
        have HOWN := Lib.hid hown
        have HV := Lib.hid (svalid_any Ao k co (ps.map rdL) wr (ROps.of_own hown (by omega)))
        have HR : Hid (∀ w', Below wr.heap.size wr w' → RetOB w (ps.map rdL) (validS (ps.map rdL)) (.returned (.tuple #[.slice Ao k co, .bool (validS (ps.map rdL))])) w') := fun w' h =>
          RetOB.mk (by rw [List.length_map]; exact HLEN.out) hmc (FreshOps.of_own (own_below HOWN.out h) (Nat.le_refl _) (by omega)) (hb.trans (h.mono hb.size))
        clear hown hall HXR HQ
        go_wp2_with (go_at_call 26; refine HV.out.mono ?_; rintro e w2 ⟨rfl, hb2⟩)
        go_ret2
        exact HR.out _ hb2
set_option maxRecDepth 100000 in
set_option maxHeartbeats 1000000 in
theorem sParse_any (l : List UInt8) (w : World) (hn : l.length ≤ 1073741824) :
    Calls Tryd.prog 6 #[.string ⟨⟨l⟩⟩] w (RetOB w (orNil (validS (parL l)) (parL l)) (validS (parL l))) := by
  have HP := Lib.hid (sparse_any l w hn)
  generalize parL l = xs at *
  clear hn
  cases hv : validS xs
  · rw [hv] at HP
    clear hv
    have HR : Hid (∀ w', Below w.heap.size w w' → RetOB w (orNil false xs) false (.returned (.tuple #[.slice none 0 0, .bool false])) w') := fun w' h => RetOB.nil h
    go_enter Tryd.func6, Tryd.ntmps6
    go_wp2_with (go_at_call 17; refine HP.out.mono ?_; rintro e w1 ⟨A, c, rfl, hc, hx, hb1⟩)
    go_ret2
    exact HR.out _ hb1
  · rw [hv] at HP
    clear hv
    have HR : Hid (∀ A c w', RetOB w xs true (.returned (.tuple #[.slice A xs.length c, .bool true])) w' → RetOB w (orNil true xs) true (.returned (.tuple #[.slice A xs.length c, .bool true])) w') := fun A c w' h => h
    go_enter Tryd.func6, Tryd.ntmps6
    go_wp2_with (go_at_call 17; refine HP.out.mono ?_; rintro e w1 ⟨A, c, rfl, hc, hx, hb1⟩)
    go_ret2
    exact HR.out _ _ _ ⟨A, c, rfl, hc, hx, hb1⟩
end Go.Proofs.YtddkjbibjjehjaaDoor
