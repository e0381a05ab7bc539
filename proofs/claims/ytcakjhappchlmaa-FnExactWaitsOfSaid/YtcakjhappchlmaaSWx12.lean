/-
  Texts that the proof rests on, joined: part 12.
-/
import Derived.Deep.LoopGhost
import Derived.Test.YtcakjhappchlmaaSWx1
import Derived.Test.YtcakjhappchlmaaSWx4
import Derived.Test.YtcakjhappchlmaaSWx5
import Derived.Test.YtcakjhappchlmaaSWx7
import Derived.Test.YtcakjhappchlmaaSWx11
namespace Go.Proofs.Ytcakjhappchlmaa
open Go.RowKit Go.BigFrame
set_option linter.unusedVariables false

set_option maxHeartbeats 1000000 in
theorem held_any (A : Option Addr) (n c : Nat) (st : List OpV) (i : Nat) (t x : Int) (w : World) (hx : ROps w A n st) (hi : i ≤ n) :
    Calls Try.prog 81 #[.slice A n c, .int .i64 (i : Int), .int .i64 t, .int .i64 x] w fun e w' => e = .returned (.int .i64 (heldI (st.take i) t x)) ∧ Below w.heap.size w w' := by
  have hn := hx.2.1
  have hl := hx.1
  have HX := Lib.hid hx
  clear hx
  go_enter Try.func81, Try.ntmps81
  go_wp2
  go_loopw [9, 10] (fun o k wr => ∃ q : Nat, q ≤ i ∧ k = .int .i64 q ∧ o = .int .i64 (heldI (st.take q) t x) ∧ Below w.heap.size w wr) (fun _ k _ => i - (intOf k).toNat)
  case atStart => exact ⟨0, Nat.zero_le _, rfl, rfl, Below.refl _ _⟩
  case round =>
    obtain ⟨q, hq, rfl, rfl, hb⟩ := hrel
    by_cases hlt : q < i
    · obtain ⟨b, off, o, rfl, hbl, ho, c0, c1, c2⟩ := (HX.out.below hb (Nat.le_refl _)).at_ (k := q) (by omega)
      have hs := heldI_succ ho t x
      generalize heldI (st.take (q + 1)) t x = h2 at hs
      obtain ⟨h1, hh1⟩ : ∃ h, heldI (st.take q) t x = h := ⟨_, rfl⟩
      rw [hh1] at hs ⊢
      have HE : Hid (∀ e : Int, e = hStep t x h1 o → heldI (st.take (q + 1)) t x = e) := fun e he => by rw [heldI_succ ho, hh1, he]
      clear hs hh1 ho
      obtain ⟨tx, kd, it⟩ := o
      by_cases e1 : tx = t
      · by_cases e2 : it = x
        · by_cases e3 : kd = 2
          · go_wp2_with fail
            go_roundw
            case rel => exact ⟨q + 1, by omega, by go_num, by rw [HE.out (-1) (by simp [hStep, e1, e2, e3])], hb⟩
            case measure => simp [intOf]; omega
          · by_cases e4 : kd ≤ 1
            · go_wp2_with fail
              go_roundw
              case rel => exact ⟨q + 1, by omega, by go_num, by rw [HE.out kd (by simp [hStep, e1, e2, e3, e4])], hb⟩
              case measure => simp [intOf]; omega
            · go_wp2_with fail
              go_roundw
              case rel => exact ⟨q + 1, by omega, by go_num, by rw [HE.out h1 (by simp [hStep, e1, e2, e3, e4])], hb⟩
              case measure => simp [intOf]; omega
        · go_wp2_with fail
          go_roundw
          case rel => exact ⟨q + 1, by omega, by go_num, by rw [HE.out h1 (by simp [hStep, e1, e2])], hb⟩
          case measure => simp [intOf]; omega
      · go_wp2_with fail
        go_roundw
        case rel => exact ⟨q + 1, by omega, by go_num, by rw [HE.out h1 (by simp [hStep, e1])], hb⟩
        case measure => simp [intOf]; omega
    · obtain rfl : q = i := by omega
      obtain ⟨h1, hh1⟩ : ∃ h, heldI (st.take q) t x = h := ⟨_, rfl⟩
      rw [hh1]
      have HE := Lib.hid hh1
      clear hh1
      go_wp2_with fail
      go_ret
      exact ⟨ret_int HE.out.symm, hb⟩

def inWayTo (L : List OpV) (t x kind : Int) (k : Nat) : List Int := ((List.range k).map fun i : Nat => (i : Int)).filter fun u => u != t && (decide (0 ≤ heldI L u x) && (heldI L u x == 1 || kind == 1))
theorem inWayTo_succ (L : List OpV) (t x kind : Int) (k : Nat) : inWayTo L t x kind (k + 1) = inWayTo L t x kind k ++ if ((k : Int) != t && (decide (0 ≤ heldI L k x) && (heldI L k x == 1 || kind == 1))) = true then [(k : Int)] else [] := by
  unfold inWayTo
  rw [List.range_succ, List.map_append, List.filter_append]
  simp [List.filter_cons]
theorem inWayTo_four (L : List OpV) (t x kind : Int) : inWayTo L t x kind 4 = inWayI L t x kind := rfl
set_option maxRecDepth 100000 in
set_option maxHeartbeats 2000000 in
theorem inWay_any (A : Option Addr) (n c : Nat) (L : List OpV) (t x kd : Int) (w : World) (hx : ROps w A n L) :
    Calls Try.prog 148 #[.slice A n c, .int .i64 t, .int .i64 x, .int .i64 kd] w (RetInts w (inWayI L t x kd)) := by
  have hn := hx.2.1
  have hl := hx.1
  have hown0 := World.ownsRow_made (base := w.heap.size) (e := 3) (size := 1) w #[] 0 (Nat.le_refl _) (by decide) rfl
  have HST : Hid ((w.alloc (.cells #[] 3)).ownsRow w.heap.size 3 1 (.slice (some ⟨w.heap.size, 0, none⟩) 0 0) 0 (intCells (inWayTo L t x kd 0)) ∧ Below w.heap.size w (w.alloc (.cells #[] 3))) := ⟨hown0, (Below.refl _ _).alloc (Nat.le_refl _) _⟩
  have HX := Lib.hid hx
  have HL := Lib.hid hl
  clear hx hown0 hl
  go_enter Try.func148, Try.ntmps148
  go_wp2
  go_loopw [9, 10] (fun ov i wr => ∃ (k m : Nat), k ≤ 4 ∧ m ≤ k ∧ i = .int .i64 k ∧ Below w.heap.size w wr ∧ wr.ownsRow w.heap.size 3 1 ov m (intCells (inWayTo L t x kd k))) (fun _ i _ => 4 - (intOf i).toNat)
  case atStart => exact ⟨0, 0, by omega, Nat.le_refl _, rfl, HST.out.2, HST.out.1⟩
  case round =>
    clear HST
    obtain ⟨k, m, hk, hmk, rfl, hb, hown⟩ := hrel
    by_cases hlt : k < 4
    · have hs := hb.size
      have HT := Lib.hid (inWayTo_succ L t x kd k)
      obtain ⟨h, hh⟩ : ∃ h, heldI L (k : Int) x = h := ⟨_, rfl⟩
      rw [hh] at HT
      have HE : Hid (heldI (L.take n) (k : Int) x = h) := by rw [List.take_of_length_le (by have := HL.out; omega)]; exact hh
      clear hh
      by_cases e1 : (k : Int) = t
      · subst e1
        go_wp2_with (go_at_call 81; refine (held_any A n c L n (k : Int) x wr (HX.out.below hb (Nat.le_refl _)) (Nat.le_refl _)).mono ?_; rintro e w2 ⟨rfl, hb2⟩; rw [HE.out]; have hown2 := own_below hown hb2; have hbw := hb.trans (hb2.mono hs); have hs2 := hb2.size)
        go_roundw
        case rel => exact ⟨k + 1, m, by omega, by omega, by go_num, hbw, by rw [HT.out]; simpa using hown2⟩
        case measure => simp [intOf]; omega
      · by_cases e2 : 0 ≤ h
        · by_cases e3 : h = 1
          · subst e3
            go_wp2_with (first | (go_at_call 81; refine (held_any A n c L n (k : Int) x wr (HX.out.below hb (Nat.le_refl _)) (Nat.le_refl _)).mono ?_; rintro e w2 ⟨rfl, hb2⟩; rw [HE.out]; have hown2 := own_below hown hb2; have hbw := hb.trans (hb2.mono hs); have hs2 := hb2.size) | (at_builtin; refine app_ints (.tmp 38) (.tmp 40) (hown2.alloc _) (by simp; omega) (lit1 rfl _) (by omega) rfl rfl rfl rfl ?_; intro v3 w3 hown3 hg3 hat3))
            have hb3 := Below.own hbw hown2 (Nat.le_refl _) (World.grownBy.trans (World.grownBy_alloc w2 _ _) hg3)
            go_roundw
            case rel => exact ⟨k + 1, m + 1, by omega, by omega, by go_num, hb3, by rw [HT.out]; simpa [e1] using hown3⟩
            case measure => simp [intOf]; omega
          · have f3 : (h == 1) = false := by simp [e3]
            by_cases e4 : kd = 1
            · subst e4
              go_wp2_with (first | (go_at_call 81; refine (held_any A n c L n (k : Int) x wr (HX.out.below hb (Nat.le_refl _)) (Nat.le_refl _)).mono ?_; rintro e w2 ⟨rfl, hb2⟩; rw [HE.out]; have hown2 := own_below hown hb2; have hbw := hb.trans (hb2.mono hs); have hs2 := hb2.size) | (at_builtin; refine app_ints (.tmp 38) (.tmp 40) (hown2.alloc _) (by simp; omega) (lit1 rfl _) (by omega) rfl rfl rfl rfl ?_; intro v3 w3 hown3 hg3 hat3))
              have hb3 := Below.own hbw hown2 (Nat.le_refl _) (World.grownBy.trans (World.grownBy_alloc w2 _ _) hg3)
              go_roundw
              case rel => exact ⟨k + 1, m + 1, by omega, by omega, by go_num, hb3, by rw [HT.out]; simpa [e1, e2, e3] using hown3⟩
              case measure => simp [intOf]; omega
            · have f4 : (kd == 1) = false := by simp [e4]
              go_wp2_with (go_at_call 81; refine (held_any A n c L n (k : Int) x wr (HX.out.below hb (Nat.le_refl _)) (Nat.le_refl _)).mono ?_; rintro e w2 ⟨rfl, hb2⟩; rw [HE.out]; have hown2 := own_below hown hb2; have hbw := hb.trans (hb2.mono hs); have hs2 := hb2.size)
              go_roundw
              case rel => exact ⟨k + 1, m, by omega, by omega, by go_num, hbw, by rw [HT.out]; simpa [e1, e2, e3, e4, f3, f4] using hown2⟩
              case measure => simp [intOf]; omega
        · go_wp2_with (go_at_call 81; refine (held_any A n c L n (k : Int) x wr (HX.out.below hb (Nat.le_refl _)) (Nat.le_refl _)).mono ?_; rintro e w2 ⟨rfl, hb2⟩; rw [HE.out]; have hown2 := own_below hown hb2; have hbw := hb.trans (hb2.mono hs); have hs2 := hb2.size)
          go_roundw
          case rel => exact ⟨k + 1, m, by omega, by omega, by go_num, hbw, by rw [HT.out, show decide (0 ≤ h) = false by simp; omega]; simpa using hown2⟩
          case measure => simp [intOf]; omega
    · obtain ⟨Ao, co, rfl, hmc⟩ := own_form2 hown
      obtain rfl : k = 4 := by omega
      rw [inWayTo_four] at hown
      have HO := Lib.hid (RetInts.mk (c := co) (own_lenInts hown) hmc (FreshInts.of_own hown (Nat.le_refl _) (by omega)) hb)
      clear hown
      go_wp2_with fail
      go_ret
      exact HO.out
end Go.Proofs.Ytcakjhappchlmaa
namespace Go.Proofs.Ytcakjhappchlmaa
open Go.RowKit Go.BigFrame
set_option linter.unusedVariables false

def lenOf : Value → Nat | .slice _ n _ => n | _ => 0
section
variable {w : World} {ops : Array Oper} {rest : List Oper} {o : Oper} {a : Act} {Q : Exit → Act → World → Prop}
end

end Go.Proofs.Ytcakjhappchlmaa
namespace Go.Proofs.Ytcakjhappchlmaa
open Go.RowKit Go.BigFrame
set_option linter.unusedVariables false

theorem ROps.drop {w : World} {A : Option Addr} {n : Nat} {xs : List OpV} (h : ROps w A n xs) {k c : Nat} (hk : k ≤ n) (hc : n ≤ c) :
    ROps w (if c = k then A else A.map (·.add (k * 3))) (n - k) (xs.drop k) := by
  obtain ⟨h1, h2, h3⟩ := h
  refine ⟨by simp; omega, by omega, fun hn => ?_⟩
  obtain ⟨b, off, rfl, hlt, hcell⟩ := h3 (by omega)
  rw [if_neg (by omega)]
  refine ⟨b, off + k * 3, by simp [addr_add], hlt, fun i o ho => ?_⟩
  rw [List.getElem?_drop] at ho
  have := hcell _ o ho
  have e1 : off + (k + i) * 3 = off + k * 3 + i * 3 := by omega
  rw [e1] at this
  exact this

theorem own_base {w : World} {base base' : Nat} {e : TypeId} {size n : Nat} {v : Value} {xs : List Value} (h : w.ownsRow base e size v n xs) (hb : base' ≤ base) : w.ownsRow base' e size v n xs := by
  refine ⟨h.1, ?_⟩
  rcases h.2 with h2 | ⟨g, cap, cur, h1, h2, r⟩
  · exact .inl h2
  · exact .inr ⟨g, cap, cur, h1, by omega, r⟩
theorem own_apart {w w' : World} {b1 b2 : Nat} {e1 e2 : TypeId} {s1 s2 n1 n2 : Nat} {v1 v2 : Value} {x1 x2 : List Value} (h1 : w.ownsRow b1 e1 s1 v1 n1 x1) (h2 : w.ownsRow b2 e2 s2 v2 n2 x2) (hne : e1 ≠ e2)
    (hg : w.grownBy w' v2.ownBlock) : w'.ownsRow b1 e1 s1 v1 n1 x1 := by
  refine World.ownsRow.kept h1 hg ?_
  rcases h1.2 with ⟨rfl, _⟩ | ⟨g, cap, cur, rfl, _, hh, _⟩
  · exact .inl rfl
  · refine .inr (fun e => ?_)
    rcases h2.2 with ⟨rfl, _⟩ | ⟨g', cap', cur', rfl, _, hh', _⟩
    · simp [Value.ownBlock] at e
    · simp [Value.ownBlock] at e
      subst e
      rw [hh] at hh'
      injection hh' with hh'
      injection hh' with _ hh' _
      exact hne hh'

end Go.Proofs.Ytcakjhappchlmaa
namespace Go.Proofs.Ytcakjhappchlmaa
open Go.RowKit Go.BigFrame
set_option linter.unusedVariables false

theorem RowIs.grown {w w' : World} {g : Nat} {T : TypeId} {vs : List Value} {row : Option Nat} (h : RowIs w g T vs) (hg : w.grownBy w' row) (hne : row ≠ some g) : RowIs w' g T vs :=
  (hg.block g h.lt hne.symm).trans h
theorem own_ne {w : World} {base : Nat} {e : TypeId} {size n : Nat} {v : Value} {xs : List Value} (h : w.ownsRow base e size v n xs) {g : Nat} {T : TypeId} {vs : List Value} (hr : RowIs w g T vs) (hT : T ≠ e) : v.ownBlock ≠ some g := by
  rcases h.2 with ⟨rfl, _⟩ | ⟨g', cap, cur, rfl, _, hh, _⟩
  · simp [Value.ownBlock]
  · intro e'
    simp [Value.ownBlock] at e'
    subst e'
    unfold RowIs at hr
    rw [hr] at hh
    injection hh with hh
    injection hh with _ hh _
    exact hT hh
theorem own_lt {w : World} {base : Nat} {e : TypeId} {size n : Nat} {v : Value} {xs : List Value} (h : w.ownsRow base e size v n xs) {b : Nat} (hb : w.heap.size ≤ b) : v.ownBlock ≠ some b := by
  intro e'
  have := (World.ownsRow.lt h b e').2
  omega
theorem own_grown {w w' : World} {base : Nat} {e : TypeId} {size n : Nat} {v : Value} {xs : List Value} (h : w.ownsRow base e size v n xs) {row : Option Nat} (hg : w.grownBy w' row) (hne : ∀ b, row = some b → v.ownBlock ≠ some b) : w'.ownsRow base e size v n xs := by
  refine World.ownsRow.kept h hg ?_
  cases hv : v.ownBlock with
  | none => exact .inl rfl
  | some b =>
    refine .inr (fun e => ?_)
    exact hne b e.symm hv
theorem op_ne_int : (92 : TypeId) ≠ 3 := by decide
theorem ROps.litH {w : World} {H : Nat} (hH : w.heap.size = H) (o : OpV) (t : TypeId) : ROps (w.alloc (.cells #[.int .i64 o.tx, .int .i64 o.kind, .int .i64 o.item] t)) (some ⟨H, 0, none⟩) 1 [o] := by subst hH; exact ROps.lit1 w o t

end Go.Proofs.Ytcakjhappchlmaa
