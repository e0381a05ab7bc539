/-
  IllegalAt of the program and of the reference.
-/
import Derived.Test.YtcakjhappchlmaaQWLkT4
namespace Go.Proofs.Ytcakjhappchlmaa
open Go.RowKit Go.BigFrame
set_option linter.unusedVariables false

def illV (st : List OpV) : Int := if validL st then illI st else -1
def IllPost (w : World) (st : List OpV) (e : Ending) (w' : World) : Prop := e = .returned (.tuple #[.int .i64 (illV st), .bool (validL st)]) ∧ Below w.heap.size w w'
theorem IllPost.bad {w w' : World} {st : List OpV} (h : validL st = false) (hb : Below w.heap.size w w') : IllPost w st (.returned (.tuple #[.int .i64 (-1), .bool false])) w' := by
  unfold IllPost illV
  rw [h]
  exact ⟨rfl, hb⟩
theorem IllPost.good {w w' : World} {st : List OpV} (h : validL st = true) {v : Int} (hv : illI st = v) (hb : Below w.heap.size w w') : IllPost w st (.returned (.tuple #[.int .i64 v, .bool true])) w' := by
  unfold IllPost illV
  rw [h, hv]
  exact ⟨rfl, hb⟩
set_option maxRecDepth 100000 in
set_option maxHeartbeats 2000000 in
theorem IllegalAt_any (A : Option Addr) (n c : Nat) (st : List OpV) (w : World) (hx : ROps w A n st) :
    Calls Try.prog 22 #[.slice A n c] w (IllPost w st) := by
  have hn := hx.2.1
  have hl := hx.1
  have HX := Lib.hid hx
  have hva := ValidSteps_any A n c st w hx
  obtain ⟨bv, hbv⟩ : ∃ b, validL st = b := ⟨_, rfl⟩
  rw [hbv] at hva
  have HVA := Lib.hid hva
  have HBV := Lib.hid hbv
  clear hx hva hbv
  cases bv
  · go_enter Try.func22, Try.ntmps22
    go_wp2_with (go_at_call 16; refine HVA.out.mono ?_; rintro e w1 ⟨rfl, hbw⟩)
    go_ret2
    exact IllPost.bad HBV.out hbw
  · have HOK : Hid (∀ s ∈ st, okStep s = true) := (validL_iff.1 HBV.out).2
    have HTO : Hid (∀ W : World, Calls Try.prog 79 #[.slice none 0 0] W (TabPost W [])) := fun W => tableOf_any none 0 0 [] W ROps.nil (fun s hs => by cases hs)
    go_enter Try.func22, Try.ntmps22
    go_wp2_with (first
      | (go_at_call 16; refine HVA.out.mono ?_; rintro e w1 ⟨rfl, hbw⟩)
      | (go_at_call 79; go_loud (refine (HTO.out w1).mono ?_; rintro e w2 ⟨g, rfl, hg, hT, hbt⟩; have hgw := (Nat.le_trans hbw.size hg); have HST := Lib.hid (And.intro (hbw.trans (hbt.mono hbw.size)) hT); clear hT hbt)))
    go_loopw [13] (fun i wr => ∃ k : Nat, k ≤ n ∧ i = .int .i64 k ∧ Below w.heap.size w wr ∧ TblAt wr g (st.take k) ∧ ∀ j, j < k → illAtB st j = false) (fun i _ => n - (intOf i).toNat)
    case atStart => exact ⟨0, by omega, rfl, HST.out.1, HST.out.2, by omega⟩
    case round =>
      clear HST
      obtain ⟨k, hk, rfl, hb, hT, hno⟩ := hrel
      by_cases hkl : k < n
      · obtain ⟨b, off, o, rfl, hbl, ho, c0, c1, c2⟩ := (HX.out.below hb (Nat.le_refl _)).at_ hkl
        have hok := HOK.out o (List.mem_of_getElem? ho)
        have HTS := Lib.hid (take_snoc ho)
        have hbs := hb.size
        have hil : illAtB st k = illB (st.take k) o := by unfold illAtB; rw [ho]
        obtain ⟨bi, hbi⟩ : ∃ b, illB (st.take k) o = b := ⟨_, rfl⟩
        obtain ⟨W, hW⟩ : ∃ W : World, W = wr.alloc (.cells #[.int .i64 o.tx, .int .i64 o.kind, .int .i64 o.item] 31) := ⟨_, rfl⟩
        have hTW : TblAt W g (st.take k) := by rw [hW]; exact hT.below ((Below.refl _ _).alloc (Nat.le_refl _) _)
        have HBW : Hid (Below w.heap.size w W) := by show Below _ _ _; rw [hW]; exact hb.alloc hbs _
        have hci := tillegal_any g (st.take k) o W hTW hok (fun s hs => HOK.out s (List.mem_of_mem_take hs))
        rw [hbi] at hci
        have hca : ∀ W', Below W.heap.size W W' → Calls Try.prog 83 #[.pointer (some ⟨g, 0, none⟩), o.val] W' (TakePost g (st.take k) o W') := fun W' hW' => take_any g (st.take k) o W' (hTW.below hW') hok
        unfold OpV.val at hci hca
        have HCI := Lib.hid hci
        have HCA := Lib.hid hca
        have hbox : ∀ u, Below W.heap.size W u → u.cell? ⟨wr.heap.size, 0, none⟩ = some (.int .i64 o.tx) ∧ u.cell? ⟨wr.heap.size, 1, none⟩ = some (.int .i64 o.kind) ∧ u.cell? ⟨wr.heap.size, 2, none⟩ = some (.int .i64 o.item) := fun u hu => by
          have a0 : W.cell? ⟨wr.heap.size, 0, none⟩ = some (.int .i64 o.tx) := by rw [hW]; exact box_at _ _ _ _ _ rfl
          have a1 : W.cell? ⟨wr.heap.size, 1, none⟩ = some (.int .i64 o.kind) := by rw [hW]; exact box_at _ _ _ _ _ rfl
          have a2 : W.cell? ⟨wr.heap.size, 2, none⟩ = some (.int .i64 o.item) := by rw [hW]; exact box_at _ _ _ _ _ rfl
          exact ⟨Later.cell a0 ⟨u, hu⟩, Later.cell a1 ⟨u, hu⟩, Later.cell a2 ⟨u, hu⟩⟩
        have HBOX := Lib.hid hbox
        have HW := Lib.hid hW
        have HIL := Lib.hid (hil.trans hbi)
        have HNO := Lib.hid hno
        have hki : (k : Int) < (n : Int) := by omega
        have hk0 : (0 : Int) ≤ (k : Int) := by omega
        have hkd : decide ((k : Int) < (n : Int)) = true := by simp; omega
        clear hci hca hbox hW hTW hT hno hil hbi ho hok
        obtain ⟨tx, kd, it⟩ := o
        simp only at c0 c1 c2 HCI HCA HW HBOX
        cases bi
        · go_wp2_with (first
            | (go_at_call 82; go_loud (rw [← HW.out]; refine HCI.out.mono ?_; rintro e w4 ⟨rfl, hb4⟩; obtain ⟨p0, p1, p2⟩ := HBOX.out w4 hb4; have HB4 := Lib.hid hb4; clear hb4 c0 c1 c2))
            | (go_at_call 83; go_loud (refine (HCA.out w4 HB4.out).mono ?_; rintro e w5 ⟨rfl, hT5, hg5⟩; have hb54 := HBW.out.trans (HB4.out.mono HBW.out.size); have hb5 := Below.grown hb54 hg5 hb54.size (fun k hk => by injection hk with hk; omega); have HP5 := Lib.hid (And.intro hb5 hT5); clear hb5 hT5 hg5 hb54)))
          go_roundw
          case rel => exact ⟨k + 1, by omega, by go_num, HP5.out.1, by rw [HTS.out]; exact HP5.out.2, snoc_no HNO.out HIL.out⟩
          case measure => simp [intOf]; omega
        · have HE : Hid (illI st = (k : Int)) := illI_hit (by omega) HIL.out HNO.out
          go_wp2_with (go_at_call 82; go_loud (rw [← HW.out]; refine HCI.out.mono ?_; rintro e w4 ⟨rfl, hb4⟩; obtain ⟨p0, p1, p2⟩ := HBOX.out w4 hb4; have HB4 := Lib.hid hb4; clear hb4 c0 c1 c2))
          go_ret2
          exact IllPost.good HBV.out HE.out (HBW.out.trans (HB4.out.mono HBW.out.size))
      · have HE : Hid (illI st = -1) := illI_none fun j hj => hno j (by omega)
        clear hno hT
        go_wp2_with fail
        go_ret2
        exact IllPost.good HBV.out HE.out hb
set_option maxRecDepth 100000 in
set_option maxHeartbeats 2000000 in
theorem sIllegalAt_any (A : Option Addr) (n c : Nat) (st : List OpV) (w : World) (hx : ROps w A n st) :
    Calls Try.prog 23 #[.slice A n c] w (IllPost w st) := by
  have hn := hx.2.1
  have hl := hx.1
  have HX := Lib.hid hx
  have hva := svalidSteps_any A n c st w hx
  obtain ⟨bv, hbv⟩ : ∃ b, validL st = b := ⟨_, rfl⟩
  rw [hbv] at hva
  have HVA := Lib.hid hva
  have HBV := Lib.hid hbv
  clear hx hva hbv
  cases bv
  · go_enter Try.func23, Try.ntmps23
    go_wp2_with (go_at_call 76; refine HVA.out.mono ?_; rintro e w1 ⟨rfl, hbw⟩)
    go_ret2
    exact IllPost.bad HBV.out hbw
  · go_enter Try.func23, Try.ntmps23
    go_wp2_with (go_at_call 76; refine HVA.out.mono ?_; rintro e w1 ⟨rfl, hbw⟩; have HB1 := Lib.hid hbw)
    go_loopw [4] (fun i wr => ∃ k : Nat, k ≤ n ∧ i = .int .i64 k ∧ Below w.heap.size w wr ∧ ∀ j, j < k → illAtB st j = false) (fun i _ => n - (intOf i).toNat)
    case atStart => exact ⟨0, by omega, rfl, HB1.out, by omega⟩
    case round =>
      clear HB1
      obtain ⟨k, hk, rfl, hb, hno⟩ := hrel
      by_cases hkl : k < n
      · obtain ⟨bi, hbi⟩ : ∃ b, illAtB st k = b := ⟨_, rfl⟩
        have hci := sillegal_any A n c st k wr (HX.out.below hb (Nat.le_refl _)) hkl (fun _ _ _ => heldI_le1 _ _ _)
        rw [hbi] at hci
        have HCI := Lib.hid hci
        have HIL := Lib.hid hbi
        have HNO := Lib.hid hno
        have hbs := hb.size
        have hkd : decide ((k : Int) < (n : Int)) = true := by simp; omega
        clear hci hbi hno
        cases bi
        · go_wp2_with (go_at_call 84; refine HCI.out.mono ?_; rintro e w4 ⟨rfl, hb4⟩)
          go_roundw
          case rel => exact ⟨k + 1, by omega, by go_num, hb.trans (hb4.mono hbs), snoc_no HNO.out HIL.out⟩
          case measure => simp [intOf]; omega
        · have HE : Hid (illI st = (k : Int)) := illI_hit (by omega) HIL.out HNO.out
          go_wp2_with (go_at_call 84; refine HCI.out.mono ?_; rintro e w4 ⟨rfl, hb4⟩)
          go_ret2
          exact IllPost.good HBV.out HE.out (hb.trans (hb4.mono hbs))
      · have HE : Hid (illI st = -1) := illI_none fun j hj => hno j (by omega)
        clear hno
        go_wp2_with fail
        go_ret2
        exact IllPost.good HBV.out HE.out hb
end Go.Proofs.Ytcakjhappchlmaa
