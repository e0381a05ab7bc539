/-
  Texts that the proof rests on, joined: part 30.
-/
import Derived.Maps.Own
import Derived.Maps.OwnOps
import Derived.Maps.Views
import Derived.Test.YtncebpmckbcabaaSJ26
namespace Go.Proofs.Ytncebpmckbcabaa
open Go.RowKit Go.BigFrame
set_option linter.unusedVariables false

/-- The first operations of their transactions, by their places. -/
def headsTo (W : List OpV) (k : Nat) : List Int := ((List.range k).filter (frstB W)).map fun i : Nat => (i : Int)
def headsL (W : List OpV) : List Int := headsTo W W.length
theorem headsTo_succ (W : List OpV) (k : Nat) : headsTo W (k + 1) = headsTo W k ++ if frstB W k then [(k : Int)] else [] := by
  unfold headsTo
  rw [List.range_succ, List.filter_append, List.map_append]
  congr 1
  cases h : frstB W k <;> simp [h]
def seenB (W : List OpV) (k : Nat) (x : Int) : Bool := (W.take k).any fun p => p.tx == x
theorem frst_seen {W : List OpV} {k : Nat} {o : OpV} (h : W[k]? = some o) : frstB W k = !seenB W k o.tx := by
  unfold frstB seenB
  rw [h]
  simp only
  rw [Bool.eq_iff_iff, List.all_eq_true, Bool.not_eq_true', List.any_eq_false]
  simp
theorem seenB_succ {W : List OpV} {k : Nat} {o : OpV} (h : W[k]? = some o) (x : Int) : seenB W (k + 1) x = (seenB W k x || o.tx == x) := by
  unfold seenB
  rw [take_snoc h, List.any_append]; simp
theorem intKeyed : Maps.Keyed Try.prog 3 := Maps.int_keyed Try.underlying3
/-- A map of integers to bools: what it answers. -/
structure SeenIs (D : DataW Unit) (S : Int → Bool) : Prop where
  map : Maps.IsMap D
  at_ : ∀ x : Int, D.atKey (.int .i64 x) (.lit (.bool false)) = .lit (.bool (S x))
theorem isKey_int (t : Int) : WideAt.IsKeyLit (.int .i64 t) := by first | trivial | simp [WideAt.IsKeyLit] | exact ⟨_, _, rfl⟩
theorem SeenIs.start : SeenIs (.map []) (fun _ => false) := ⟨by first | trivial | exact ⟨_, rfl⟩ | simp [Maps.IsMap], fun x => rfl⟩
theorem SeenIs.put {D : DataW Unit} {S : Int → Bool} (h : SeenIs D S) (t : Int) : SeenIs (D.put (.int .i64 t) (.lit (.bool true))) (fun x => S x || t == x) := by
  refine ⟨by first | exact Maps.isMap_put h.map _ _ | exact h.map.put _ _, fun x => ?_⟩
  by_cases e : t = x
  · subst e
    rw [Maps.atKey_put_same h.map (isKey_int t)]; simp
  · rw [Maps.atKey_put_other (by intro e'; injection e' with _ e'; exact e e'.symm), h.at_]
    simp [e]
set_option maxRecDepth 100000 in
theorem look_bool {v : Value} {b : Bool} {ps : List MemPlace} (h : (plainElem (H := Unit) Try.prog 4) v = some (.lit (.bool b), ps)) : v = .bool b := by
  unfold plainElem at h
  rw [Try.underlying4] at h
  cases v <;> simp at h
  rw [h.1]
theorem own_map_ne {w : World} {B e size n : Nat} {v : Value} {xs : List Value} {k : TypeId} {R : Value → Option (DataW Unit × List MemPlace)} {bm N : Nat} {D : DataW Unit} (h1 : w.ownsRow B e size v n xs) (h2 : w.ownsMap Try.prog k R bm N D) : v.ownBlock ≠ some bm := by
  obtain ⟨es, clock, hb, _⟩ := h2
  rcases h1.2 with ⟨rfl, _⟩ | ⟨g, cap, cur, rfl, _, hh, _⟩
  · simp [Value.ownBlock]
  · intro e'
    injection e' with e'
    have e' : g = bm := e'
    rw [e', hb] at hh
    injection hh with hh
    cases hh
structure HdI (w : World) (bm : Nat) (W : List OpV) (k m : Nat) (ov : Value) (wr : World) : Prop where
  below : Below w.heap.size w wr
  map : ∃ D, wr.ownsMap Try.prog 3 (plainElem (H := Unit) Try.prog 4) bm k D ∧ SeenIs D (seenB W k)
  row : wr.ownsRow w.heap.size 3 1 ov m (intCells (headsTo W k))
  low : w.heap.size ≤ bm
  le : m ≤ k
theorem owns_below {w w' : World} {k : TypeId} {R : Value → Option (DataW Unit × List MemPlace)} {bm N : Nat} {D : DataW Unit} (h : w.ownsMap Try.prog k R bm N D) (hb : Below w.heap.size w w') : w'.ownsMap Try.prog k R bm N D := by
  have hl := h.lt
  obtain ⟨es, clock, h1, h2⟩ := h
  exact ⟨es, clock, (hb.block bm hl).trans h1, h2⟩
set_option maxRecDepth 100000 in
set_option maxHeartbeats 2000000 in
theorem heads_run (B R tg : Nat) (m : Value) (V : DV) (D : Dsk) (w : World) (h : RunAt w B R tg m V D) (hv : ∀ o ∈ D.wait, validOp o = true) (hN : D.wait.length ≤ 9000) :
    Calls Try.prog 99 #[.pointer (some ⟨R, 0, none⟩)] w (RetInts w (headsL D.wait)) := by
  obtain ⟨Ad, Aw, Al, Ak, nd, n, nl, nk, cd, cw, cl, ck, rfl, hcs, f1, f2, f3, f4⟩ := h.forms
  have hmm := @run_makeMap Try.prog
  have hcw := hcs.2.1
  have HX : Hid (∀ W, Below w.heap.size w W → ROps W Aw n D.wait) := fun W hW => ROps.of_own ((h.lat hW).desk.waitN f2) (by omega)
  have c1 : w.cell? ⟨R, 1, none⟩ = some (.slice Aw n cw) := h.cells.2.1
  have c1' : (w.alloc (.map #[] 0)).cell? ⟨R, 1, none⟩ = some (.slice Aw n cw) := (h.lat ((Below.refl _ _).alloc (Nat.le_refl _) _)).cells.2.1
  have c1'' : ((w.alloc (.map #[] 0)).alloc (.cells #[] 3)).cell? ⟨R, 1, none⟩ = some (.slice Aw n cw) := (h.lat (((Below.refl _ _).alloc (Nat.le_refl _) _).alloc (by simp) _)).cells.2.1
  have HL : Hid (D.wait.length = n) := f2
  have hn9 : n ≤ 9000 := by omega
  have HV := Lib.hid hv
  have HST : Hid (HdI w w.heap.size D.wait 0 0 (.slice (some ⟨w.heap.size + 1, 0, none⟩) 0 0) ((w.alloc (.map #[] 0)).alloc (.cells #[] 3))) := by
    have hb0 : Below w.heap.size w (w.alloc (.map #[] 0)) := (Below.refl _ w).alloc (Nat.le_refl _) _
    have hs0 : (w.alloc (.map #[] 0)).heap.size = w.heap.size + 1 := by simp
    refine ⟨hb0.alloc (by omega) _, ⟨_, (World.ownsMap_made w _ _ _).alloc _, ?_⟩, ?_, Nat.le_refl _, Nat.le_refl _⟩
    · have := SeenIs.start
      have e : (seenB D.wait 0) = fun _ => false := by funext x; simp [seenB]
      rw [e]
      exact this
    · have := World.ownsRow_made (base := w.heap.size) (e := 3) (size := 1) (w.alloc (.map #[] 0)) #[] 0 (by omega) (by decide) rfl
      rw [hs0] at this
      exact this
  clear h hv hcs f1 f2 f3 f4
  go_enter Try.func99, Try.ntmps99
  go_wp2_with fail
  clear c1 c1' c1'' hmm
  go_loopw [4, 15] (fun ov i wr => ∃ k m : Nat, k ≤ n ∧ i = .int .i64 k ∧ HdI w w.heap.size D.wait k m ov wr) (fun _ i _ => n - (intOf i).toNat)
  case atStart => exact ⟨0, 0, Nat.zero_le _, rfl, HST.out⟩
  case round =>
    clear HST
    obtain ⟨wo, rfl⟩ : ∃ z : World, z = wr := ⟨_, rfl⟩
    obtain ⟨k, mm, hk, rfl, hI⟩ := hrel
    obtain ⟨Ao, co, rfl, hmc⟩ := own_form2 hI.row
    by_cases hlt : k < n
    · obtain ⟨b, off, o, rfl, hbl, ho, c0, c1, c2⟩ := (HX.out wo hI.below).at_ hlt
      have hvo := HV.out o (List.mem_of_getElem? ho)
      obtain ⟨htx, _, _⟩ := validOp_parts hvo
      have hfs := frst_seen ho
      have hsc := headsTo_succ D.wait k
      have hse := fun x => seenB_succ ho x
      obtain ⟨sb, hsb⟩ : ∃ sb, seenB D.wait k o.tx = sb := ⟨_, rfl⟩
      rw [hsb] at hfs
      rw [hfs] at hsc
      obtain ⟨W, hW⟩ : ∃ W : World, W = wo.alloc (.cells #[.int .i64 o.tx, .int .i64 o.kind, .int .i64 o.item] 62) := ⟨_, rfl⟩
      have hbW : Below wo.heap.size wo W := by rw [hW]; exact (Below.refl _ _).alloc (Nat.le_refl _) _
      have hbx : RowIs W wo.heap.size 62 [.int .i64 o.tx, .int .i64 o.kind, .int .i64 o.item] := by rw [hW]; exact heap_alloc_new wo _
      obtain ⟨Dm, hown, hsn⟩ := hI.map
      have hownW := owns_below hown hbW
      have hrowW := own_below hI.row hbW
      have hne := own_map_ne hrowW hownW
      have hwf : (Lit.int .i64 o.tx).wf = true := wf_small htx
      have hkey : keyOf Try.prog 3 (.int .i64 o.tx) = some (.int .i64 o.tx) := Maps.keyOf_int_mk Try.underlying3 hwf
      obtain ⟨lv, lps, hlook, hlr⟩ := hownW.lookup intKeyed (t := 154) Try.underlying154 (z := .bool false) (by kernel_rfl) (zd := .lit (.bool false)) (zp := []) (by kernel_rfl) hkey
      rw [hsn.at_, hsb] at hlr
      obtain rfl := look_bool hlr
      have hval : (plainElem (H := Unit) Try.prog 4) (.bool true) = some (.lit (.bool true), []) := by kernel_rfl
      have HI := Lib.hid hI
      have HW := Lib.hid hW
      have HBX := Lib.hid hbx
      have HOM := Lib.hid hownW
      have HRW := Lib.hid hrowW
      have HSN := Lib.hid hsn
      have HSC := Lib.hid hsc
      have HSE := Lib.hid hse
      have HBW := Lib.hid (hI.below.trans (hbW.mono hI.below.size))
      have hsz := hI.below.size
      have hszW : W.heap.size = wo.heap.size + 1 := by rw [hW]; simp
      have hle := hI.le
      have hki : (k : Int) < (n : Int) := by omega
      have hk0 : (0 : Int) ≤ (k : Int) := by omega
      obtain ⟨tx, kd, it⟩ := o
      simp only at c0 c1 c2 HW HBX hkey hlook HSE htx
      have hszl : w.heap.size ≤ W.heap.size := by omega
      have HSZ := Lib.hid hszW
      have p0 : W.cell? ⟨wo.heap.size, 0, none⟩ = some (.int .i64 tx) := RowIs.cell HBX.out rfl
      have HNX : Hid (∀ (mm' : Nat) (v' : Value) (w3 w4 : World), Below w.heap.size w w3 → w3.ownsMap Try.prog 3 (plainElem (H := Unit) Try.prog 4) w.heap.size k Dm → w3.ownsRow w.heap.size 3 1 v' mm' (intCells (headsTo D.wait (k + 1))) → mm' ≤ k + 1 → w4.ownsMap Try.prog 3 (plainElem (H := Unit) Try.prog 4) w.heap.size (k + 1) (Dm.put (.int .i64 tx) (.lit (.bool true))) → w3.grownBy w4 (some w.heap.size) → HdI w w.heap.size D.wait (k + 1) mm' v' w4) := by
        intro mm' v' w3 w4 hb3 hm3 hr3 hle3 hm4 hg4
        have hne3 := own_map_ne hr3 hm3
        refine ⟨hb3.grown hg4 hb3.size (fun j e => by injection e with e; omega), ⟨_, hm4, ?_⟩, own_grown hr3 hg4 (fun b e => by injection e with e; subst e; exact hne3), Nat.le_refl _, hle3⟩
        have := HSN.out.put tx
        have e : (fun x => seenB D.wait k x || tx == x) = seenB D.wait (k + 1) := by funext x; rw [HSE.out]
        rw [e] at this
        exact this
      clear hI hW hbx hown hownW hsn hlr hfs hsc hse hbW ho hvo hrowW hsb hszW
      cases sb
      · go_wp2_with fail
        rw [← HW.out]
        rw [hlook]
        go_wp2_with (first
          | (at_builtin; go_loud (refine app_ints (.tmp 25) (.tmp 27) (HRW.out.alloc _) (by simp; omega) (lit1 rfl (k : Int)) (by omega) rfl rfl rfl rfl ?_; intro v6 w6 hown6 hg6 hat6; obtain ⟨A6, c6, rfl, _⟩ := own_form2 hown6; have hg6' := World.grownBy.trans (World.grownBy_alloc W _ _) hg6; have hm6 := HOM.out.kept hg6' (Ne.symm hne); have hbx6 := RowIs.grown HBX.out hg6' (own_ne HRW.out HBX.out (by decide)); have q0 : w6.cell? ⟨wo.heap.size, 0, none⟩ = some (.int .i64 tx) := RowIs.cell hbx6 rfl; have HB6 : Hid (Below w.heap.size w w6) := HBW.out.grown hg6' HBW.out.size (fun j e => (World.ownsRow.lt HRW.out j e).1); have HM6 := Lib.hid hm6; have HR6 := Lib.hid hown6; clear hm6 hbx6 hown6 hg6 hg6' hat6))
          | (at_mapUpdate; go_loud (refine wpList_mapUpdate_own _ rfl _ _ _ 154 rfl 3 4 intKeyed Try.underlying154 _ w.heap.size k Dm rfl HM6.out (by unfold maxLen; omega) _ _ (.int .i64 tx) rfl rfl hkey (.lit (.bool true)) [] hval ?_; intro w4 hown4 hg4; have HF := Lib.hid (HNX.out (mm + 1) _ w6 w4 HB6.out HM6.out (by rw [HSC.out]; exact HR6.out) (by omega) hown4 hg4); clear hown4 hg4)))
        go_roundw
        case rel => exact ⟨k + 1, mm + 1, by omega, by go_num, HF.out⟩
        case measure => simp [intOf]; omega
      · go_wp2_with fail
        rw [← HW.out]
        rw [hlook]
        go_wp2_with (at_mapUpdate; go_loud (refine wpList_mapUpdate_own _ rfl _ _ _ 154 rfl 3 4 intKeyed Try.underlying154 _ w.heap.size k Dm rfl HOM.out (by unfold maxLen; omega) _ _ (.int .i64 tx) rfl rfl hkey (.lit (.bool true)) [] hval ?_; intro w4 hown4 hg4; have HF := Lib.hid (HNX.out mm _ W w4 HBW.out HOM.out (by rw [HSC.out]; simpa using HRW.out) (by omega) hown4 hg4); clear hown4 hg4))
        go_roundw
        case rel => exact ⟨k + 1, mm, by omega, by go_num, HF.out⟩
        case measure => simp [intOf]; omega
    · obtain rfl : k = n := by omega
      have hrow := hI.row
      have hlm := own_lenInts hrow
      have hle := hI.le
      have HF : Hid (RetInts w (headsL D.wait) (.returned (.slice Ao mm co)) wo) := by
        show RetInts _ _ _ _
        unfold headsL
        rw [HL.out]
        exact RetInts.mk hlm hmc (FreshInts.of_own hrow (Nat.le_refl _) (by omega)) hI.below
      clear hI hrow hlm
      go_wp2_with fail
      go_ret
      exact HF.out
end Go.Proofs.Ytncebpmckbcabaa
