/-
  The program reads an operation.
-/
import Derived.Test.YtddkjbibjjehjaaDoorTx3
import Derived.Test.YtddkjbibjjehjaaDoorIxb0
import Derived.Test.YtddkjbibjjehjaaDoorTxR0
import Derived.Test.YtddkjbibjjehjaaDoorRegH0
import Derived.Deep.CutRange
import Derived.Deep.RegionWith
namespace Go.Proofs.YtddkjbibjjehjaaDoor
open Go.RowKit Go.BigFrame
set_option linter.unusedVariables false

/-- What the program's readOp hands back. -/
def RdRet (l : List UInt8) (w : World) (e : Ending) (w' : World) : Prop :=
  ∃ o : OpV, e = .returned (.tuple #[o.val, .bool (okI l)]) ∧ (okI l = true → o = rdI l) ∧ Below w.heap.size w w'
set_option maxRecDepth 100000 in
set_option maxHeartbeats 2000000 in
theorem readOp_off (l : List UInt8) (hl : l.length < 2 ∨ 3 < l.length) (w : World) : Calls Tryd.prog 19 #[.string ⟨⟨l⟩⟩] w (RdRet l w) := by
  have hok : okI l = false := by
    unfold okI
    rcases hl with h | h
    · simp [show ¬ 2 ≤ l.length by omega]
    · simp [show ¬ l.length ≤ 3 by omega]
  have HW := Lib.hid (within_any (l.length : Int) 2 3)
  have hin : inR (l.length : Int) 2 3 = false := by
    unfold inR
    rcases hl with h | h
    · simp; omega
    · simp; omega
  rw [hin] at HW
  have hsz : (⟨⟨l⟩⟩ : ByteArray).size = l.length := rfl
  have HR : Hid (∀ w', Below w.heap.size w w' → RdRet l w (.returned (.tuple #[.agg #[.int .i64 0, .int .i64 0, .int .i64 0], .bool false])) w') := fun w' h =>
    ⟨⟨0, 0, 0⟩, by rw [hok]; rfl, (fun hh => by rw [hok] at hh; cases hh), h⟩
  obtain ⟨n, hn⟩ : ∃ n, l.length = n := ⟨_, rfl⟩
  rw [hn] at HW hsz
  obtain ⟨s, hs⟩ : ∃ s : ByteArray, s = ⟨⟨l⟩⟩ := ⟨_, rfl⟩
  rw [← hs] at hsz ⊢
  clear hl hok hin hn hs
  go_enter Tryd.func19, Tryd.ntmps19
  go_wp2_with (go_at_call 36; refine (HW.out _).mono ?_; rintro e w1 ⟨rfl, rfl⟩)
  refine bodyPost_ret (v := .tuple #[.agg #[.int .i64 0, .int .i64 0, .int .i64 0], .bool false]) (by simp [results, Tryd.results19, go_sem]) rfl ?_
  exact HR.out _ (by (repeat (first | exact Below.refl _ _ | assumption | refine B_alloc ?_ (Nat.le_refl _) _ | refine Below.drew ?_ | refine B_drewN ?_ _ | refine B_after (by assumption) ?_ | (refine B_set ?_ ?_; rotate_left; (first | exact Nat.le_refl _ | (simp; done) | (simp at *; omega))))))
/-- Two operations that the call has made. -/
def TwoRows (w W : World) (a b c a' b' c' : Int) : Prop := RowIs W w.heap.size 38 (opRow a b c) ∧ RowIs W (w.heap.size + 1) 38 (opRow a' b' c') ∧ Below w.heap.size w W
theorem two_rows {w W : World} {a b c a' b' c' : Int} (hW : W = ((w.alloc (.cells #[.int .i64 a, .int .i64 b, .int .i64 c] 38)).alloc (.cells #[.int .i64 a', .int .i64 b', .int .i64 c'] 38)).drew) : TwoRows w W a b c a' b' c' := by
  have at_ : ∀ (v : World) (H : Nat) (x y z : Int), v.heap.size = H → RowIs (v.alloc (.cells #[.int .i64 x, .int .i64 y, .int .i64 z] 38)) H 38 (opRow x y z) := fun v H x y z h => by subst h; exact heap_alloc_new v _
  subst hW
  have h0 := RowIs.alloc (at_ w _ a b c rfl) (.cells #[.int .i64 a', .int .i64 b', .int .i64 c'] 38)
  have h1 := at_ (w.alloc (.cells #[.int .i64 a, .int .i64 b, .int .i64 c] 38)) (w.heap.size + 1) a' b' c' (by simp)
  refine ⟨h0, h1, ?_⟩
  exact Below.drew (((Below.refl _ w).alloc (Nat.le_refl _) _).alloc (by simp) _)
/-- The operation read lies in the second block; the first is to hold the result. -/
def OpS (w : World) (tx kd it : Int) (u : World) : Prop := RowIs u (w.heap.size + 1) 38 (opRow tx kd it) ∧ (∃ a b c, RowIs u w.heap.size 38 (opRow a b c)) ∧ Below w.heap.size w u
theorem OpS.below {w u u' : World} {tx kd it : Int} (h : OpS w tx kd it u) (hb : Below u.heap.size u u') : OpS w tx kd it u' := by
  obtain ⟨h1, ⟨a, b, c, h2⟩, h3⟩ := h
  exact ⟨h1.below hb (Nat.le_refl _), ⟨a, b, c, h2.below hb (Nat.le_refl _)⟩, h3.trans (hb.mono h3.size)⟩
theorem OpS.cells {w u : World} {tx kd it : Int} (h : OpS w tx kd it u) : u.cell? ⟨w.heap.size + 1, 0, none⟩ = some (.int .i64 tx) ∧ u.cell? ⟨w.heap.size + 1, 1, none⟩ = some (.int .i64 kd) ∧ u.cell? ⟨w.heap.size + 1, 2, none⟩ = some (.int .i64 it) := by
  obtain ⟨a, b, c, _⟩ := row_cells h.1
  exact ⟨a, b, c⟩
theorem OpS.other {w u : World} {tx kd it : Int} (h : OpS w tx kd it u) : (∃ a b c : Int, u.cell? ⟨w.heap.size, 0, none⟩ = some (.int .i64 a) ∧ u.cell? ⟨w.heap.size, 1, none⟩ = some (.int .i64 b) ∧ u.cell? ⟨w.heap.size, 2, none⟩ = some (.int .i64 c)) ∧ u.frozen? ⟨w.heap.size, 0, none⟩ = false ∧ u.frozen? ⟨w.heap.size, 1, none⟩ = false ∧ u.frozen? ⟨w.heap.size, 2, none⟩ = false := by
  obtain ⟨_, ⟨a, b, c, h2⟩, _⟩ := h
  obtain ⟨e0, e1, e2, e3, e4, e5⟩ := row_cells h2
  exact ⟨⟨a, b, c, e0, e1, e2⟩, e3, e4, e5⟩
theorem OpS.store {w u : World} {tx kd it : Int} (h : OpS w tx kd it u) : OpS w tx kd it (((u.setCell ⟨w.heap.size, 0, none⟩ (.int .i64 tx)).setCell ⟨w.heap.size, 1, none⟩ (.int .i64 kd)).setCell ⟨w.heap.size, 2, none⟩ (.int .i64 it)) := by
  obtain ⟨h1, ⟨a, b, c, h2⟩, h3⟩ := h
  refine ⟨?_, ⟨tx, kd, it, ((h2.set 0 _).set 1 _).set 2 _⟩, ((h3.setCell (p := ⟨w.heap.size, 0, none⟩) (Nat.le_refl _) _).setCell (p := ⟨w.heap.size, 1, none⟩) (Nat.le_refl _) _).setCell (p := ⟨w.heap.size, 2, none⟩) (Nat.le_refl _) _⟩
  exact (Below.heap_setCell _ _ _ _ (by simp)).trans ((Below.heap_setCell _ _ _ _ (by simp)).trans ((Below.heap_setCell _ _ _ _ (by simp)).trans h1))
set_option maxRecDepth 100000 in
set_option maxHeartbeats 4000000 in
theorem readOp_two (a b : UInt8) (w : World) : Calls Tryd.prog 19 #[.string ⟨⟨[a, b]⟩⟩] w (RdRet [a, b] w) := by
  have HW := Lib.hid (within_any 2 2 3)
  rw [show inR 2 2 3 = true from rfl] at HW
  obtain ⟨s, hs⟩ : ∃ s : ByteArray, s = ⟨⟨[a, b]⟩⟩ := ⟨_, rfl⟩
  have e0 : ∀ h, s[0]'h = a := by subst hs; exact fun _ => rfl
  have e1 : ∀ h, s[1]'h = b := by subst hs; exact fun _ => rfl
  skip
  have hsz : s.size = 2 := by subst hs; rfl
  have HI : Hid (∀ (s : ByteArray) (c : UInt8) (w : World), Calls Tryd.prog 37 #[.string s, .int .u8 (c.toNat : Int)] w fun e w' => e = .returned (.int .i64 (Lib.indexByte s.data.toList c)) ∧ w' = w) := fun s c w => by
    have := IndexByte_any s (c.toNat : Int) w
    rwa [Int.toNat_natCast, Nat.toUInt8, UInt8.ofNat_toNat] at this
  have hrd : rdI [a, b] = ⟨Lib.indexByte tcs b, Lib.indexByte kcs a, 0⟩ := rfl
  have hok : okI [a, b] = (validOp (rdI [a, b]) && opL (rdI [a, b]) == [a, b]) := by unfold okI; simp
  obtain ⟨tx, htx⟩ : ∃ z, Lib.indexByte tcs b = z := ⟨_, rfl⟩
  obtain ⟨kd, hkd⟩ : ∃ z, Lib.indexByte kcs a = z := ⟨_, rfl⟩
  skip
  rw [htx, hkd] at hrd
  rw [hrd] at hok
  have HV := Lib.hid (valid_any ⟨tx, kd, 0⟩)
  have HT0 := fun (h : validOp ⟨tx, kd, 0⟩ = true) (w : World) => text_any h w
  unfold OpV.val at HV
  simp only [OpV.val] at HT0
  obtain ⟨V, hV⟩ : ∃ z, validOp ⟨tx, kd, 0⟩ = z := ⟨_, rfl⟩
  obtain ⟨tl, htl⟩ : ∃ z, opL ⟨tx, kd, 0⟩ = z := ⟨_, rfl⟩
  rw [hV, htl] at hok
  rw [hV] at HV
  simp only [hV, htl] at HT0
  obtain ⟨T, hT⟩ : ∃ T : ByteArray, T = ⟨⟨tl⟩⟩ := ⟨_, rfl⟩
  unfold strV at HT0
  rw [← hT] at HT0
  have HT := Lib.hid HT0
  have hTs : (T.toList == s.toList) = (tl == [a, b]) := by rw [Lib.toList_data, Lib.toList_data, hT, hs]
  have HFIN : Hid (∀ (q : Bool) (w' : World), q = (V && (T.toList == s.toList)) → Below w.heap.size w w' → RdRet [a, b] w (.returned (.tuple #[.agg #[.int .i64 tx, .int .i64 kd, .int .i64 0], .bool q])) w') := fun q w' hq hb =>
    ⟨⟨tx, kd, 0⟩, by rw [hok, hq, hTs]; rfl, (fun _ => hrd.symm), hb⟩
  have HROW : Hid (TwoRows w (((w.alloc (.cells #[.int .i64 0, .int .i64 0, .int .i64 0] 38)).alloc (.cells #[.int .i64 tx, .int .i64 kd, .int .i64 0] 38)).drew) 0 0 0 tx kd 0) := two_rows rfl
  unfold kcs at hkd
  unfold tcs at htx
  skip
  rw [← hs]
  clear hok hrd hV htl HT0 hT hTs hs
  go_enter Tryd.func19, Tryd.ntmps19
  go_upto_region 3 with (go_at_call 36; refine (HW.out _).mono ?_; rintro e w1 ⟨rfl, rfl⟩)
  go_cut [4] from 10 to 16 (fun v wx => ∃ w6 : World, v = .pointer (some ⟨w.heap.size + 1, 0, none⟩) ∧ w6 = wx ∧ Hid (TwoRows w w6 0 0 0 tx kd 0))
  case first J1 K1 hJ1 hK1 =>
    refine wp_region_any (by kernel_rfl) ?_
    change wpAny _ _ _ _ _ _ _ (World.drew _)
    refine wpAny_take (i := 0) (v := ?_) rfl (by kernel_rfl) (by kernel_rfl) (by kernel_rfl) (fun _ _ _ h => h) (Or.inl ⟨by kernel_rfl, ?_⟩) ?_
    rotate_left
    · intro w; go_simp; try with_reducible rfl
    refine wpAny_take (i := 1) (v := ?_) rfl (by kernel_rfl) (by kernel_rfl) (by kernel_rfl) (fun _ _ _ h => h) (Or.inl ⟨by kernel_rfl, ?_⟩) ?_
    rotate_left
    · intro w; go_simp; try with_reducible rfl
    refine wpAny_take (i := 3) (v := ?_) rfl (by kernel_rfl) (by kernel_rfl) (by kernel_rfl) (fun _ _ _ h => h) (Or.inl ⟨by kernel_rfl, ?_⟩) ?_
    rotate_left
    · intro w; go_simp; try with_reducible rfl
    refine wpAny_take (i := 4) (v := ?_) rfl (by kernel_rfl) (by kernel_rfl) (by kernel_rfl) (fun _ _ _ h => h) (Or.inl ⟨by kernel_rfl, ?_⟩) ?_
    rotate_left
    · intro w; go_simp; try with_reducible rfl
    refine wpAny_ready (rs := [2, 7]) (by kernel_rfl) (by simp) ?_
    refine AllReady.cons rfl (fun K hK => ?_) (AllReady.cons rfl (fun K hK => ?_) (AllReady.nil))
    · skip
      go_simp
      go_wp2_with (go_at_call 37; refine (HI.out _ _ _).mono ?_; rintro e wq ⟨rfl, rfl⟩)
      try (refine hK _ _ ?_; clear hK K)
      refine wpAny_ready (rs := [5, 7]) (by kernel_rfl) (by simp) ?_
      refine AllReady.cons rfl (fun K hK => ?_) (AllReady.cons rfl (fun K hK => ?_) (AllReady.nil))
      · skip
        go_simp
        go_wp2_with (go_at_call 37; refine (HI.out _ _ _).mono ?_; rintro e wq ⟨rfl, rfl⟩)
        try (refine hK _ _ ?_; clear hK K)
        refine wpAny_take (i := 6) (v := ?_) rfl (by kernel_rfl) (by kernel_rfl) (by kernel_rfl) (fun _ _ _ h => h) (Or.inl ⟨by kernel_rfl, ?_⟩) ?_
        rotate_left
        · intro w; go_simp; try with_reducible rfl
        refine wpAny_ready (rs := [7]) (by kernel_rfl) (by simp) ?_
        refine AllReady.cons rfl (fun K hK => ?_) AllReady.nil
        go_simp
        try (refine hK _ _ ?_; clear hK K)
        refine wpAny_ready (rs := [8]) (by kernel_rfl) (by simp) ?_
        refine AllReady.cons rfl (fun K hK => ?_) AllReady.nil
        go_simp
        try (refine hK _ _ ?_; clear hK K)
        refine wpAny_done (by kernel_rfl) ?_ _
        try go_simp
        refine hK1 _ _ (Met.intro (hJ1 _ _ ?_))
        (repeat apply Exists.intro)
        refine ⟨?_, rfl⟩
        exact ⟨_, rfl, rfl, HROW⟩
      · skip
        go_simp
        try (refine hK _ _ ?_; clear hK K)
        refine wpAny_ready (rs := [5]) (by kernel_rfl) (by simp) ?_
        refine AllReady.cons rfl (fun K hK => ?_) AllReady.nil
        go_simp
        go_wp2_with (go_at_call 37; refine (HI.out _ _ _).mono ?_; rintro e wq ⟨rfl, rfl⟩)
        try (refine hK _ _ ?_; clear hK K)
        refine wpAny_take (i := 6) (v := ?_) rfl (by kernel_rfl) (by kernel_rfl) (by kernel_rfl) (fun _ _ _ h => h) (Or.inl ⟨by kernel_rfl, ?_⟩) ?_
        rotate_left
        · intro w; go_simp; try with_reducible rfl
        refine wpAny_ready (rs := [8]) (by kernel_rfl) (by simp) ?_
        refine AllReady.cons rfl (fun K hK => ?_) AllReady.nil
        go_simp
        try (refine hK _ _ ?_; clear hK K)
        refine wpAny_done (by kernel_rfl) ?_ _
        try go_simp
        refine hK1 _ _ (Met.intro (hJ1 _ _ ?_))
        (repeat apply Exists.intro)
        refine ⟨?_, rfl⟩
        exact ⟨_, rfl, rfl, HROW⟩
    · skip
      go_simp
      try (refine hK _ _ ?_; clear hK K)
      refine wpAny_ready (rs := [2]) (by kernel_rfl) (by simp) ?_
      refine AllReady.cons rfl (fun K hK => ?_) AllReady.nil
      go_simp
      go_wp2_with (go_at_call 37; refine (HI.out _ _ _).mono ?_; rintro e wq ⟨rfl, rfl⟩)
      try (refine hK _ _ ?_; clear hK K)
      refine wpAny_ready (rs := [5]) (by kernel_rfl) (by simp) ?_
      refine AllReady.cons rfl (fun K hK => ?_) AllReady.nil
      go_simp
      go_wp2_with (go_at_call 37; refine (HI.out _ _ _).mono ?_; rintro e wq ⟨rfl, rfl⟩)
      try (refine hK _ _ ?_; clear hK K)
      refine wpAny_take (i := 6) (v := ?_) rfl (by kernel_rfl) (by kernel_rfl) (by kernel_rfl) (fun _ _ _ h => h) (Or.inl ⟨by kernel_rfl, ?_⟩) ?_
      rotate_left
      · intro w; go_simp; try with_reducible rfl
      refine wpAny_ready (rs := [8]) (by kernel_rfl) (by simp) ?_
      refine AllReady.cons rfl (fun K hK => ?_) AllReady.nil
      go_simp
      try (refine hK _ _ ?_; clear hK K)
      refine wpAny_done (by kernel_rfl) ?_ _
      try go_simp
      refine hK1 _ _ (Met.intro (hJ1 _ _ ?_))
      (repeat apply Exists.intro)
      refine ⟨?_, rfl⟩
      exact ⟨_, rfl, rfl, HROW⟩
  obtain ⟨w6, rfl, rfl, HR6⟩ := hcut
  have hR6 := HR6.out
  obtain ⟨r0, r1, hbW⟩ := hR6
  obtain ⟨W, hW⟩ : ∃ W : World, W = w6 := ⟨_, rfl⟩
  subst hW
  clear HR6 HROW
  go_wp2_with fail
  obtain ⟨wd, hwd⟩ : ∃ wd : World, wd = W.drew := ⟨_, rfl⟩
  have hS : OpS w tx kd 0 wd := by
    rw [hwd]
    exact ⟨r1, ⟨0, 0, 0, r0⟩, hbW.drew⟩
  have HWD := Lib.hid hwd
  have HF2 := HFIN
  clear hwd r0 r1 hbW HFIN
  cases V
  · skip
    refine wp_region_held (S := OpS w tx kd 0) (by kernel_rfl) ?_
    change wpAnyH _ _ _ _ _ _ _ _ (World.drew _)
    rw [← HWD.out]
    refine wpAnyH_take (i := 0) (v := ?_) rfl (by kernel_rfl) (by kernel_rfl) (by kernel_rfl) (fun _ _ _ h => h) (Or.inl ⟨by kernel_rfl, ?_⟩) hS ?_
    rotate_left
    · intro u hu; obtain ⟨c0, c1, c2⟩ := OpS.cells hu; go_simp; try with_reducible rfl
    refine wpAnyH_take (i := 1) (v := ?_) rfl (by kernel_rfl) (by kernel_rfl) (by kernel_rfl) (fun _ _ _ h => h) (Or.inl ⟨by kernel_rfl, ?_⟩) hS ?_
    rotate_left
    · intro u hu; obtain ⟨c0, c1, c2⟩ := OpS.cells hu; go_simp; try with_reducible rfl
    refine readyH (rs := [2]) (by kernel_rfl) (by simp) ?_
    refine ReadyH.cons rfl (fun K hK => ?_) (ReadyH.nil)
    go_simp
    go_wp2_with (go_at_call 28; refine (HV.out _).mono ?_; rintro e w2 ⟨rfl, hb2⟩; have hS2 := OpS.below hS hb2; clear hb2)
    refine hK _ _ hS2 ?_
    clear hK K hS
    have hS := hS2
    clear hS2
    refine wpAnyH_take (i := 3) (v := ?_) rfl (by kernel_rfl) (by kernel_rfl) (by kernel_rfl) (fun _ _ _ h => h) (Or.inl ⟨by kernel_rfl, ?_⟩) hS ?_
    rotate_left
    · intro w _; go_simp; try with_reducible rfl
    refine wpAnyH_take (i := 4) (v := undef) rfl (by kernel_rfl) (by kernel_rfl) (by kernel_rfl) (fun _ _ _ h => h) (Or.inr ⟨by kernel_rfl, rfl⟩) hS ?_
    refine wpAnyH_take (i := 5) (v := undef) rfl (by kernel_rfl) (by kernel_rfl) (by kernel_rfl) (fun _ _ _ h => h) (Or.inr ⟨by kernel_rfl, rfl⟩) hS ?_
    refine wpAnyH_take (i := 6) (v := undef) rfl (by kernel_rfl) (by kernel_rfl) (by kernel_rfl) (fun _ _ _ h => h) (Or.inr ⟨by kernel_rfl, rfl⟩) hS ?_
    refine wpAnyH_take (i := 7) (v := undef) rfl (by kernel_rfl) (by kernel_rfl) (by kernel_rfl) (fun _ _ _ h => h) (Or.inr ⟨by kernel_rfl, rfl⟩) hS ?_
    refine wpAnyH_take (i := 8) (v := ?_) rfl (by kernel_rfl) (by kernel_rfl) (by kernel_rfl) (fun _ _ _ h => h) (Or.inl ⟨by kernel_rfl, ?_⟩) hS ?_
    rotate_left
    · intro w _; go_simp; try with_reducible rfl
    obtain ⟨⟨za, zb, zc, z0, z1, z2⟩, y0, y1, y2⟩ := OpS.other hS
    refine readyH (rs := [9]) (by kernel_rfl) (by simp) ?_
    refine ReadyH.cons rfl (fun K hK => ?_) (ReadyH.nil)
    go_simp
    try go_wp2_with fail
    have hS2 := OpS.store (tx := tx) (kd := kd) (it := 0) hS
    refine hK _ _ hS2 ?_
    clear hK K hS
    have hS := hS2
    clear hS2
    refine wpAnyH_take (i := 10) (v := ?_) rfl (by kernel_rfl) (by kernel_rfl) (by kernel_rfl) (fun _ _ _ h => h) (Or.inl ⟨by kernel_rfl, ?_⟩) hS ?_
    rotate_left
    · intro w _; go_simp; try with_reducible rfl
    refine wpAnyH_done (by kernel_rfl) ?_ _
    try go_simp
    go_wp2_with fail
    refine bodyPost_ret (v := .tuple #[.agg #[.int .i64 tx, .int .i64 kd, .int .i64 0], .bool (false)]) (by simp [results, Tryd.results19, go_sem, z0, z1, z2]) rfl ?_
    exact HF2.out _ _ rfl hS.2.2
  · skip
    refine wp_region_held (S := OpS w tx kd 0) (by kernel_rfl) ?_
    change wpAnyH _ _ _ _ _ _ _ _ (World.drew _)
    rw [← HWD.out]
    refine wpAnyH_take (i := 0) (v := ?_) rfl (by kernel_rfl) (by kernel_rfl) (by kernel_rfl) (fun _ _ _ h => h) (Or.inl ⟨by kernel_rfl, ?_⟩) hS ?_
    rotate_left
    · intro u hu; obtain ⟨c0, c1, c2⟩ := OpS.cells hu; go_simp; try with_reducible rfl
    refine wpAnyH_take (i := 1) (v := ?_) rfl (by kernel_rfl) (by kernel_rfl) (by kernel_rfl) (fun _ _ _ h => h) (Or.inl ⟨by kernel_rfl, ?_⟩) hS ?_
    rotate_left
    · intro u hu; obtain ⟨c0, c1, c2⟩ := OpS.cells hu; go_simp; try with_reducible rfl
    refine readyH (rs := [2]) (by kernel_rfl) (by simp) ?_
    refine ReadyH.cons rfl (fun K hK => ?_) (ReadyH.nil)
    go_simp
    go_wp2_with (go_at_call 28; refine (HV.out _).mono ?_; rintro e w2 ⟨rfl, hb2⟩; have hS2 := OpS.below hS hb2; clear hb2)
    refine hK _ _ hS2 ?_
    clear hK K hS
    have hS := hS2
    clear hS2
    refine wpAnyH_take (i := 3) (v := ?_) rfl (by kernel_rfl) (by kernel_rfl) (by kernel_rfl) (fun _ _ _ h => h) (Or.inl ⟨by kernel_rfl, ?_⟩) hS ?_
    rotate_left
    · intro w _; go_simp; try with_reducible rfl
    refine wpAnyH_take (i := 4) (v := ?_) rfl (by kernel_rfl) (by kernel_rfl) (by kernel_rfl) (fun _ _ _ h => h) (Or.inl ⟨by kernel_rfl, ?_⟩) hS ?_
    rotate_left
    · intro u hu; obtain ⟨c0, c1, c2⟩ := OpS.cells hu; go_simp; try with_reducible rfl
    refine wpAnyH_take (i := 6) (v := ?_) rfl (by kernel_rfl) (by kernel_rfl) (by kernel_rfl) (fun _ _ _ h => h) (Or.inl ⟨by kernel_rfl, ?_⟩) hS ?_
    rotate_left
    · intro w _; go_simp; try with_reducible rfl
    refine readyH (rs := [5]) (by kernel_rfl) (by simp) ?_
    refine ReadyH.cons rfl (fun K hK => ?_) (ReadyH.nil)
    go_simp
    go_wp2_with (go_at_call 24; refine (HT.out (by trivial) _).mono ?_; rintro e w3 ⟨rfl, hb3⟩; have hS2 := OpS.below hS hb3; clear hb3)
    refine hK _ _ hS2 ?_
    clear hK K hS
    have hS := hS2
    clear hS2
    refine wpAnyH_take (i := 7) (v := ?_) rfl (by kernel_rfl) (by kernel_rfl) (by kernel_rfl) (fun _ _ _ h => h) (Or.inl ⟨by kernel_rfl, ?_⟩) hS ?_
    rotate_left
    · intro w _; go_simp; try with_reducible rfl
    refine wpAnyH_take (i := 8) (v := ?_) rfl (by kernel_rfl) (by kernel_rfl) (by kernel_rfl) (fun _ _ _ h => h) (Or.inl ⟨by kernel_rfl, ?_⟩) hS ?_
    rotate_left
    · intro w _; go_simp; try with_reducible rfl
    obtain ⟨⟨za, zb, zc, z0, z1, z2⟩, y0, y1, y2⟩ := OpS.other hS
    refine readyH (rs := [9]) (by kernel_rfl) (by simp) ?_
    refine ReadyH.cons rfl (fun K hK => ?_) (ReadyH.nil)
    go_simp
    try go_wp2_with fail
    have hS2 := OpS.store (tx := tx) (kd := kd) (it := 0) hS
    refine hK _ _ hS2 ?_
    clear hK K hS
    have hS := hS2
    clear hS2
    refine wpAnyH_take (i := 10) (v := ?_) rfl (by kernel_rfl) (by kernel_rfl) (by kernel_rfl) (fun _ _ _ h => h) (Or.inl ⟨by kernel_rfl, ?_⟩) hS ?_
    rotate_left
    · intro w _; go_simp; try with_reducible rfl
    refine wpAnyH_done (by kernel_rfl) ?_ _
    try go_simp
    go_wp2_with fail
    refine bodyPost_ret (v := .tuple #[.agg #[.int .i64 tx, .int .i64 kd, .int .i64 0], .bool (T.toList == s.toList)]) (by simp [results, Tryd.results19, go_sem, z0, z1, z2]) rfl ?_
    exact HF2.out _ _ rfl hS.2.2

set_option maxRecDepth 100000 in
set_option maxHeartbeats 4000000 in
theorem readOp_three (a b c : UInt8) (w : World) : Calls Tryd.prog 19 #[.string ⟨⟨[a, b, c]⟩⟩] w (RdRet [a, b, c] w) := by
  have HW := Lib.hid (within_any 3 2 3)
  rw [show inR 3 2 3 = true from rfl] at HW
  obtain ⟨s, hs⟩ : ∃ s : ByteArray, s = ⟨⟨[a, b, c]⟩⟩ := ⟨_, rfl⟩
  have e0 : ∀ h, s[0]'h = a := by subst hs; exact fun _ => rfl
  have e1 : ∀ h, s[1]'h = b := by subst hs; exact fun _ => rfl
  have e2 : ∀ h, s[2]'h = c := by subst hs; exact fun _ => rfl
  have hsz : s.size = 3 := by subst hs; rfl
  have HI : Hid (∀ (s : ByteArray) (c : UInt8) (w : World), Calls Tryd.prog 37 #[.string s, .int .u8 (c.toNat : Int)] w fun e w' => e = .returned (.int .i64 (Lib.indexByte s.data.toList c)) ∧ w' = w) := fun s c w => by
    have := IndexByte_any s (c.toNat : Int) w
    rwa [Int.toNat_natCast, Nat.toUInt8, UInt8.ofNat_toNat] at this
  have hrd : rdI [a, b, c] = ⟨Lib.indexByte tcs b, Lib.indexByte kcs a, Lib.indexByte xcs c⟩ := rfl
  have hok : okI [a, b, c] = (validOp (rdI [a, b, c]) && opL (rdI [a, b, c]) == [a, b, c]) := by unfold okI; simp
  obtain ⟨tx, htx⟩ : ∃ z, Lib.indexByte tcs b = z := ⟨_, rfl⟩
  obtain ⟨kd, hkd⟩ : ∃ z, Lib.indexByte kcs a = z := ⟨_, rfl⟩
  obtain ⟨it, hit⟩ : ∃ z, Lib.indexByte xcs c = z := ⟨_, rfl⟩
  rw [htx, hkd, hit] at hrd
  rw [hrd] at hok
  have HV := Lib.hid (valid_any ⟨tx, kd, it⟩)
  have HT0 := fun (h : validOp ⟨tx, kd, it⟩ = true) (w : World) => text_any h w
  unfold OpV.val at HV
  simp only [OpV.val] at HT0
  obtain ⟨V, hV⟩ : ∃ z, validOp ⟨tx, kd, it⟩ = z := ⟨_, rfl⟩
  obtain ⟨tl, htl⟩ : ∃ z, opL ⟨tx, kd, it⟩ = z := ⟨_, rfl⟩
  rw [hV, htl] at hok
  rw [hV] at HV
  simp only [hV, htl] at HT0
  obtain ⟨T, hT⟩ : ∃ T : ByteArray, T = ⟨⟨tl⟩⟩ := ⟨_, rfl⟩
  unfold strV at HT0
  rw [← hT] at HT0
  have HT := Lib.hid HT0
  have hTs : (T.toList == s.toList) = (tl == [a, b, c]) := by rw [Lib.toList_data, Lib.toList_data, hT, hs]
  have HFIN : Hid (∀ (q : Bool) (w' : World), q = (V && (T.toList == s.toList)) → Below w.heap.size w w' → RdRet [a, b, c] w (.returned (.tuple #[.agg #[.int .i64 tx, .int .i64 kd, .int .i64 it], .bool q])) w') := fun q w' hq hb =>
    ⟨⟨tx, kd, it⟩, by rw [hok, hq, hTs]; rfl, (fun _ => hrd.symm), hb⟩
  have HROW : Hid (TwoRows w (((w.alloc (.cells #[.int .i64 0, .int .i64 0, .int .i64 0] 38)).alloc (.cells #[.int .i64 tx, .int .i64 kd, .int .i64 0] 38)).drew) 0 0 0 tx kd 0) := two_rows rfl
  unfold kcs at hkd
  unfold tcs at htx
  unfold xcs at hit
  rw [← hs]
  clear hok hrd hV htl HT0 hT hTs hs
  go_enter Tryd.func19, Tryd.ntmps19
  go_upto_region 3 with (go_at_call 36; refine (HW.out _).mono ?_; rintro e w1 ⟨rfl, rfl⟩)
  go_cut [4] from 10 to 16 (fun v wx => ∃ w6 : World, v = .pointer (some ⟨w.heap.size + 1, 0, none⟩) ∧ w6 = wx ∧ Hid (TwoRows w w6 0 0 0 tx kd 0))
  case first J1 K1 hJ1 hK1 =>
    refine wp_region_any (by kernel_rfl) ?_
    change wpAny _ _ _ _ _ _ _ (World.drew _)
    refine wpAny_take (i := 0) (v := ?_) rfl (by kernel_rfl) (by kernel_rfl) (by kernel_rfl) (fun _ _ _ h => h) (Or.inl ⟨by kernel_rfl, ?_⟩) ?_
    rotate_left
    · intro w; go_simp; try with_reducible rfl
    refine wpAny_take (i := 1) (v := ?_) rfl (by kernel_rfl) (by kernel_rfl) (by kernel_rfl) (fun _ _ _ h => h) (Or.inl ⟨by kernel_rfl, ?_⟩) ?_
    rotate_left
    · intro w; go_simp; try with_reducible rfl
    refine wpAny_take (i := 3) (v := ?_) rfl (by kernel_rfl) (by kernel_rfl) (by kernel_rfl) (fun _ _ _ h => h) (Or.inl ⟨by kernel_rfl, ?_⟩) ?_
    rotate_left
    · intro w; go_simp; try with_reducible rfl
    refine wpAny_take (i := 4) (v := ?_) rfl (by kernel_rfl) (by kernel_rfl) (by kernel_rfl) (fun _ _ _ h => h) (Or.inl ⟨by kernel_rfl, ?_⟩) ?_
    rotate_left
    · intro w; go_simp; try with_reducible rfl
    refine wpAny_ready (rs := [2, 7]) (by kernel_rfl) (by simp) ?_
    refine AllReady.cons rfl (fun K hK => ?_) (AllReady.cons rfl (fun K hK => ?_) (AllReady.nil))
    · skip
      go_simp
      go_wp2_with (go_at_call 37; refine (HI.out _ _ _).mono ?_; rintro e wq ⟨rfl, rfl⟩)
      try (refine hK _ _ ?_; clear hK K)
      refine wpAny_ready (rs := [5, 7]) (by kernel_rfl) (by simp) ?_
      refine AllReady.cons rfl (fun K hK => ?_) (AllReady.cons rfl (fun K hK => ?_) (AllReady.nil))
      · skip
        go_simp
        go_wp2_with (go_at_call 37; refine (HI.out _ _ _).mono ?_; rintro e wq ⟨rfl, rfl⟩)
        try (refine hK _ _ ?_; clear hK K)
        refine wpAny_take (i := 6) (v := ?_) rfl (by kernel_rfl) (by kernel_rfl) (by kernel_rfl) (fun _ _ _ h => h) (Or.inl ⟨by kernel_rfl, ?_⟩) ?_
        rotate_left
        · intro w; go_simp; try with_reducible rfl
        refine wpAny_ready (rs := [7]) (by kernel_rfl) (by simp) ?_
        refine AllReady.cons rfl (fun K hK => ?_) AllReady.nil
        go_simp
        try (refine hK _ _ ?_; clear hK K)
        refine wpAny_ready (rs := [8]) (by kernel_rfl) (by simp) ?_
        refine AllReady.cons rfl (fun K hK => ?_) AllReady.nil
        go_simp
        try (refine hK _ _ ?_; clear hK K)
        refine wpAny_done (by kernel_rfl) ?_ _
        try go_simp
        refine hK1 _ _ (Met.intro (hJ1 _ _ ?_))
        (repeat apply Exists.intro)
        refine ⟨?_, rfl⟩
        exact ⟨_, rfl, rfl, HROW⟩
      · skip
        go_simp
        try (refine hK _ _ ?_; clear hK K)
        refine wpAny_ready (rs := [5]) (by kernel_rfl) (by simp) ?_
        refine AllReady.cons rfl (fun K hK => ?_) AllReady.nil
        go_simp
        go_wp2_with (go_at_call 37; refine (HI.out _ _ _).mono ?_; rintro e wq ⟨rfl, rfl⟩)
        try (refine hK _ _ ?_; clear hK K)
        refine wpAny_take (i := 6) (v := ?_) rfl (by kernel_rfl) (by kernel_rfl) (by kernel_rfl) (fun _ _ _ h => h) (Or.inl ⟨by kernel_rfl, ?_⟩) ?_
        rotate_left
        · intro w; go_simp; try with_reducible rfl
        refine wpAny_ready (rs := [8]) (by kernel_rfl) (by simp) ?_
        refine AllReady.cons rfl (fun K hK => ?_) AllReady.nil
        go_simp
        try (refine hK _ _ ?_; clear hK K)
        refine wpAny_done (by kernel_rfl) ?_ _
        try go_simp
        refine hK1 _ _ (Met.intro (hJ1 _ _ ?_))
        (repeat apply Exists.intro)
        refine ⟨?_, rfl⟩
        exact ⟨_, rfl, rfl, HROW⟩
    · skip
      go_simp
      try (refine hK _ _ ?_; clear hK K)
      refine wpAny_ready (rs := [2]) (by kernel_rfl) (by simp) ?_
      refine AllReady.cons rfl (fun K hK => ?_) AllReady.nil
      go_simp
      go_wp2_with (go_at_call 37; refine (HI.out _ _ _).mono ?_; rintro e wq ⟨rfl, rfl⟩)
      try (refine hK _ _ ?_; clear hK K)
      refine wpAny_ready (rs := [5]) (by kernel_rfl) (by simp) ?_
      refine AllReady.cons rfl (fun K hK => ?_) AllReady.nil
      go_simp
      go_wp2_with (go_at_call 37; refine (HI.out _ _ _).mono ?_; rintro e wq ⟨rfl, rfl⟩)
      try (refine hK _ _ ?_; clear hK K)
      refine wpAny_take (i := 6) (v := ?_) rfl (by kernel_rfl) (by kernel_rfl) (by kernel_rfl) (fun _ _ _ h => h) (Or.inl ⟨by kernel_rfl, ?_⟩) ?_
      rotate_left
      · intro w; go_simp; try with_reducible rfl
      refine wpAny_ready (rs := [8]) (by kernel_rfl) (by simp) ?_
      refine AllReady.cons rfl (fun K hK => ?_) AllReady.nil
      go_simp
      try (refine hK _ _ ?_; clear hK K)
      refine wpAny_done (by kernel_rfl) ?_ _
      try go_simp
      refine hK1 _ _ (Met.intro (hJ1 _ _ ?_))
      (repeat apply Exists.intro)
      refine ⟨?_, rfl⟩
      exact ⟨_, rfl, rfl, HROW⟩
  obtain ⟨w6, rfl, rfl, HR6⟩ := hcut
  have hR6 := HR6.out
  obtain ⟨r00, r1', hb6⟩ := hR6
  obtain ⟨x0, x1, x2, v0, v1, v2⟩ := row_cells r1'
  obtain ⟨W, hW⟩ : ∃ W : World, W = w6.setCell ⟨w.heap.size + 1, 2, none⟩ (.int .i64 it) := ⟨_, rfl⟩
  have r0 : RowIs W w.heap.size 38 (opRow 0 0 0) := by rw [hW]; exact (Below.heap_setCell w6 _ _ w.heap.size (by simp)).trans r00
  have r1 : RowIs W (w.heap.size + 1) 38 (opRow tx kd it) := by rw [hW]; exact RowIs.set r1' 2 (.int .i64 it)
  have hbW : Below w.heap.size w W := by rw [hW]; exact hb6.setCell (p := ⟨w.heap.size + 1, 2, none⟩) (by simp) _
  have HWE := Lib.hid hW
  clear r00 r1' hb6 hW HR6 HROW
  go_wp2_with (go_at_call 37; refine (HI.out _ _ _).mono ?_; rintro e wq ⟨rfl, rfl⟩)
  rw [← HWE.out]
  clear HWE x0 x1 x2 v0 v1 v2
  obtain ⟨wd, hwd⟩ : ∃ wd : World, wd = W.drew := ⟨_, rfl⟩
  have hS : OpS w tx kd it wd := by
    rw [hwd]
    exact ⟨r1, ⟨0, 0, 0, r0⟩, hbW.drew⟩
  have HWD := Lib.hid hwd
  have HF2 := HFIN
  clear hwd r0 r1 hbW HFIN
  cases V
  · skip
    refine wp_region_held (S := OpS w tx kd it) (by kernel_rfl) ?_
    change wpAnyH _ _ _ _ _ _ _ _ (World.drew _)
    rw [← HWD.out]
    refine wpAnyH_take (i := 0) (v := ?_) rfl (by kernel_rfl) (by kernel_rfl) (by kernel_rfl) (fun _ _ _ h => h) (Or.inl ⟨by kernel_rfl, ?_⟩) hS ?_
    rotate_left
    · intro u hu; obtain ⟨c0, c1, c2⟩ := OpS.cells hu; go_simp; try with_reducible rfl
    refine wpAnyH_take (i := 1) (v := ?_) rfl (by kernel_rfl) (by kernel_rfl) (by kernel_rfl) (fun _ _ _ h => h) (Or.inl ⟨by kernel_rfl, ?_⟩) hS ?_
    rotate_left
    · intro u hu; obtain ⟨c0, c1, c2⟩ := OpS.cells hu; go_simp; try with_reducible rfl
    refine readyH (rs := [2]) (by kernel_rfl) (by simp) ?_
    refine ReadyH.cons rfl (fun K hK => ?_) (ReadyH.nil)
    go_simp
    go_wp2_with (go_at_call 28; refine (HV.out _).mono ?_; rintro e w2 ⟨rfl, hb2⟩; have hS2 := OpS.below hS hb2; clear hb2)
    refine hK _ _ hS2 ?_
    clear hK K hS
    have hS := hS2
    clear hS2
    refine wpAnyH_take (i := 3) (v := ?_) rfl (by kernel_rfl) (by kernel_rfl) (by kernel_rfl) (fun _ _ _ h => h) (Or.inl ⟨by kernel_rfl, ?_⟩) hS ?_
    rotate_left
    · intro w _; go_simp; try with_reducible rfl
    refine wpAnyH_take (i := 4) (v := undef) rfl (by kernel_rfl) (by kernel_rfl) (by kernel_rfl) (fun _ _ _ h => h) (Or.inr ⟨by kernel_rfl, rfl⟩) hS ?_
    refine wpAnyH_take (i := 5) (v := undef) rfl (by kernel_rfl) (by kernel_rfl) (by kernel_rfl) (fun _ _ _ h => h) (Or.inr ⟨by kernel_rfl, rfl⟩) hS ?_
    refine wpAnyH_take (i := 6) (v := undef) rfl (by kernel_rfl) (by kernel_rfl) (by kernel_rfl) (fun _ _ _ h => h) (Or.inr ⟨by kernel_rfl, rfl⟩) hS ?_
    refine wpAnyH_take (i := 7) (v := undef) rfl (by kernel_rfl) (by kernel_rfl) (by kernel_rfl) (fun _ _ _ h => h) (Or.inr ⟨by kernel_rfl, rfl⟩) hS ?_
    refine wpAnyH_take (i := 8) (v := ?_) rfl (by kernel_rfl) (by kernel_rfl) (by kernel_rfl) (fun _ _ _ h => h) (Or.inl ⟨by kernel_rfl, ?_⟩) hS ?_
    rotate_left
    · intro w _; go_simp; try with_reducible rfl
    obtain ⟨⟨za, zb, zc, z0, z1, z2⟩, y0, y1, y2⟩ := OpS.other hS
    refine readyH (rs := [9]) (by kernel_rfl) (by simp) ?_
    refine ReadyH.cons rfl (fun K hK => ?_) (ReadyH.nil)
    go_simp
    try go_wp2_with fail
    have hS2 := OpS.store (tx := tx) (kd := kd) (it := it) hS
    refine hK _ _ hS2 ?_
    clear hK K hS
    have hS := hS2
    clear hS2
    refine wpAnyH_take (i := 10) (v := ?_) rfl (by kernel_rfl) (by kernel_rfl) (by kernel_rfl) (fun _ _ _ h => h) (Or.inl ⟨by kernel_rfl, ?_⟩) hS ?_
    rotate_left
    · intro w _; go_simp; try with_reducible rfl
    refine wpAnyH_done (by kernel_rfl) ?_ _
    try go_simp
    go_wp2_with fail
    refine bodyPost_ret (v := .tuple #[.agg #[.int .i64 tx, .int .i64 kd, .int .i64 it], .bool (false)]) (by simp [results, Tryd.results19, go_sem, z0, z1, z2]) rfl ?_
    exact HF2.out _ _ rfl hS.2.2
  · skip
    refine wp_region_held (S := OpS w tx kd it) (by kernel_rfl) ?_
    change wpAnyH _ _ _ _ _ _ _ _ (World.drew _)
    rw [← HWD.out]
    refine wpAnyH_take (i := 0) (v := ?_) rfl (by kernel_rfl) (by kernel_rfl) (by kernel_rfl) (fun _ _ _ h => h) (Or.inl ⟨by kernel_rfl, ?_⟩) hS ?_
    rotate_left
    · intro u hu; obtain ⟨c0, c1, c2⟩ := OpS.cells hu; go_simp; try with_reducible rfl
    refine wpAnyH_take (i := 1) (v := ?_) rfl (by kernel_rfl) (by kernel_rfl) (by kernel_rfl) (fun _ _ _ h => h) (Or.inl ⟨by kernel_rfl, ?_⟩) hS ?_
    rotate_left
    · intro u hu; obtain ⟨c0, c1, c2⟩ := OpS.cells hu; go_simp; try with_reducible rfl
    refine readyH (rs := [2]) (by kernel_rfl) (by simp) ?_
    refine ReadyH.cons rfl (fun K hK => ?_) (ReadyH.nil)
    go_simp
    go_wp2_with (go_at_call 28; refine (HV.out _).mono ?_; rintro e w2 ⟨rfl, hb2⟩; have hS2 := OpS.below hS hb2; clear hb2)
    refine hK _ _ hS2 ?_
    clear hK K hS
    have hS := hS2
    clear hS2
    refine wpAnyH_take (i := 3) (v := ?_) rfl (by kernel_rfl) (by kernel_rfl) (by kernel_rfl) (fun _ _ _ h => h) (Or.inl ⟨by kernel_rfl, ?_⟩) hS ?_
    rotate_left
    · intro w _; go_simp; try with_reducible rfl
    refine wpAnyH_take (i := 4) (v := ?_) rfl (by kernel_rfl) (by kernel_rfl) (by kernel_rfl) (fun _ _ _ h => h) (Or.inl ⟨by kernel_rfl, ?_⟩) hS ?_
    rotate_left
    · intro u hu; obtain ⟨c0, c1, c2⟩ := OpS.cells hu; go_simp; try with_reducible rfl
    refine wpAnyH_take (i := 6) (v := ?_) rfl (by kernel_rfl) (by kernel_rfl) (by kernel_rfl) (fun _ _ _ h => h) (Or.inl ⟨by kernel_rfl, ?_⟩) hS ?_
    rotate_left
    · intro w _; go_simp; try with_reducible rfl
    refine readyH (rs := [5]) (by kernel_rfl) (by simp) ?_
    refine ReadyH.cons rfl (fun K hK => ?_) (ReadyH.nil)
    go_simp
    go_wp2_with (go_at_call 24; refine (HT.out (by trivial) _).mono ?_; rintro e w3 ⟨rfl, hb3⟩; have hS2 := OpS.below hS hb3; clear hb3)
    refine hK _ _ hS2 ?_
    clear hK K hS
    have hS := hS2
    clear hS2
    refine wpAnyH_take (i := 7) (v := ?_) rfl (by kernel_rfl) (by kernel_rfl) (by kernel_rfl) (fun _ _ _ h => h) (Or.inl ⟨by kernel_rfl, ?_⟩) hS ?_
    rotate_left
    · intro w _; go_simp; try with_reducible rfl
    refine wpAnyH_take (i := 8) (v := ?_) rfl (by kernel_rfl) (by kernel_rfl) (by kernel_rfl) (fun _ _ _ h => h) (Or.inl ⟨by kernel_rfl, ?_⟩) hS ?_
    rotate_left
    · intro w _; go_simp; try with_reducible rfl
    obtain ⟨⟨za, zb, zc, z0, z1, z2⟩, y0, y1, y2⟩ := OpS.other hS
    refine readyH (rs := [9]) (by kernel_rfl) (by simp) ?_
    refine ReadyH.cons rfl (fun K hK => ?_) (ReadyH.nil)
    go_simp
    try go_wp2_with fail
    have hS2 := OpS.store (tx := tx) (kd := kd) (it := it) hS
    refine hK _ _ hS2 ?_
    clear hK K hS
    have hS := hS2
    clear hS2
    refine wpAnyH_take (i := 10) (v := ?_) rfl (by kernel_rfl) (by kernel_rfl) (by kernel_rfl) (fun _ _ _ h => h) (Or.inl ⟨by kernel_rfl, ?_⟩) hS ?_
    rotate_left
    · intro w _; go_simp; try with_reducible rfl
    refine wpAnyH_done (by kernel_rfl) ?_ _
    try go_simp
    go_wp2_with fail
    refine bodyPost_ret (v := .tuple #[.agg #[.int .i64 tx, .int .i64 kd, .int .i64 it], .bool (T.toList == s.toList)]) (by simp [results, Tryd.results19, go_sem, z0, z1, z2]) rfl ?_
    exact HF2.out _ _ rfl hS.2.2

/-- The program's readOp: whatever the text. -/
theorem readOp_any (l : List UInt8) (w : World) : Calls Tryd.prog 19 #[.string ⟨⟨l⟩⟩] w (RdRet l w) := by
  match l with
  | [] => exact readOp_off [] (by simp) w
  | [_] => exact readOp_off _ (by simp) w
  | [a, b] => exact readOp_two a b w
  | [a, b, c] => exact readOp_three a b c w
  | _ :: _ :: _ :: _ :: _ => exact readOp_off _ (.inr (by simp)) w
end Go.Proofs.YtddkjbibjjehjaaDoor
