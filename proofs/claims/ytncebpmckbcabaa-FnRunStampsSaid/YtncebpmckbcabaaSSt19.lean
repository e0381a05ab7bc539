/-
  Texts that the proof rests on, joined: part 19.
-/
import Derived.StillTailTactics
import Derived.Test.YtncebpmckbcabaaSSt5
import Derived.Test.YtncebpmckbcabaaSSt6
import Derived.Test.YtncebpmckbcabaaSSt14
import Derived.Test.YtncebpmckbcabaaSSt18
namespace Go.Proofs.Ytncebpmckbcabaa
open Go.RowKit Go.BigFrame
set_option linter.unusedVariables false

structure SsI (w : World) (rb wb : Nat) (S : StSt) (dv kv : Value) (nd nk : Nat) (W : World) : Prop where
  below : Below w.heap.size w W
  done : W.ownsRow w.heap.size 62 3 dv nd (opCells S.done)
  dead : W.ownsRow w.heap.size 3 1 kv nk (intCells S.dead)
  rd : RowIs W rb 3 (intCells S.rd)
  wr : RowIs W wb 3 (intCells S.wr)
  sr : kv.ownBlock ≠ some rb
  sw : kv.ownBlock ≠ some wb
  ne : rb ≠ wb
  rlow : w.heap.size ≤ rb
  wlow : w.heap.size ≤ wb
section
variable {w W W' : World} {rb wb nd nk : Nat} {S : StSt} {dv kv : Value}
theorem SsI.later (h : SsI w rb wb S dv kv nd nk W) (hb : Below W.heap.size W W') : SsI w rb wb S dv kv nd nk W' :=
  ⟨h.below.trans (hb.mono h.below.size), own_below h.done hb, own_below h.dead hb, h.rd.below hb (Nat.le_refl _), h.wr.below hb (Nat.le_refl _), h.sr, h.sw, h.ne, h.rlow, h.wlow⟩
theorem SsI.grownDone (h : SsI w rb wb S dv kv nd nk W) {D' : List OpV} {dv' : Value} {nd' : Nat} (hg : W.grownBy W' dv.ownBlock) (ho : W'.ownsRow w.heap.size 62 3 dv' nd' (opCells D')) : SsI w rb wb ⟨D', S.dead, S.rd, S.wr⟩ dv' kv nd' nk W' :=
  ⟨Below.own h.below h.done (Nat.le_refl _) hg, ho, own_apart h.dead h.done (fun e => op_ne_int e.symm) hg, h.rd.grown hg (own_ne h.done h.rd (fun e => op_ne_int e.symm)), h.wr.grown hg (own_ne h.done h.wr (fun e => op_ne_int e.symm)), h.sr, h.sw, h.ne, h.rlow, h.wlow⟩
theorem SsI.grownDead (h : SsI w rb wb S dv kv nd nk W) {K' : List Int} {kv' : Value} {nk' : Nat} (hg : W.grownBy W' kv.ownBlock) (ho : W'.ownsRow w.heap.size 3 1 kv' nk' (intCells K')) (hs : kv'.ownBlock ≠ some rb) (hs2 : kv'.ownBlock ≠ some wb) : SsI w rb wb ⟨S.done, K', S.rd, S.wr⟩ dv kv' nd nk' W' :=
  ⟨Below.own h.below h.dead (Nat.le_refl _) hg, own_apart h.done h.dead op_ne_int hg, ho, h.rd.grown hg h.sr, h.wr.grown hg h.sw, hs, hs2, h.ne, h.rlow, h.wlow⟩
theorem SsI.setR (h : SsI w rb wb S dv kv nd nk W) (h3 : S.rd.length = 3) {x : Nat} (hx : x < 3) (z : Int) : SsI w rb wb ⟨S.done, S.dead, S.rd.set x z, S.wr⟩ dv kv nd nk (W.setCell ⟨rb, x, none⟩ (.int .i64 z)) := by
  have hgr : W.grownBy (W.setCell ⟨rb, x, none⟩ (.int .i64 z)) (some rb) := grown_set
  refine ⟨h.below.setCell (by simpa using h.rlow) _, own_grown h.done hgr (fun b e => by injection e with e; subst e; exact own_ne h.done h.rd (fun e => op_ne_int e.symm)), own_grown h.dead hgr (fun b e => by injection e with e; subst e; exact h.sr), ?_, h.wr.grown hgr (fun e => by injection e with e; exact h.ne e), h.sr, h.sw, h.ne, h.rlow, h.wlow⟩
  have := row_setInt (ys := S.rd) (more := []) (k := x) (v := z) (by simpa using h.rd) (by omega)
  simpa using this
theorem SsI.setW (h : SsI w rb wb S dv kv nd nk W) (h3 : S.wr.length = 3) {x : Nat} (hx : x < 3) (z : Int) : SsI w rb wb ⟨S.done, S.dead, S.rd, S.wr.set x z⟩ dv kv nd nk (W.setCell ⟨wb, x, none⟩ (.int .i64 z)) := by
  have hgr : W.grownBy (W.setCell ⟨wb, x, none⟩ (.int .i64 z)) (some wb) := grown_set
  refine ⟨h.below.setCell (by simpa using h.wlow) _, own_grown h.done hgr (fun b e => by injection e with e; subst e; exact own_ne h.done h.wr (fun e => op_ne_int e.symm)), own_grown h.dead hgr (fun b e => by injection e with e; subst e; exact h.sw), h.rd.grown hgr (fun e => by injection e with e; exact h.ne e.symm), ?_, h.sr, h.sw, h.ne, h.rlow, h.wlow⟩
  have := row_setInt (ys := S.wr) (more := []) (k := x) (v := z) (by simpa using h.wr) (by omega)
  simpa using this
theorem SsI.drew (h : SsI w rb wb S dv kv nd nk W) : SsI w rb wb S dv kv nd nk W.drew := ⟨h.below.drew, h.done, h.dead, h.rd, h.wr, h.sr, h.sw, h.ne, h.rlow, h.wlow⟩
end
theorem at3_cell {w : World} {g : Nat} {V : List Int} (h : RowIs w g 3 (intCells V)) (hV : V.length = 3) {X : Nat} (hX : X < 3) : w.cell? ⟨g, X, none⟩ = some (.int .i64 (at3 V (X : Int))) := by
  refine h.cell ?_
  unfold at3
  simp [intCells, List.getD_eq_getElem?_getD, List.getElem?_eq_getElem (show X < V.length by omega)]
theorem row_new {w : World} {H : Nat} (hH : w.heap.size = H) (a b c : Int) : RowIs (w.alloc (.cells #[.int .i64 a, .int .i64 b, .int .i64 c] 3)) H 3 (intCells [a, b, c]) := by
  subst hH
  exact heap_alloc_new w _
set_option maxRecDepth 100000 in
set_option maxHeartbeats 8000000 in
theorem srunStamps_any (A : Option Addr) (n c : Nat) (s : List OpV) (skip : Bool) (w : World) (hx : ROps w A n s) (hv : validS s = true) (hn12 : n ≤ 12) :
    Calls Try.prog 84 #[.slice A n c, .bool skip] w (RetOI w (stRun s skip s.length).done (stRun s skip s.length).dead) := by
  have hn := hx.2.1
  have hl := hx.1
  have HX := Lib.hid hx
  have HV := Lib.hid hv
  clear hx hv
  obtain ⟨Wa, hWa⟩ : ∃ Wa : World, Wa = (((w.alloc (.cells #[] 62)).alloc (.cells #[] 3)).alloc (.cells #[.int .i64 (-1), .int .i64 (-1), .int .i64 (-1)] 3)).alloc (.cells #[.int .i64 (-1), .int .i64 (-1), .int .i64 (-1)] 3) := ⟨_, rfl⟩
  have hown1 : Wa.ownsRow w.heap.size 62 3 (.slice (some ⟨w.heap.size, 0, none⟩) 0 0) 0 (opCells []) := by
    rw [hWa]; exact (((World.ownsRow_made w #[] 0 (Nat.le_refl _) (by decide) rfl).alloc _).alloc _).alloc _
  have hown2 : Wa.ownsRow w.heap.size 3 1 (.slice (some ⟨w.heap.size + 1, 0, none⟩) 0 0) 0 (intCells []) := by
    have := ((World.ownsRow_made (base := w.heap.size) (e := 3) (size := 1) (w.alloc (.cells #[] 62)) #[] 0 (by simp) (by decide) rfl).alloc (.cells #[.int .i64 (-1), .int .i64 (-1), .int .i64 (-1)] 3)).alloc (.cells #[.int .i64 (-1), .int .i64 (-1), .int .i64 (-1)] 3)
    rw [hWa]
    show World.ownsRow _ _ _ _ _ _ []
    simpa using this
  have hrd : RowIs Wa (w.heap.size + 1 + 1) 3 (intCells [-1, -1, -1]) := by
    rw [hWa]
    exact RowIs.alloc (row_new (by simp) _ _ _) _
  have hwr : RowIs Wa (w.heap.size + 1 + 1 + 1) 3 (intCells [-1, -1, -1]) := by
    rw [hWa]
    exact row_new (by simp) _ _ _
  have hba : Below w.heap.size w Wa := by
    rw [hWa]
    exact ((((Below.refl _ _).alloc (Nat.le_refl _) _).alloc (by simp) _).alloc (by simp <;> omega) _).alloc (by simp <;> omega) _
  have HI0 : Hid (SsI w (w.heap.size + 1 + 1) (w.heap.size + 1 + 1 + 1) (stRun s skip 0) (.slice (some ⟨w.heap.size, 0, none⟩) 0 0) (.slice (some ⟨w.heap.size + 1, 0, none⟩) 0 0) 0 0 Wa) :=
    ⟨hba, hown1, hown2, hrd, hwr, by simp [Value.ownBlock] <;> omega, by simp [Value.ownBlock] <;> omega, by omega, by omega, by omega⟩
  have HWa := Lib.hid hWa
  clear hown1 hown2 hrd hwr hba hWa
  go_enter Try.func84, Try.ntmps84
  go_wp2_with fail
  rw [← HWa.out]
  clear HWa
  obtain ⟨wb, hwb⟩ : ∃ wb, w.heap.size + 1 + 1 + 1 = wb := ⟨_, rfl⟩
  rw [hwb] at HI0
  try rw [hwb]
  obtain ⟨rb, hrb⟩ : ∃ rb, w.heap.size + 1 + 1 = rb := ⟨_, rfl⟩
  rw [hrb] at HI0
  try rw [hrb]
  clear hrb hwb
  go_loopw [6, 7, 10] (fun dv kv i wr => ∃ (k nd nk : Nat), k ≤ n ∧ nd ≤ k ∧ nk ≤ k ∧ i = .int .i64 k ∧ SsI w rb wb (stRun s skip k) dv kv nd nk wr) (fun _ _ i _ => n - (intOf i).toNat)
  case atStart => exact ⟨0, 0, 0, by omega, by omega, by omega, rfl, HI0.out⟩
  case round =>
    clear HI0
    obtain ⟨wo, rfl⟩ : ∃ wo : World, wo = wr := ⟨_, rfl⟩
    obtain ⟨dv, rfl⟩ : ∃ z : Value, z = u6 := ⟨_, rfl⟩
    obtain ⟨kv, rfl⟩ : ∃ z : Value, z = u7 := ⟨_, rfl⟩
    obtain ⟨k, nd, nk, hk, hnd, hnk, rfl, hI⟩ := hrel
    by_cases hlt : k < n
    · have hxr := HX.out.below hI.below (Nat.le_refl _)
      obtain ⟨b, off, o, hA, hbl, ho, c0, c1, c2⟩ := hxr.at_ hlt
      subst hA
      have hom := List.mem_of_getElem? ho
      have hit := validS_item HV.out hom
      have hov := ((validS_iff s).1 HV.out).2.1 o hom
      have hst := stRun_succ (skip := skip) ho
      have hinv := stRun_inv HV.out skip k (by omega)
      have hrl := hinv.rl
      have hwl := hinv.wl
      clear hinv
      obtain ⟨S, hS⟩ : ∃ S, stRun s skip k = S := ⟨_, rfl⟩
      rw [hS] at hst hrl hwl hI
      have HSP : Hid (∀ W, Below wo.heap.size wo W → Calls Try.prog 119 #[.slice (some ⟨b, off, none⟩) n c, .int .i64 o.tx] W fun e w' => e = .returned (.int .i64 (stampN s o.tx : Nat)) ∧ Below W.heap.size W w') := fun W hW =>
        stampOf_any _ n c s o.tx W (hxr.below hW (Nat.le_refl _))
      have hkk : (isEnd o = true ∧ (o.kind = 2 ∨ o.kind = 3)) ∨ (isEnd o = false ∧ (o.kind = 0 ∨ o.kind = 1)) := by
        cases he : isEnd o
        · right
          have := acc_end hov
          rw [he] at this
          unfold isAcc at this
          exact ⟨rfl, by simpa using this.symm⟩
        · left
          unfold isEnd at he
          exact ⟨rfl, by simpa using he⟩
      obtain ⟨tx, kd, it⟩ := o
      simp only at c0 c1 c2 hit HSP hkk hst
      obtain ⟨x, rfl⟩ := Int.eq_ofNat_of_zero_le hit.1
      have hx3 : x < 3 := by omega
      have hxi : (x : Int) < 3 := by omega
      have hx0 : (0 : Int) ≤ (x : Int) := by omega
      obtain ⟨p, hp⟩ : ∃ p : Nat, stampN s tx = p := ⟨_, rfl⟩
      rw [hp] at hst HSP
      obtain ⟨W, hW⟩ : ∃ W : World, W = wo.alloc (.cells #[.int .i64 tx, .int .i64 kd, .int .i64 (x : Int)] 62) := ⟨_, rfl⟩
      obtain ⟨L0, L1, L2, hbW, hWs⟩ := op_box hW
      have hIW := hI.later hbW
      have x0 := L0 ⟨W, Below.refl _ _⟩
      simp only at x0
      have z0 := x0
      rw [hW] at z0
      obtain ⟨KA, kc, rfl, hkc⟩ := own_form2 hI.dead
      obtain ⟨bc, hbc⟩ : ∃ bc, (S.dead.any fun y => y == tx) = bc := ⟨_, rfl⟩
      have hdV : dv.ownBlock ≠ some wo.heap.size := own_lt hI.done (Nat.le_refl _)
      have hkV : (Value.slice KA nk kc).ownBlock ≠ some wo.heap.size := own_lt hI.dead (Nat.le_refl _)
      have hgr : wo.heap.size ≠ rb := fun e => by have := RowIs.lt hI.rd; omega
      have hgw : wo.heap.size ≠ wb := fun e => by have := RowIs.lt hI.wr; omega
      have HW := Lib.hid hW
      have HIW := Lib.hid hIW
      have HST := Lib.hid hst
      have hki : (k : Int) < (n : Int) := by omega
      have hk0 : (0 : Int) ≤ (k : Int) := by omega
      have HN : Hid (∀ W2, Below W.heap.size W W2 → Calls Try.prog 90 #[.slice KA nk kc, .int .i64 tx] W2 fun e w' => e = .returned (.bool bc) ∧ Below W2.heap.size W2 w') := fun W2 h2 => by
        have := hasInt_any KA nk kc S.dead tx W2 (RInts.of_own (hIW.later h2).dead (by omega))
        rw [hbc] at this; exact this
      have HE : Hid (∀ W2, Calls Try.prog 89 #[.agg #[.int .i64 tx, .int .i64 kd, .int .i64 (x : Int)]] W2 fun e w' => e = .returned (.bool (isEnd ⟨tx, kd, (x : Int)⟩)) ∧ Below W2.heap.size W2 w') := fun W2 => sends_any ⟨tx, kd, (x : Int)⟩ W2
      have HSW := Lib.hid (HSP.out W hbW)
      have HDC := Lib.hid hbc
      clear hxr ho hom hov hp hS hst hW hIW hI HSP hbc x0 hit
      go_wp2_with fail
      rw [← HW.out]
      clear z0 HW
      refine HSW.out.mono ?_
      rintro e w2 ⟨rfl, hb2⟩
      have HB2 := Lib.hid hb2
      have x0 := L0 ⟨w2, hb2⟩
      simp only at x0
      clear hb2 HSW
      go_wp2_with fail
      refine (HN.out w2 HB2.out).mono ?_
      rintro e w3 ⟨rfl, hb3⟩
      have HB3 := Lib.hid (HB2.out.trans (hb3.mono HB2.out.size))
      clear x0 hb3 HB2 HN
      cases bc
      · have hst1 := HST.out
        unfold stStep at hst1
        rw [if_neg (by rw [HDC.out]; simp)] at hst1
        have HST1 := Lib.hid hst1
        clear HST hst1
        have t0 := L0 ⟨w3, HB3.out⟩
        have t1 := L1 ⟨w3, HB3.out⟩
        have t2 := L2 ⟨w3, HB3.out⟩
        simp only at t0 t1 t2
        go_wp2_with fail
        refine (HE.out w3).mono ?_
        rintro e w4 ⟨rfl, hb4⟩
        clear t0 t1 t2
        have hbW4 := HB3.out.trans (hb4.mono HB3.out.size)
        have HI4 := Lib.hid (HIW.out.later hbW4)
        have y0 := L0 ⟨w4, hbW4⟩
        have y1 := L1 ⟨w4, hbW4⟩
        have y2 := L2 ⟨w4, hbW4⟩
        simp only at y0 y1 y2
        obtain ⟨q, hq⟩ : ∃ q, at3 S.wr (x : Int) = q := ⟨_, rfl⟩
        obtain ⟨r, hr⟩ : ∃ r, at3 S.rd (x : Int) = r := ⟨_, rfl⟩
        have cq : w4.cell? ⟨wb, x, none⟩ = some (.int .i64 q) := by rw [← hq]; exact at3_cell HI4.out.wr hwl hx3
        have cr : w4.cell? ⟨rb, x, none⟩ = some (.int .i64 r) := by rw [← hr]; exact at3_cell HI4.out.rd hrl hx3
        simp only [hq, hr] at HST1
        have HR := Lib.hid hr
        have hsz := HI4.out.below.size
        have h4g : wo.heap.size < w4.heap.size := block_lt_of_cell y0
        clear hb4 hbW4 HB3 L0 L1 L2 HE hq hr HIW hbW hWs
        rcases hkk with ⟨he, hkd⟩ | ⟨he, hkd⟩
        · rw [he]
          have hs : Hid (stRun s skip (k + 1) = ⟨S.done ++ [⟨tx, kd, (x : Int)⟩], S.dead, S.rd, S.wr⟩) := by have := HST1.out; rw [he, if_pos rfl] at this; exact this
          clear HST1 he
          rcases hkd with rfl | rfl
          · have hdo := HI4.out.done
            go_wp2_with (at_builtin; refine app_ops (.tmp 115) (.tmp 117) (hdo.alloc _) (by simp; omega) (ROps.litH (by simp) ⟨_, _, _⟩ _) (by omega) rfl rfl rfl rfl ?_; intro v7 w7 hown7 hg7 hat7)
            have hg7' := World.grownBy.trans (World.grownBy_alloc _ _ _) hg7
            have hI7 := HI4.out.grownDone hg7' hown7
            go_roundw
            case rel => exact ⟨k + 1, nd + 1, nk, by omega, by omega, by omega, by go_num, by rw [hs.out]; exact hI7⟩
            case measure => simp [intOf]; omega
          · have hdo := HI4.out.done
            go_wp2_with (at_builtin; refine app_ops (.tmp 115) (.tmp 117) (hdo.alloc _) (by simp; omega) (ROps.litH (by simp) ⟨_, _, _⟩ _) (by omega) rfl rfl rfl rfl ?_; intro v7 w7 hown7 hg7 hat7)
            have hg7' := World.grownBy.trans (World.grownBy_alloc _ _ _) hg7
            have hI7 := HI4.out.grownDone hg7' hown7
            go_roundw
            case rel => exact ⟨k + 1, nd + 1, nk, by omega, by omega, by omega, by go_num, by rw [hs.out]; exact hI7⟩
            case measure => simp [intOf]; omega
        · rw [he]
          have hst2 := HST1.out
          rw [he, if_neg (by simp)] at hst2
          have HST2 := Lib.hid hst2
          clear HST1 hst2 he
          rcases hkd with rfl | rfl
          · by_cases hpq : (p : Int) < q
            · have hs : Hid (stRun s skip (k + 1) = ⟨S.done ++ [⟨tx, 3, 0⟩], S.dead ++ [tx], S.rd, S.wr⟩) := by have := HST2.out; rw [if_pos (by rfl), if_pos hpq] at this; exact this
              have hd : decide ((p : Int) < q) = true := decide_eq_true hpq
              clear HST2
              have hdo := HI4.out.done
              go_wp2_with (first
                | (at_builtin; refine app_ops (.tmp 70) (.tmp 74) (hdo.alloc _) (by simp; omega) (ROps.litH (by simp) ⟨_, _, _⟩ _) (by omega) rfl rfl rfl rfl ?_; intro v7 w7 hown7 hg7 hat7; have hg7' := World.grownBy.trans (World.grownBy_alloc w4 _ _) hg7; have hI7 := HI4.out.grownDone hg7' hown7; have hka7 := hI7.dead; have s0 := (hg7'.cell (a := ⟨wo.heap.size, 0, none⟩) y0 (fun e => hdV e.symm)); have hsz7 := hI7.below.size; have HI7 := Lib.hid hI7; clear hI7)
                | (at_builtin; refine app_ints (.tmp 76) (.tmp 79) (hka7.alloc _) (by simp; omega) (lit1 rfl _) (by omega) rfl rfl rfl rfl ?_; intro v8 w8 hown8 hg8 hat8))
              have hg8' := World.grownBy.trans (World.grownBy_alloc w7 _ _) hg8
              have hI8 := HI7.out.grownDead hg8' hown8 (nb_app HI7.out.sr hat8 (by have := RowIs.lt HI7.out.rd; simp; omega)) (nb_app HI7.out.sw hat8 (by have := RowIs.lt HI7.out.wr; simp; omega))
              go_roundw
              case rel => exact ⟨k + 1, nd + 1, nk + 1, by omega, by omega, by omega, by go_num, by rw [hs.out]; exact hI8⟩
              case measure => simp [intOf]; omega
            · have hs : Hid (stRun s skip (k + 1) = ⟨S.done ++ [⟨tx, 0, (x : Int)⟩], S.dead, S.rd.set x (max r p), S.wr⟩) := by have := HST2.out; rw [if_pos (by rfl), if_neg hpq] at this; unfold stRead at this; simp only [Int.toNat_natCast, HR.out] at this; exact this
              have hd : decide ((p : Int) < q) = false := decide_eq_false hpq
              clear HST2
              have ecr : w4.drew.cell? ⟨rb, x, none⟩ = some (.int .i64 r) := cr
              have ezr : w4.drew.frozen? ⟨rb, x, none⟩ = false := RowIs.frozen HI4.out.rd x
              have hIN := (HI4.out.setR hrl hx3 (max r (p : Int))).drew
              have HIN := Lib.hid hIN
              have hdo := hIN.done
              have hszN := hIN.below.size
              have hcc : ∀ i, ((w4.setCell ⟨rb, x, none⟩ (.int .i64 (max r (p : Int)))).drew).cell? ⟨wo.heap.size, i, none⟩ = w4.cell? ⟨wo.heap.size, i, none⟩ := fun i => World.cell?_setCell_other w4 _ _ _ (by simp)
              have u0 := (hcc 0).trans y0
              have u1 := (hcc 1).trans y1
              have u2 := (hcc 2).trans y2
              clear hIN hcc
              go_wp2_with fail
              refine wp_region_still_tail 11 (by kernel_rfl) (by kernel_rfl) ?_
              simp only [List.take_succ_cons, List.take_zero, List.drop_succ_cons, List.drop_zero]
              repeat (first | still_step)
              refine wpStill_nil ?_
              change wpList _ _ _ _ _ w4.drew
              go_wp2_with (at_builtin; refine app_ops (.tmp 115) (.tmp 117) (hdo.alloc _) (by simp; omega) (ROps.litH (by simp) ⟨_, _, _⟩ _) (by omega) rfl rfl rfl rfl ?_; intro v7 w7 hown7 hg7 hat7)
              have hg7' : (w4.setCell ⟨rb, x, none⟩ (.int .i64 (max r (p : Int)))).drew.grownBy w7 dv.ownBlock := World.grownBy.trans (World.grownBy_alloc ((w4.setCell ⟨rb, x, none⟩ (.int .i64 (max r (p : Int)))).drew) (.cells #[.int .i64 tx, .int .i64 0, .int .i64 (x : Int)] 62) dv.ownBlock) hg7
              have hI7 := HIN.out.grownDone hg7' hown7
              go_roundw
              case rel => exact ⟨k + 1, nd + 1, nk, by omega, by omega, by omega, by go_num, by rw [hs.out]; exact hI7⟩
              case measure => simp [intOf]; omega
          · by_cases hpr : (p : Int) < r
            · have hs : Hid (stRun s skip (k + 1) = ⟨S.done ++ [⟨tx, 3, 0⟩], S.dead ++ [tx], S.rd, S.wr⟩) := by have := HST2.out; rw [if_neg (by decide), if_pos hpr] at this; exact this
              have hdr : decide ((p : Int) < r) = true := decide_eq_true hpr
              clear HST2
              by_cases hpq : (p : Int) < q
              · have hd : decide ((p : Int) < q) = true := decide_eq_true hpq
                cases skip
                · have hdo := HI4.out.done
                  go_wp2_with (first
                    | (at_builtin; refine app_ops (.tmp 70) (.tmp 74) (hdo.alloc _) (by simp; omega) (ROps.litH (by simp) ⟨_, _, _⟩ _) (by omega) rfl rfl rfl rfl ?_; intro v7 w7 hown7 hg7 hat7; have hg7' := World.grownBy.trans (World.grownBy_alloc w4 _ _) hg7; have hI7 := HI4.out.grownDone hg7' hown7; have hka7 := hI7.dead; have s0 := (hg7'.cell (a := ⟨wo.heap.size, 0, none⟩) y0 (fun e => hdV e.symm)); have hsz7 := hI7.below.size; have HI7 := Lib.hid hI7; clear hI7)
                    | (at_builtin; refine app_ints (.tmp 76) (.tmp 79) (hka7.alloc _) (by simp; omega) (lit1 rfl _) (by omega) rfl rfl rfl rfl ?_; intro v8 w8 hown8 hg8 hat8))
                  have hg8' := World.grownBy.trans (World.grownBy_alloc w7 _ _) hg8
                  have hI8 := HI7.out.grownDead hg8' hown8 (nb_app HI7.out.sr hat8 (by have := RowIs.lt HI7.out.rd; simp; omega)) (nb_app HI7.out.sw hat8 (by have := RowIs.lt HI7.out.wr; simp; omega))
                  go_roundw
                  case rel => exact ⟨k + 1, nd + 1, nk + 1, by omega, by omega, by omega, by go_num, by rw [hs.out]; exact hI8⟩
                  case measure => simp [intOf]; omega
                · have hdo := HI4.out.done
                  go_wp2_with (first
                    | (at_builtin; refine app_ops (.tmp 70) (.tmp 74) (hdo.alloc _) (by simp; omega) (ROps.litH (by simp) ⟨_, _, _⟩ _) (by omega) rfl rfl rfl rfl ?_; intro v7 w7 hown7 hg7 hat7; have hg7' := World.grownBy.trans (World.grownBy_alloc w4 _ _) hg7; have hI7 := HI4.out.grownDone hg7' hown7; have hka7 := hI7.dead; have s0 := (hg7'.cell (a := ⟨wo.heap.size, 0, none⟩) y0 (fun e => hdV e.symm)); have hsz7 := hI7.below.size; have HI7 := Lib.hid hI7; clear hI7)
                    | (at_builtin; refine app_ints (.tmp 76) (.tmp 79) (hka7.alloc _) (by simp; omega) (lit1 rfl _) (by omega) rfl rfl rfl rfl ?_; intro v8 w8 hown8 hg8 hat8))
                  have hg8' := World.grownBy.trans (World.grownBy_alloc w7 _ _) hg8
                  have hI8 := HI7.out.grownDead hg8' hown8 (nb_app HI7.out.sr hat8 (by have := RowIs.lt HI7.out.rd; simp; omega)) (nb_app HI7.out.sw hat8 (by have := RowIs.lt HI7.out.wr; simp; omega))
                  go_roundw
                  case rel => exact ⟨k + 1, nd + 1, nk + 1, by omega, by omega, by omega, by go_num, by rw [hs.out]; exact hI8⟩
                  case measure => simp [intOf]; omega
              · have hd : decide ((p : Int) < q) = false := decide_eq_false hpq
                have hdo := HI4.out.done
                go_wp2_with (first
                  | (at_builtin; refine app_ops (.tmp 70) (.tmp 74) (hdo.alloc _) (by simp; omega) (ROps.litH (by simp) ⟨_, _, _⟩ _) (by omega) rfl rfl rfl rfl ?_; intro v7 w7 hown7 hg7 hat7; have hg7' := World.grownBy.trans (World.grownBy_alloc w4 _ _) hg7; have hI7 := HI4.out.grownDone hg7' hown7; have hka7 := hI7.dead; have s0 := (hg7'.cell (a := ⟨wo.heap.size, 0, none⟩) y0 (fun e => hdV e.symm)); have hsz7 := hI7.below.size; have HI7 := Lib.hid hI7; clear hI7)
                  | (at_builtin; refine app_ints (.tmp 76) (.tmp 79) (hka7.alloc _) (by simp; omega) (lit1 rfl _) (by omega) rfl rfl rfl rfl ?_; intro v8 w8 hown8 hg8 hat8))
                have hg8' := World.grownBy.trans (World.grownBy_alloc w7 _ _) hg8
                have hI8 := HI7.out.grownDead hg8' hown8 (nb_app HI7.out.sr hat8 (by have := RowIs.lt HI7.out.rd; simp; omega)) (nb_app HI7.out.sw hat8 (by have := RowIs.lt HI7.out.wr; simp; omega))
                go_roundw
                case rel => exact ⟨k + 1, nd + 1, nk + 1, by omega, by omega, by omega, by go_num, by rw [hs.out]; exact hI8⟩
                case measure => simp [intOf]; omega
            · have hdr : decide ((p : Int) < r) = false := decide_eq_false hpr
              by_cases hpq : (p : Int) < q
              · have hd : decide ((p : Int) < q) = true := decide_eq_true hpq
                cases skip
                · have hs : Hid (stRun s false (k + 1) = ⟨S.done ++ [⟨tx, 3, 0⟩], S.dead ++ [tx], S.rd, S.wr⟩) := by have := HST2.out; rw [if_neg (by decide), if_neg hpr, if_pos hpq] at this; exact this
                  clear HST2
                  have hdo := HI4.out.done
                  go_wp2_with (first
                    | (at_builtin; refine app_ops (.tmp 70) (.tmp 74) (hdo.alloc _) (by simp; omega) (ROps.litH (by simp) ⟨_, _, _⟩ _) (by omega) rfl rfl rfl rfl ?_; intro v7 w7 hown7 hg7 hat7; have hg7' := World.grownBy.trans (World.grownBy_alloc w4 _ _) hg7; have hI7 := HI4.out.grownDone hg7' hown7; have hka7 := hI7.dead; have s0 := (hg7'.cell (a := ⟨wo.heap.size, 0, none⟩) y0 (fun e => hdV e.symm)); have hsz7 := hI7.below.size; have HI7 := Lib.hid hI7; clear hI7)
                    | (at_builtin; refine app_ints (.tmp 76) (.tmp 79) (hka7.alloc _) (by simp; omega) (lit1 rfl _) (by omega) rfl rfl rfl rfl ?_; intro v8 w8 hown8 hg8 hat8))
                  have hg8' := World.grownBy.trans (World.grownBy_alloc w7 _ _) hg8
                  have hI8 := HI7.out.grownDead hg8' hown8 (nb_app HI7.out.sr hat8 (by have := RowIs.lt HI7.out.rd; simp; omega)) (nb_app HI7.out.sw hat8 (by have := RowIs.lt HI7.out.wr; simp; omega))
                  go_roundw
                  case rel => exact ⟨k + 1, nd + 1, nk + 1, by omega, by omega, by omega, by go_num, by rw [hs.out]; exact hI8⟩
                  case measure => simp [intOf]; omega
                · have hs : Hid (stRun s true (k + 1) = S) := by have := HST2.out; rw [if_neg (by decide), if_neg hpr, if_pos hpq] at this; exact this
                  clear HST2
                  go_wp2_with fail
                  go_roundw
                  case rel => exact ⟨k + 1, nd, nk, by omega, by omega, by omega, by go_num, by rw [hs.out]; exact HI4.out⟩
                  case measure => simp [intOf]; omega
              · have hs : Hid (stRun s skip (k + 1) = ⟨S.done ++ [⟨tx, 1, (x : Int)⟩], S.dead, S.rd, S.wr.set x p⟩) := by have := HST2.out; rw [if_neg (by decide), if_neg hpr, if_neg hpq] at this; unfold stWrite at this; simp only [Int.toNat_natCast] at this; exact this
                have hd : decide ((p : Int) < q) = false := decide_eq_false hpq
                clear HST2
                have ezw : w4.frozen? ⟨wb, x, none⟩ = false := RowIs.frozen HI4.out.wr x
                have hIN := HI4.out.setW hwl hx3 (p : Int)
                have HIN := Lib.hid hIN
                have hdo := hIN.done
                have hszN := hIN.below.size
                have hcc : ∀ i, (w4.setCell ⟨wb, x, none⟩ (.int .i64 (p : Int))).cell? ⟨wo.heap.size, i, none⟩ = w4.cell? ⟨wo.heap.size, i, none⟩ := fun i => World.cell?_setCell_other w4 _ _ _ (by simp)
                have u0 := (hcc 0).trans y0
                have u1 := (hcc 1).trans y1
                have u2 := (hcc 2).trans y2
                clear hIN hcc
                go_wp2_with (at_builtin; refine app_ops (.tmp 115) (.tmp 117) (hdo.alloc _) (by simp; omega) (ROps.litH (by simp) ⟨_, _, _⟩ _) (by omega) rfl rfl rfl rfl ?_; intro v7 w7 hown7 hg7 hat7)
                have hg7' := World.grownBy.trans (World.grownBy_alloc _ _ _) hg7
                have hI7 := HIN.out.grownDone hg7' hown7
                go_roundw
                case rel => exact ⟨k + 1, nd + 1, nk, by omega, by omega, by omega, by go_num, by rw [hs.out]; exact hI7⟩
                case measure => simp [intOf]; omega
      · have hs : Hid (stRun s skip (k + 1) = S) := by
          have := HST.out
          unfold stStep at this
          rw [if_pos HDC.out] at this
          exact this
        have hI3 := HIW.out.later HB3.out
        clear HST
        go_wp2_with fail
        go_roundw
        case rel => exact ⟨k + 1, nd, nk, by omega, by omega, by omega, by go_num, by rw [hs.out]; exact hI3⟩
        case measure => simp [intOf]; omega
    · have e : k = s.length := by omega
      obtain ⟨DA, dc, rfl, hdc⟩ := own_form2 hI.done
      obtain ⟨KA, kc, rfl, hkc⟩ := own_form2 hI.dead
      rw [e] at hI
      have HO := Lib.hid (RetOI.mk (own_lenOps hI.done) (own_lenInts hI.dead) hdc hkc (FreshOps.of_own hI.done (Nat.le_refl _) (by omega)) (FreshInts.of_own hI.dead (Nat.le_refl _) (by omega)) hI.below)
      clear hI e
      go_wp2_with fail
      go_ret2
      exact HO.out
end Go.Proofs.Ytncebpmckbcabaa
