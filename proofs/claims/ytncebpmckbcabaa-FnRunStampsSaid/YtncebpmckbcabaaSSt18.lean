/-
  Texts that the proof rests on, joined: part 18.
-/
import Derived.Test.YtncebpmckbcabaaSSt4
import Derived.Test.YtncebpmckbcabaaSSt6
import Derived.Test.YtncebpmckbcabaaSSt8
import Derived.Test.YtncebpmckbcabaaSSt11
import Derived.Test.YtncebpmckbcabaaSSt14
import Derived.Test.YtncebpmckbcabaaSSt16
import Derived.Test.YtncebpmckbcabaaSSt17
namespace Go.Proofs.Ytncebpmckbcabaa
open Go.RowKit Go.BigFrame Go.Conc
set_option linter.unusedVariables false

theorem heap_lt {w : World} {c : Nat} {o : Obj} (h : w.heap[c]? = some o) : c < w.heap.size := (Array.getElem?_eq_some_iff.1 h).1
theorem own_ne_chan {w : World} {base : Nat} {e : TypeId} {size n : Nat} {v : Value} {xs : List Value} (h : w.ownsRow base e size v n xs) {c cap sn rn : Nat} {buf : Array Value} {cl tm : Bool} (hc : w.heap[c]? = some (.chan cap buf cl sn rn tm)) : v.ownBlock ≠ some c := by
  rcases h.2 with ⟨rfl, _⟩ | ⟨g', cap, cur, rfl, _, hh, _⟩
  · simp [Value.ownBlock]
  · intro e'
    simp [Value.ownBlock] at e'
    subst e'
    rw [hc] at hh
    cases hh
theorem row_ne_chan {w : World} {g : Nat} {T : TypeId} {vs : List Value} (h : RowIs w g T vs) {c cap sn rn : Nat} {buf : Array Value} {cl tm : Bool} (hc : w.heap[c]? = some (.chan cap buf cl sn rn tm)) : g ≠ c := by
  intro e
  subst e
  unfold RowIs at h
  rw [hc] at h
  cases h
theorem grown_chan {w : World} (c cap : Nat) (buf : Array Value) (cl : Bool) (s r : Nat) (tm : Bool) : w.grownBy (w.setChan c cap buf cl s r tm) (some c) :=
  ⟨rfl, rfl, rfl, by simp [World.setChan], fun k hk hne => by simp only [World.setChan]; rw [Array.getElem?_setIfInBounds_ne (fun e => hne (by rw [e]))]⟩
theorem marks_ne_op : (141 : TypeId) ≠ 62 := by decide
theorem marks_ne_int : (141 : TypeId) ≠ 3 := by decide
structure RsI (w : World) (c mk n : Nat) (vs : List Value) (S : StSt) (dv kv : Value) (nd nk : Nat) (W : World) : Prop where
  below : Below w.heap.size w W
  done : W.ownsRow w.heap.size 62 3 dv nd (opCells S.done)
  dead : W.ownsRow w.heap.size 3 1 kv nk (intCells S.dead)
  marks : MarksAt W mk 0 S.rd S.wr
  chan : ∃ sn rn, W.heap[c]? = some (.chan n vs.toArray true sn rn false)
  mlow : w.heap.size ≤ mk
  clow : w.heap.size ≤ c
section
variable {w W W' : World} {c mk n nd nk : Nat} {vs : List Value} {S : StSt} {dv kv : Value}
theorem RsI.later (h : RsI w c mk n vs S dv kv nd nk W) (hb : Below W.heap.size W W') : RsI w c mk n vs S dv kv nd nk W' := by
  obtain ⟨sn, rn, hc⟩ := h.chan
  exact ⟨h.below.trans (hb.mono h.below.size), own_below h.done hb, own_below h.dead hb, RowIs.below h.marks hb (Nat.le_refl _), ⟨sn, rn, (hb.block c (heap_lt hc)).trans hc⟩, h.mlow, h.clow⟩
theorem RsI.recv {v : Value} {sn rn : Nat} (h : RsI w c mk n (v :: vs) S dv kv nd nk W) (hc : W.heap[c]? = some (.chan n (v :: vs).toArray true sn rn false)) :
    RsI w c mk n vs S dv kv nd nk (W.setChan c n ((v :: vs).toArray.extract 1 (v :: vs).toArray.size) true sn (rn + 1) false) := by
  have hg := grown_chan (w := W) c n ((v :: vs).toArray.extract 1 (v :: vs).toArray.size) true sn (rn + 1) false
  refine ⟨below_setChan h.below h.clow _ _ _ _ _ _, own_grown h.done hg (fun b e => by injection e with e; subst e; exact own_ne_chan h.done hc), own_grown h.dead hg (fun b e => by injection e with e; subst e; exact own_ne_chan h.dead hc),
    RowIs.grown h.marks hg (fun e => by injection e with e; exact row_ne_chan h.marks hc e.symm), ⟨sn, rn + 1, ?_⟩, h.mlow, h.clow⟩
  rw [heap_setChan _ _ _ _ _ _ _ _ (heap_lt hc)]
  simp
theorem RsI.only {rd wr : List Int} (h : RsI w c mk n vs S dv kv nd nk W) (hO : Only mk W W') (hM : MarksAt W' mk 0 rd wr) : RsI w c mk n vs ⟨S.done, S.dead, rd, wr⟩ dv kv nd nk W' := by
  obtain ⟨sn, rn, hc⟩ := h.chan
  refine ⟨h.below.grown hO h.below.size (fun k hk => by injection hk with hk; rw [← hk]; exact h.mlow), own_grown h.done hO (fun b e => by injection e with e; subst e; exact own_ne h.done h.marks marks_ne_op), own_grown h.dead hO (fun b e => by injection e with e; subst e; exact own_ne h.dead h.marks marks_ne_int), hM, ⟨sn, rn, ?_⟩, h.mlow, h.clow⟩
  rw [hO.block c (heap_lt hc) (fun e => by injection e with e; exact row_ne_chan h.marks hc e.symm)]
  exact hc
theorem RsI.grownDone (h : RsI w c mk n vs S dv kv nd nk W) {D' : List OpV} {dv' : Value} {nd' : Nat} (hg : W.grownBy W' dv.ownBlock) (ho : W'.ownsRow w.heap.size 62 3 dv' nd' (opCells D')) : RsI w c mk n vs ⟨D', S.dead, S.rd, S.wr⟩ dv' kv nd' nk W' := by
  obtain ⟨sn, rn, hc⟩ := h.chan
  refine ⟨Below.own h.below h.done (Nat.le_refl _) hg, ho, own_apart h.dead h.done (fun e => op_ne_int e.symm) hg, RowIs.grown h.marks hg (own_ne h.done h.marks marks_ne_op), ⟨sn, rn, ?_⟩, h.mlow, h.clow⟩
  rw [hg.block c (heap_lt hc) (own_ne_chan h.done hc).symm]
  exact hc
theorem RsI.grownDead (h : RsI w c mk n vs S dv kv nd nk W) {K' : List Int} {kv' : Value} {nk' : Nat} (hg : W.grownBy W' kv.ownBlock) (ho : W'.ownsRow w.heap.size 3 1 kv' nk' (intCells K')) : RsI w c mk n vs ⟨S.done, K', S.rd, S.wr⟩ dv kv' nd nk' W' := by
  obtain ⟨sn, rn, hc⟩ := h.chan
  refine ⟨Below.own h.below h.dead (Nat.le_refl _) hg, own_apart h.done h.dead op_ne_int hg, ho, RowIs.grown h.marks hg (own_ne h.dead h.marks marks_ne_int), ⟨sn, rn, ?_⟩, h.mlow, h.clow⟩
  rw [hg.block c (heap_lt hc) (own_ne_chan h.dead hc).symm]
  exact hc
end
/-- What an outcome makes of the list. -/
def accOut (S : StSt) (o : OpV) (F : Int × List Int × List Int) : StSt :=
  if F.1 = 0 then ⟨S.done ++ [o], S.dead, F.2.1, F.2.2⟩ else if F.1 = 2 then ⟨S.done ++ [⟨o.tx, 3, 0⟩], S.dead ++ [o.tx], F.2.1, F.2.2⟩ else ⟨S.done, S.dead, F.2.1, F.2.2⟩
theorem accF_three (rd wr : List Int) (o : OpV) (p : Int) (skip : Bool) : (accF rd wr o p skip).1 = 0 ∨ (accF rd wr o p skip).1 = 1 ∨ (accF rd wr o p skip).1 = 2 := by
  unfold accF
  repeat' split
  all_goals simp
theorem stStep_acc {p : Int} {skip : Bool} {S : StSt} {o : OpV} (hv : validOp o = true) : stStep p skip S o = if (S.dead.any fun y => y == o.tx) then S else accOut S o (accF S.rd S.wr o p skip) := by
  unfold stStep
  split
  · rfl
  · have he : isEnd o = !isAcc o := by
      have := acc_end hv
      rw [← this, Bool.not_not]
    rw [he]
    unfold accOut accF
    cases isAcc o
    · simp [stPut]
    · simp only [Bool.not_true, Bool.false_eq_true, if_false]
      split
      · split
        · simp [stKill]
        · simp [stRead]
      · split
        · simp [stKill]
        · split
          · cases skip
            · simp [stKill]
            · simp
          · simp [stWrite]
set_option maxRecDepth 100000 in
set_option maxHeartbeats 8000000 in
theorem RunStamps_any (A : Option Addr) (n c : Nat) (s : List OpV) (skip : Bool) (w : World) (hx : ROps w A n s) (hnc : n ≤ c) :
    Calls Try.prog 35 #[.slice A n c, .bool skip] w (RetOI w (orNil (runB s) (stRun s skip s.length).done) (orNil (runB s) (stRun s skip s.length).dead)) := by
  have hn := hx.2.1
  have hl := hx.1
  have HX := Lib.hid hx
  clear hx
  refine calls_of_nw Try.func35 rfl ?_
  simp only [Try.ntmps35, List.size_toArray, List.length_cons, List.length_nil, Nat.reduceAdd, Nat.reduceSub, Array.replicate_succ,
     Array.replicate_zero, List.push_toArray, List.append_toArray, List.nil_append, List.cons_append]
  refine NW.seq (NW.of_wp ?_)
  go_wp2_with fail
  refine NW.seq (NW.of_wp ?_)
  go_wp2_with fail
  refine (runnable_any A n c s w HX.out hnc).mono ?_
  rintro e w1 ⟨rfl, hb1⟩
  obtain ⟨br, hbr⟩ : ∃ b, runB s = b := ⟨_, rfl⟩
  have HBR := Lib.hid hbr
  rw [hbr]
  cases br
  · clear hbr
    go_wp2_with fail
    go_ret2
    rw [HBR.out]
    exact RetOI.nil hb1
  · have hrun := hbr
    unfold runB at hrun
    simp only [Bool.and_eq_true, decide_eq_true_eq] at hrun
    have HV : Hid (validS s = true) := hrun.1
    have hn12 : n ≤ 12 := by have := hrun.2; omega
    clear hrun hbr
    go_wp2_with fail
    refine NW.seq (NW.of_wp ?_)
    go_wp2_with fail
    obtain ⟨Wa, hWa⟩ : ∃ Wa : World, Wa = (w1.alloc (.cells #[] 62)).alloc (.cells #[] 3) := ⟨_, rfl⟩
    have hown1 : Wa.ownsRow w.heap.size 62 3 (.slice (some ⟨w1.heap.size, 0, none⟩) 0 0) 0 (opCells []) := by
      rw [hWa]; exact (World.ownsRow_made w1 #[] 0 hb1.size (by decide) rfl).alloc _
    have hown2 : Wa.ownsRow w.heap.size 3 1 (.slice (some ⟨w1.heap.size + 1, 0, none⟩) 0 0) 0 (intCells []) := by
      have := World.ownsRow_made (base := w.heap.size) (e := 3) (size := 1) (w1.alloc (.cells #[] 62)) #[] 0 (by have := hb1.size; simp; omega) (by decide) rfl
      rw [hWa]
      show World.ownsRow _ _ _ _ _ _ []
      simpa using this
    have hba : Below w.heap.size w Wa := by
      rw [hWa]
      exact (hb1.alloc hb1.size _).alloc (Nat.le_trans hb1.size (by simp)) _
    rw [← hWa]
    clear hWa
    obtain ⟨h1, hh1⟩ : ∃ h1, w1.heap.size = h1 := ⟨_, rfl⟩
    rw [hh1] at hown1 hown2 ⊢
    clear hh1 hb1
    refine NW.seq (NW.of_wp ?_)
    go_wp2_with fail
    refine (marksOf_any Wa).mono ?_
    rintro e w2 ⟨mk, rfl, hmk, hM, hb2⟩
    have hown1' := own_below hown1 hb2
    have hown2' := own_below hown2 hb2
    have hb2' := hba.trans (hb2.mono hba.size)
    have hmk' := Nat.le_trans hba.size hmk
    clear hown1 hown2 hba hb2 hmk
    go_wp2_with fail
    refine NW.seq ?_
    refine NW.seq (NW.of_wp ?_)
    go_wp2_with fail
    refine (stream_any A n c s w2 (HX.out.below hb2' (Nat.le_refl _)) hn12).mono ?_
    rintro e w3 ⟨rfl, ⟨sn, rn, hch⟩, hb3⟩
    have hI0 : RsI w w2.heap.size mk n ((s.drop 0).map OpV.val) (stRun s skip 0) (.slice (some ⟨h1, 0, none⟩) 0 0) (.slice (some ⟨h1 + 1, 0, none⟩) 0 0) 0 0 w3 :=
      ⟨hb2'.trans (hb3.mono hb2'.size), own_below hown1' hb3, own_below hown2' hb3, RowIs.below hM hb3 (Nat.le_refl _), ⟨sn, rn, hch⟩, hmk', hb2'.size⟩
    obtain ⟨ch, hch'⟩ : ∃ ch, w2.heap.size = ch := ⟨_, rfl⟩
    rw [hch'] at hI0
    try rw [hch']
    clear hb3 hb2' hown1' hown2' hM hch hmk' hch'
    go_wp2_with fail
    refine NW.block ?_
    refine NW.loop (fun m a W => ∃ (k nd nk : Nat) (dv kv : Value) (x9 x10 x11 x20 x21 x22 x23 x24 x25 x26 x27 x28 x29 x30 x31 x32 x33 x34 x35 x36 x37 x38 x39 x40 x41 x42 x43 x44 x45 x46 x47 x48 x49 x50 x51 x52 x53 x54 x55 x56 x57 : Value), k ≤ n ∧ nd ≤ k ∧ nk ≤ k ∧ m = n + 1 - k ∧ RsI w ch mk n ((s.drop k).map OpV.val) (stRun s skip k) dv kv nd nk W ∧ a = ⟨#[.slice A n c, .bool skip, undef, undef, .slice none 0 0, .slice none 0 0, dv, kv, .pointer (some ⟨mk, 0, none⟩), x9, x10, x11, .slice A n c, .bool true, .bool false, .slice (some ⟨h1, 0, none⟩) 0 0, .slice (some ⟨h1 + 1, 0, none⟩) 0 0, .pointer (some ⟨mk, 0, none⟩), .slice A n c, .chan (some ch), x20, x21, x22, x23, x24, x25, x26, x27, x28, x29, x30, x31, x32, x33, x34, x35, x36, x37, x38, x39, x40, x41, x42, x43, x44, x45, x46, x47, x48, x49, x50, x51, x52, x53, x54, x55, x56, x57, undef, undef, undef, undef], []⟩) (n + 1) ⟨0, 0, 0, _, _, _, _, _, _, _, _, _, _, _, _, _, _, _, _, _, _, _, _, _, _, _, _, _, _, _, _, _, _, _, _, _, _, _, _, _, _, _, _, _, _, _, by omega, by omega, by omega, by omega, hI0, rfl⟩ ?_
    clear hI0
    rintro m a W ⟨k, nd, nk, dv, kv, x9, x10, x11, x20, x21, x22, x23, x24, x25, x26, x27, x28, x29, x30, x31, x32, x33, x34, x35, x36, x37, x38, x39, x40, x41, x42, x43, x44, x45, x46, x47, x48, x49, x50, x51, x52, x53, x54, x55, x56, x57, hk, hnd, hnk, rfl, hI, rfl⟩
    by_cases hlt : k < n
    · obtain ⟨o, ho⟩ : ∃ o, s[k]? = some o := ⟨_, List.getElem?_eq_getElem (by omega)⟩
      have hdr : (s.drop k).map OpV.val = o.val :: (s.drop (k + 1)).map OpV.val := by
        obtain ⟨hh, e⟩ := List.getElem?_eq_some_iff.1 ho
        rw [List.drop_eq_getElem_cons hh, e, List.map_cons]
      rw [hdr] at hI
      obtain ⟨sn, rn, hc⟩ := hI.chan
      have hI1 := hI.recv hc
      have hov := ((validS_iff s).1 HV.out).2.1 o (List.mem_of_getElem? ho)
      have hst := stRun_succ (skip := skip) ho
      rw [stStep_acc hov] at hst
      have hfi := firstI_eq (List.mem_of_getElem? ho)
      obtain ⟨tx, kd, it⟩ := o
      simp only [OpV.val] at hc hI1 hst hfi
      refine NW.seq (OpsN.region ?_)
      show OpsN _ _ [0, 1] _ _ _
      refine OpsN.recv (c := ch) (cap := n) (z := .agg #[.int .i64 0, .int .i64 0, .int .i64 0]) rfl rfl (by simp [go_sem, execOp, rcase, Act.eval]) hc (by simp) ?_
      generalize W.setChan ch n ((Value.agg #[.int .i64 tx, .int .i64 kd, .int .i64 it] :: (s.drop (k + 1)).map OpV.val).toArray.extract 1 (Value.agg #[.int .i64 tx, .int .i64 kd, .int .i64 it] :: (s.drop (k + 1)).map OpV.val).toArray.size) true sn (rn + 1) false = V at hI1 ⊢
      clear hc hI hdr
      refine OpsN.value (v := .bool true) (w' := V) rfl rfl (by go_simp) ?_
      refine OpsN.nil ?_
      show NW _ _ _ _ _
      refine NW.of_wp ?_
      show Code.wp _ _ _ ⟨#[.slice A n c, .bool skip, undef, undef, .slice none 0 0, .slice none 0 0, dv, kv, .pointer (some ⟨mk, 0, none⟩), x9, x10, x11, .slice A n c, .bool true, .bool false, .slice (some ⟨h1, 0, none⟩) 0 0, .slice (some ⟨h1 + 1, 0, none⟩) 0 0, .pointer (some ⟨mk, 0, none⟩), .slice A n c, .chan (some ch), .tuple #[.agg #[.int .i64 tx, .int .i64 kd, .int .i64 it], .bool true], .bool true, x22, x23, x24, x25, x26, x27, x28, x29, x30, x31, x32, x33, x34, x35, x36, x37, x38, x39, x40, x41, x42, x43, x44, x45, x46, x47, x48, x49, x50, x51, x52, x53, x54, x55, x56, x57, undef, undef, undef, undef], []⟩ V
      dsimp only
      obtain ⟨U, hU⟩ : ∃ U : World, U = V.alloc (.cells #[.int .i64 tx, .int .i64 kd, .int .i64 it] 62) := ⟨_, rfl⟩
      obtain ⟨L0, L1, L2, hbU, hUs⟩ := op_box hU
      have hIU := hI1.later hbU
      have y0 := L0 ⟨U, Below.refl _ _⟩
      simp only at y0
      have z0 := y0
      rw [hU] at z0
      have HU := Lib.hid hU
      have HIU := Lib.hid hIU
      obtain ⟨KA, kc, rfl, hkc⟩ := own_form2 hIU.dead
      have hKI : RInts U KA nk (stRun s skip k).dead := RInts.of_own hIU.dead (by omega)
      obtain ⟨bc, hbc⟩ : ∃ bc, ((stRun s skip k).dead.any fun y => y == tx) = bc := ⟨_, rfl⟩
      have hC : Calls Try.prog 81 #[.slice KA nk kc, .int .i64 tx] U fun e w' => e = .returned (.bool bc) ∧ Below U.heap.size U w' := by
        have := ContainsS_any KA nk kc _ tx U hKI; rw [hbc] at this; exact this
      rw [hbc] at hst
      have HC := Lib.hid hC
      have HST := Lib.hid hst
      have HFI := Lib.hid hfi
      have hdV : dv.ownBlock ≠ some V.heap.size := own_lt hI1.done (Nat.le_refl _)
      have hkV : (Value.slice KA nk kc).ownBlock ≠ some V.heap.size := own_lt hI1.dead (Nat.le_refl _)
      have hmV : V.heap.size ≠ mk := fun e => by have := RowIs.lt hI1.marks; omega
      clear hC hKI hbc hst hI1 hIU hU y0 hfi
      go_wp2_with fail
      rw [← HU.out]
      refine HC.out.mono ?_
      rintro e w4 ⟨rfl, hb4⟩
      have HI4 := Lib.hid (HIU.out.later hb4)
      clear HC z0 HU
      cases bc
      · have hinv := stRun_inv HV.out skip k (by omega)
        have hrl := hinv.rl
        have hwl := hinv.wl
        have HST2 : Hid (stRun s skip (k + 1) = accOut (stRun s skip k) ⟨tx, kd, it⟩ (accF (stRun s skip k).rd (stRun s skip k).wr ⟨tx, kd, it⟩ (stampN s tx : Nat) skip)) := HST.out
        clear HST hinv
        obtain ⟨S, hS⟩ : ∃ S, stRun s skip k = S := ⟨_, rfl⟩
        rw [hS] at HI4 HST2 hrl hwl
        clear HIU hS
        have x0 := L0 ⟨w4, hb4⟩
        have x1 := L1 ⟨w4, hb4⟩
        have x2 := L2 ⟨w4, hb4⟩
        simp only at x0 x1 x2
        have hsp : Calls Try.prog 82 #[.slice A n c, .int .i64 tx] w4 fun e w' => e = .returned (.tuple #[.int .i64 (stampN s tx : Nat), .int .i64 (lastI s tx)]) ∧ Below w4.heap.size w4 w' := by
          have := span_any A n c s tx w4 (HX.out.below HI4.out.below (Nat.le_refl _))
          rw [HFI.out] at this
          exact this
        have HSP := Lib.hid hsp
        obtain ⟨lz, hlz⟩ : ∃ lz, lastI s tx = lz := ⟨_, rfl⟩
        obtain ⟨F, hF⟩ : ∃ F : Nat, stampN s tx = F := ⟨_, rfl⟩
        rw [hlz, hF] at HSP
        rw [hF] at HST2
        have h4g : V.heap.size < w4.heap.size := Nat.lt_of_lt_of_le hUs hb4.size
        clear hsp hlz hF L0 L1 L2 hbU hUs hb4
        go_wp2_with fail
        refine HSP.out.mono ?_
        rintro e w5 ⟨rfl, hb5⟩
        have HI5 := Lib.hid (HI4.out.later hb5)
        have y0 := (hb5.cell (p := ⟨V.heap.size, 0, none⟩) h4g).trans x0
        have y1 := (hb5.cell (p := ⟨V.heap.size, 1, none⟩) h4g).trans x1
        have y2 := (hb5.cell (p := ⟨V.heap.size, 2, none⟩) h4g).trans x2
        have h5g : V.heap.size < w5.heap.size := Nat.lt_of_lt_of_le h4g hb5.size
        have HAC := Lib.hid (marksAccess_any mk ⟨tx, kd, it⟩ (F : Int) skip S.rd S.wr w5 HI5.out.marks hrl hwl hov)
        clear HSP x0 x1 x2 h4g hb5 HI4
        go_wp2_with fail
        refine HAC.out.mono ?_
        have hth := accF_three S.rd S.wr ⟨tx, kd, it⟩ (F : Int) skip
        obtain ⟨Z, hZ⟩ : ∃ Z, accF S.rd S.wr ⟨tx, kd, it⟩ (F : Int) skip = Z := ⟨_, rfl⟩
        rw [hZ] at HST2 hth ⊢
        clear HAC hZ
        obtain ⟨z, rd', wr'⟩ := Z
        simp only at hth
        rintro e w6 ⟨rfl, hM6, hO6⟩
        have HI6 := Lib.hid (HI5.out.only hO6 hM6)
        have v0 := (hO6.cell (o := 0) h5g hmV).trans y0
        have v1 := (hO6.cell (o := 1) h5g hmV).trans y1
        have v2 := (hO6.cell (o := 2) h5g hmV).trans y2
        have hsz := HI6.out.below.size
        have h6g : V.heap.size < w6.heap.size := block_lt_of_cell v0
        clear HI5 hM6 hO6 y0 y1 y2 hmV
        rcases hth with rfl | rfl | rfl
        · have hs : Hid (stRun s skip (k + 1) = ⟨S.done ++ [⟨tx, kd, it⟩], S.dead, rd', wr'⟩) := HST2.out
          have hdo := HI6.out.done
          clear HST2
          go_wp2_with (at_builtin; refine app_ops (.tmp 41) (.tmp 43) (hdo.alloc _) (by simp; omega) (ROps.litH (by simp) ⟨_, _, _⟩ _) (by omega) rfl rfl rfl rfl ?_; intro v7 w7 hown7 hg7 hat7)
          have hg7' := World.grownBy.trans (World.grownBy_alloc _ _ _) hg7
          have hI7 := HI6.out.grownDone hg7' hown7
          refine ⟨n + 1 - (k + 1), by omega, k + 1, nd + 1, nk, v7, _, _, _, _, _, _, _, _, _, _, _, _, _, _, _, _, _, _, _, _, _, _, _, _, _, _, _, _, _, _, _, _, _, _, _, _, _, _, _, _, _, _, by omega, by omega, by omega, rfl, by rw [hs.out]; exact hI7, rfl⟩
        · have hs : Hid (stRun s skip (k + 1) = ⟨S.done, S.dead, rd', wr'⟩) := HST2.out
          clear HST2
          go_wp2_with fail
          refine ⟨n + 1 - (k + 1), by omega, k + 1, nd, nk, dv, _, _, _, _, _, _, _, _, _, _, _, _, _, _, _, _, _, _, _, _, _, _, _, _, _, _, _, _, _, _, _, _, _, _, _, _, _, _, _, _, _, _, by omega, by omega, by omega, rfl, by rw [hs.out]; exact HI6.out, rfl⟩
        · have hs : Hid (stRun s skip (k + 1) = ⟨S.done ++ [⟨tx, 3, 0⟩], S.dead ++ [tx], rd', wr'⟩) := HST2.out
          have hdo := HI6.out.done
          clear HST2
          go_wp2_with (first
            | (at_builtin; refine app_ops (.tmp 47) (.tmp 51) (hdo.alloc _) (by simp; omega) (ROps.litH (by simp) ⟨_, _, _⟩ _) (by omega) rfl rfl rfl rfl ?_; intro v7 w7 hown7 hg7 hat7; have hg7' := World.grownBy.trans (World.grownBy_alloc w6 _ _) hg7; have hI7 := HI6.out.grownDone hg7' hown7; have hka7 := hI7.dead; have s0 := (hg7'.cell (a := ⟨V.heap.size, 0, none⟩) v0 (fun e => hdV e.symm)); have hsz7 := hI7.below.size; have HI7 := Lib.hid hI7; clear hI7)
            | (at_builtin; refine app_ints (.tmp 53) (.tmp 56) (hka7.alloc _) (by simp; omega) (lit1 rfl _) (by omega) rfl rfl rfl rfl ?_; intro v8 w8 hown8 hg8 hat8))
          have hg8' := World.grownBy.trans (World.grownBy_alloc w7 _ _) hg8
          have hI8 := HI7.out.grownDead hg8' hown8
          exact ⟨n + 1 - (k + 1), by omega, k + 1, by omega, nd + 1, by omega, nk + 1, by omega, rfl, by rw [hs.out, ← List.map_drop]; exact hI8⟩
      · have hs : Hid (stRun s skip (k + 1) = stRun s skip k) := HST.out
        clear HST
        go_wp2_with fail
        refine ⟨n + 1 - (k + 1), by omega, k + 1, nd, nk, dv, _, _, _, _, _, _, _, _, _, _, _, _, _, _, _, _, _, _, _, _, _, _, _, _, _, _, _, _, _, _, _, _, _, _, _, _, _, _, _, _, _, _, by omega, by omega, by omega, rfl, by rw [hs.out]; exact HI4.out, rfl⟩
    · have hkn : k = n := by omega
      have e : s.drop k = [] := List.drop_eq_nil_of_le (by omega)
      rw [e] at hI
      obtain ⟨sn, rn, hc⟩ := hI.chan
      refine NW.seq (OpsN.region ?_)
      show OpsN _ _ [0, 1] _ _ _
      refine OpsN.recv_shut (c := ch) (cap := n) (z := .agg #[.int .i64 0, .int .i64 0, .int .i64 0]) rfl rfl (by simp [go_sem, execOp, rcase, Act.eval]) hc ?_
      refine OpsN.value (v := .bool false) (w' := W) rfl rfl (by go_simp) ?_
      refine OpsN.nil ?_
      show NW _ _ _ _ _
      refine NW.of_wp ?_
      show Code.wp _ _ _ ⟨#[.slice A n c, .bool skip, undef, undef, .slice none 0 0, .slice none 0 0, dv, kv, .pointer (some ⟨mk, 0, none⟩), x9, x10, x11, .slice A n c, .bool true, .bool false, .slice (some ⟨h1, 0, none⟩) 0 0, .slice (some ⟨h1 + 1, 0, none⟩) 0 0, .pointer (some ⟨mk, 0, none⟩), .slice A n c, .chan (some ch), .tuple #[.agg #[.int .i64 0, .int .i64 0, .int .i64 0], .bool false], .bool false, x22, x23, x24, x25, x26, x27, x28, x29, x30, x31, x32, x33, x34, x35, x36, x37, x38, x39, x40, x41, x42, x43, x44, x45, x46, x47, x48, x49, x50, x51, x52, x53, x54, x55, x56, x57, undef, undef, undef, undef], []⟩ W
      dsimp only
      obtain ⟨DA, dc, rfl, hdc⟩ := own_form2 hI.done
      obtain ⟨KA, kc, rfl, hkc⟩ := own_form2 hI.dead
      have hks : k = s.length := by omega
      rw [hks] at hI
      have HO := Lib.hid (RetOI.mk (own_lenOps hI.done) (own_lenInts hI.dead) (Nat.le_refl _) (Nat.le_refl _) (FreshOps.of_own hI.done (Nat.le_refl _) (by omega)) (FreshInts.of_own hI.dead (Nat.le_refl _) (by omega)) hI.below)
      have hnd2 : nd ≤ 1099511627776 := by omega
      have hnk2 : nk ≤ 1099511627776 := by omega
      clear hI e hc hks hkn
      go_wp2_with fail
      refine NW.of_wp ?_
      go_wp2_with fail
      refine (ClipOps_any DA nd dc W hnd2 hdc).mono ?_
      rintro e w9 ⟨rfl, rfl⟩
      go_wp2_with fail
      refine (ClipInts_any KA nk kc _ hnk2 hkc).mono ?_
      rintro e w9 ⟨rfl, rfl⟩
      go_wp2_with fail
      go_ret2
      rw [HBR.out]
      exact HO.out
end Go.Proofs.Ytncebpmckbcabaa
