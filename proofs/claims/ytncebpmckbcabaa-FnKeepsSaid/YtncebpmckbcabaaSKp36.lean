/-
  Texts that the proof rests on, joined: part 36.
-/
import Derived.StillTailTactics
import Derived.Test.YtncebpmckbcabaaSKp16
namespace Go.Proofs.Ytncebpmckbcabaa
open Go.RowKit Go.BigFrame
set_option linter.unusedVariables false

def wKill (XS : List Int) (tx : Int) (k : Nat) : List Int := (XS.take k).filter fun u => decide (tx < u)
def wRest (XS : List Int) (tx : Int) (k : Nat) : List Int := (XS.take k).filter fun u => !decide (tx < u)
theorem wKill_hit {XS : List Int} {tx x : Int} {k : Nat} (h : XS[k]? = some x) (hx : tx < x) : wKill XS tx (k + 1) = wKill XS tx k ++ [x] ∧ wRest XS tx (k + 1) = wRest XS tx k := by
  unfold wKill wRest
  rw [take_snoc h, List.filter_append, List.filter_append]
  simp [hx]
theorem wKill_miss {XS : List Int} {tx x : Int} {k : Nat} (h : XS[k]? = some x) (hx : ¬ tx < x) : wKill XS tx (k + 1) = wKill XS tx k ∧ wRest XS tx (k + 1) = wRest XS tx k ++ [x] := by
  unfold wKill wRest
  rw [take_snoc h, List.filter_append, List.filter_append]
  simp [hx]
theorem wKill_len (XS : List Int) (tx : Int) (k : Nat) : (wKill XS tx k).length ≤ k ∧ (wRest XS tx k).length ≤ k :=
  ⟨Nat.le_trans (List.length_filter_le _ _) (List.length_take_le _ _), Nat.le_trans (List.length_filter_le _ _) (List.length_take_le _ _)⟩
theorem killsD_snoc (D : Dsk) (ts : List Int) (t : Int) : killsD D (ts ++ [t]) = killD (killsD D ts) t := by simp [killsD]
theorem kills_len (ts : List Int) : ∀ D : Dsk, (killsD D ts).locks.length ≤ D.locks.length + 3 * ts.length ∧ (killsD D ts).done.length = D.done.length + ts.length ∧ (killsD D ts).dead.length = D.dead.length + ts.length ∧ (killsD D ts).wait.length ≤ D.wait.length := by
  induction ts with
  | nil => exact fun D => ⟨Nat.le_refl _, rfl, rfl, Nat.le_refl _⟩
  | cons t r ih =>
    intro D
    obtain ⟨h1, h2, h3, h4⟩ := ih (killD D t)
    have e : killsD D (t :: r) = killsD (killD D t) r := rfl
    rw [e]
    have k1 := dropL_len D.locks t
    have k4 : (killD D t).wait.length ≤ D.wait.length := List.length_filter_le _ _
    have k2 : (killD D t).done.length = D.done.length + 1 := by simp [killD]
    have k3 : (killD D t).dead.length = D.dead.length + 1 := by simp [killD]
    have k0 : (killD D t).locks.length ≤ D.locks.length + 3 := k1
    simp only [List.length_cons]
    omega
theorem own_keep {V W : World} {base n : Nat} {e : TypeId} {size : Nat} {v : Value} {xs : List Value} (h : V.ownsRow base e size v n xs) (hk : ∀ g, v.ownBlock = some g → W.heap[g]? = V.heap[g]?) : W.ownsRow base e size v n xs := by
  refine ⟨h.1, ?_⟩
  rcases h.2 with h1 | ⟨g, cap, cur, e1, h2, h3, h4⟩
  · exact .inl h1
  · exact .inr ⟨g, cap, cur, e1, h2, (hk g (by rw [e1]; simp [Value.ownBlock])).trans h3, h4⟩
theorem putDesk_block {w : World} {g : Nat} {V : DV} {k : Nat} (h : k ≠ g) : (putDesk w g V).heap[k]? = w.heap[k]? := by
  unfold putDesk
  rw [Below.heap_setCell _ _ _ k (by simpa using h), Below.heap_setCell _ _ _ k (by simpa using h), Below.heap_setCell _ _ _ k (by simpa using h), Below.heap_setCell _ _ _ k (by simpa using h)]
theorem RInts.turnedA {V W : World} {A : Option Addr} {n : Nat} {xs : List Int} (h : RInts V A n xs) (hs : V.heap.size ≤ W.heap.size) (hA : ∀ ad, A = some ad → W.heap[ad.block]? = V.heap[ad.block]?) : RInts W A n xs := by
  refine ⟨h.1, h.2.1, fun hn => ?_⟩
  obtain ⟨b, off, hA', hl, hc⟩ := h.2.2 hn
  have hk := hA _ hA'
  exact ⟨b, off, hA', by omega, fun i x hx => (World.cell?_of_block (w := V) (a := ⟨b, off + i, none⟩) hk).trans (hc i x hx)⟩
/-- The loop over those in the way. -/
structure WL (w : World) (V : DV) (B g gr go H : Nat) (LA : Option Addr) (XS : List Int) (D : Dsk) (o : OpV) (k : Nat) (rv : Value) (W : World) (U : DV) : Prop where
  pk : Pk w V B g gr W U (killsD D (wKill XS o.tx k))
  ob : OB W U go o
  rn : ∀ b, rv.ownBlock = some b → NotIn U b
  ln : ∀ ad, LA = some ad → ad.block < W.heap.size ∧ NotIn U ad.block ∧ ad.block ≠ g ∧ rv.ownBlock ≠ some ad.block
  row : W.ownsRow H 3 1 rv (wRest XS o.tx k).length (intCells (wRest XS o.tx k))
  list : RInts W LA XS.length XS
  hH : g < H ∧ gr < H ∧ go < H ∧ H ≤ W.heap.size ∧ w.heap.size ≤ H ∧ g ≠ go ∧ gr ≠ go
section
variable {w W w' : World} {V U U' : DV} {B g gr go H k : Nat} {LA : Option Addr} {XS : List Int} {D : Dsk} {o : OpV} {rv : Value}
theorem WL.below (h : WL w V B g gr go H LA XS D o k rv W U) (hb : Below W.heap.size W w') : WL w V B g gr go H LA XS D o k rv w' U :=
  ⟨h.pk.below hb, h.ob.below hb, h.rn, fun ad e => ⟨Nat.lt_of_lt_of_le (h.ln ad e).1 hb.size, (h.ln ad e).2⟩, own_below h.row hb, h.list.below hb (Nat.le_refl _), by have := h.hH; have := hb.size; omega⟩
theorem WL.rlt (h : WL w V B g gr go H LA XS D o k rv W U) : ∀ b, rv.ownBlock = some b → H ≤ b ∧ b < W.heap.size := fun b e => World.ownsRow.lt h.row b e
/-- One of them is killed. -/
theorem WL.kill (h : WL w V B g gr go H LA XS D o k rv W U) {x : Int} (hx : XS[k]? = some x) (hlt : o.tx < x) (hd : DeskAt w' B U' (killD (killsD D (wKill XS o.tx k)) x)) (hs : DStep W U w' U') :
    WL w V B g gr go H LA XS D o (k + 1) rv (putDesk w' g U') U' := by
  obtain ⟨e1, e2⟩ := wKill_hit hx hlt
  have hsz := hs.size
  have hps := putDesk_size w' g U'
  obtain ⟨g1, g2, g3, g4, g5, g6, g7⟩ := h.hH
  refine ⟨by rw [e1, killsD_snoc]; exact h.pk.put hd hs, (h.ob.step hs).put g6 _, fun b e => ?_, fun ad e => ?_, ?_, ?_, by omega⟩
  · exact hs.notIn (h.rlt b e).2 (h.rn b e)
  · obtain ⟨l1, l2, l3, l4⟩ := h.ln ad e
    exact ⟨by omega, hs.notIn l1 l2, l3, l4⟩
  · rw [e2]
    refine own_keep h.row fun b e => ?_
    have hb := h.rlt b e
    rw [putDesk_block (by omega)]
    exact hs.fr.block b hb.2 (h.rn b e)
  · refine h.list.turnedA (by omega) fun ad e => ?_
    obtain ⟨l1, l2, l3, l4⟩ := h.ln ad e
    rw [putDesk_block l3]
    exact hs.fr.block _ l1 l2
/-- One of them is gathered. -/
theorem WL.gather (h : WL w V B g gr go H LA XS D o k rv W U) {x : Int} (hx : XS[k]? = some x) (hlt : ¬ o.tx < x) {W1 : World} (hb1 : Below W.heap.size W W1) {rv' : Value}
    (hr : w'.ownsRow H 3 1 rv' ((wRest XS o.tx k).length + 1) (intCells (wRest XS o.tx k ++ [x]))) (hg : W1.grownBy w' rv.ownBlock) (hat : rv'.ownBlock = rv.ownBlock ∨ rv'.ownBlock = some W1.heap.size) :
    WL w V B g gr go H LA XS D o (k + 1) rv' w' U := by
  obtain ⟨e1, e2⟩ := wKill_miss hx hlt
  have h1 := h.below hb1
  have hsz := hg.size
  have hs1 := hb1.size
  obtain ⟨g1, g2, g3, g4, g5, g6, g7⟩ := h1.hH
  have hr0 : rv.ownBlock ≠ some g := fun e => by have := (h1.rlt _ e).1; omega
  have hr1 : rv.ownBlock ≠ some gr := fun e => by have := (h1.rlt _ e).1; omega
  have hr2 : rv.ownBlock ≠ some go := fun e => by have := (h1.rlt _ e).1; omega
  have hn : ∀ b, rv'.ownBlock = some b → NotIn U b := fun b e => by
    rcases hat with h' | h'
    · exact h.rn b (h' ▸ e)
    · rw [h'] at e; injection e with e; subst e; exact h1.pk.desk.far (Nat.le_refl _)
  refine ⟨by rw [e1]; exact ⟨h1.pk.desk.apart hg h1.rn, h1.pk.step.apart hg (fun b e => by have := (h1.rlt b e).1; omega), h1.pk.box.grown hg hr0, h1.pk.res.grown hg hr1, h1.pk.ne, h1.pk.gl, h1.pk.grl⟩, ⟨RowIs.grown h1.ob.box hg hr2, h1.ob.no⟩, hn, fun ad e => ?_, by rw [e2, List.length_append]; exact hr, ?_, by omega⟩
  · obtain ⟨l1, l2, l3, l4⟩ := h1.ln ad e
    refine ⟨by omega, l2, l3, ?_⟩
    rcases hat with h' | h'
    · rw [h']; exact l4
    · rw [h']; intro e'; injection e' with e'; omega
  · refine h1.list.turnedA hsz fun ad e => ?_
    obtain ⟨l1, l2, l3, l4⟩ := h1.ln ad e
    exact hg.block _ l1 (fun e' => l4 e'.symm)
end
theorem wound_ask {D : Dsk} {o : OpV} {XS : List Int} (h : wayO D.locks o = XS) :
    (wRest XS o.tx XS.length = [] → askD .wound D o = grantD (killsD D (wKill XS o.tx XS.length)) o) ∧ (wRest XS o.tx XS.length ≠ [] → askD .wound D o = waitD (killsD D (wKill XS o.tx XS.length)) o) := by
  unfold askD wRest wKill
  simp only
  rw [h, List.take_length]
  constructor
  · intro e; rw [e]; simp
  · intro e
    rw [if_neg]
    intro he
    exact e (List.isEmpty_iff.1 he)

/-- The loop's start. -/
theorem wl_start {w w1 w2 : World} {V : DV} {B g gr go : Nat} {D : Dsk} {o : OpV} {LA : Option Addr} {XS : List Int} (hp : Pk w V B g gr w1 V D) (ho : OB w1 V go o) (hne : g ≠ go ∧ gr ≠ go) (hb : Below w1.heap.size w1 w2) (hf : FreshInts w1 w2 LA XS.length XS) :
    WL w V B g gr go w2.heap.size LA XS D o 0 (.slice (some ⟨w2.heap.size, 0, none⟩) 0 0) (w2.alloc (.cells #[] 3)) V := by
  have hba : Below w2.heap.size w2 (w2.alloc (.cells #[] 3)) := (Below.refl _ _).alloc (Nat.le_refl _) _
  have hs := hb.size
  have hl := hp.lts
  have hol := ho.lt
  have hsz := hp.size
  have hsa : (w2.alloc (.cells #[] 3)).heap.size = w2.heap.size + 1 := by simp
  refine ⟨(hp.below hb).below hba, (ho.below hb).below hba, fun b e => ?_, fun ad e => ?_, ?_, hf.1.below hba (Nat.le_refl _), by omega⟩
  · simp only [Value.ownBlock, Option.some.injEq] at e
    subst e
    exact (hp.below hb).desk.far (Nat.le_refl _)
  · obtain ⟨b, cur, e1, h1, h2, h3⟩ := hf.2 ad e
    have hlt := lt_of_block h2
    subst e1
    refine ⟨by simp only; omega, hp.desk.far h1, by simp only; omega, ?_⟩
    simp only [Value.ownBlock, ne_eq, Option.some.injEq]
    omega
  · exact World.ownsRow_made w2 #[] 0 (Nat.le_refl _) (by decide) rfl

set_option maxRecDepth 100000 in
set_option maxHeartbeats 4000000 in
theorem ask_wound (B : Nat) (V : DV) (D : Dsk) (o : OpV) (w : World) (hd : DeskAt w B V D) (hL : D.locks.length ≤ 8000) (hN : D.done.length ≤ 8000) (hWt : D.wait.length ≤ 8000) (hDd : D.dead.length ≤ 8000) :
    Calls Try.prog 93 #[.string Rul.wound.str, V.val, o.val] w (DRet w B V (askD .wound D o)) := by
  have HD0 := Lib.hid hd
  obtain ⟨W, hW⟩ : ∃ W : World, W = ((w.alloc (.cells V.list.toArray 28)).alloc (.cells o.cells.toArray 62)).alloc (.cells DV.nil.list.toArray 28) := ⟨_, rfl⟩
  obtain ⟨hP0, hO0, hszW⟩ := ask_start hd hW
  obtain ⟨tx, kd, it⟩ := o
  obtain ⟨Ad, Aw, Al, Ak, nd, nw, nl, nk, cd, cw, cl, ck, rfl, hcs, h1, h2, h3, h4⟩ := hd.forms
  have H1 := Lib.hid h1
  have H2 := Lib.hid h2
  have H3 := Lib.hid h3
  have H4 := Lib.hid h4
  have HP0 := Lib.hid hP0
  have HO0 := Lib.hid hO0
  have HSZ := Lib.hid hszW
  have hbd : nd ≤ 9000 ∧ nl ≤ 9000 ∧ nw ≤ 9000 := by omega
  unfold OpV.cells DV.list DV.nil at hW
  simp only at hW
  change W = ((w.alloc (.cells #[.slice Ad nd cd, .slice Aw nw cw, .slice Al nl cl, .slice Ak nk ck] _)).alloc (.cells #[.int .i64 tx, .int .i64 kd, .int .i64 it] _)).alloc (.cells #[.slice none 0 0, .slice none 0 0, .slice none 0 0, .slice none 0 0] _) at hW
  have HW3 := Lib.hid hW
  clear hP0 hO0 hszW hd h1 h2 h3 h4 hW
  unfold DV.val OpV.val Rul.str
  simp only
  obtain ⟨be, hbe⟩ : ∃ b, isEnd ⟨tx, kd, it⟩ = b := ⟨_, rfl⟩
  have HBE := Lib.hid hbe
  clear hbe
  cases be
  · have hway : wayO D.locks ⟨tx, kd, it⟩ = inWayI D.locks tx it kd := by unfold wayO; rw [if_neg (by rw [HBE.out]; simp)]
    obtain ⟨XS, hXS⟩ : ∃ XS, inWayI D.locks tx it kd = XS := ⟨_, rfl⟩
    rw [hXS] at hway
    have hx4 : XS.length ≤ 4 := by rw [← hway]; exact way_len _ _
    obtain ⟨m, hm⟩ : ∃ m, XS.length = m := ⟨_, rfl⟩
    rw [hm] at hx4
    have HXS := Lib.hid hXS
    have HM := Lib.hid hm
    have HWAY := Lib.hid hway
    clear hXS hm hway
    go_enter Try.func93, Try.ntmps93
    go_wp2_with (first
      | (go_at_call 89; go_loud (rw [← HW3.out]; refine (sends_any ⟨tx, kd, it⟩ _).mono ?_; rintro e w1 ⟨rfl, hb1⟩; rw [HBE.out]; have HP1 := Lib.hid ((HP0.out.alloc (.cells #[] 3)).below hb1); have HO1 := Lib.hid ((HO0.out.below ((Below.refl _ _).alloc (Nat.le_refl _) (.cells #[] 3))).below hb1); have hbase1 := HP1.out.desk.base; have hlt1 := HP1.out.lts; obtain ⟨d0, d1, d2, d3⟩ := HP1.out.box.cells; obtain ⟨p0, p1, p2⟩ := HO1.out.box.cells; simp only at d0 d1 d2 d3 p0 p1 p2; clear HP0 HO0 HW3 hb1))
      | (go_at_call 101; go_loud (refine (inWay_any Al nl cl D.locks tx it kd w1 (ROps.of_own (HP1.out.desk.locksN (n := nl) H3.out) (by omega))).mono ?_; rw [HXS.out]; rintro e w2 ⟨LA, lc, rfl, hlc, hFL, hb2⟩; rw [HM.out] at hlc hFL ⊢; have HST : Hid (WL w _ B w.heap.size (w.heap.size + 1 + 1) (w.heap.size + 1) w2.heap.size LA XS D ⟨tx, kd, it⟩ 0 (.slice (some ⟨w2.heap.size, 0, none⟩) 0 0) (w2.alloc (.cells #[] 3)) _) := wl_start HP1.out HO1.out ⟨by omega, by omega⟩ hb2 (by rw [HM.out]; exact hFL); clear hFL hb2 d0 d1 d2 d3 p0 p1 p2 HP1 HO1)))
    go_loopw [8, 9] (fun rv i wr => ∃ (k : Nat) (U : DV), k ≤ m ∧ i = .int .i64 k ∧ WL w ⟨.slice Ad nd cd, .slice Aw nw cw, .slice Al nl cl, .slice Ak nk ck⟩ B w.heap.size (w.heap.size + 1 + 1) (w.heap.size + 1) w2.heap.size LA XS D ⟨tx, kd, it⟩ k rv wr U) (fun _ i _ => m - (intOf i).toNat)
    case atStart => exact ⟨0, _, by omega, rfl, HST.out⟩
    case round =>
      clear HST
      obtain ⟨rv, rfl⟩ : ∃ z : Value, z = u8 := ⟨_, rfl⟩
      obtain ⟨k, U, hk, rfl, hwl⟩ := hrel
      have HWL := Lib.hid hwl
      obtain ⟨Ad0, Aw0, Al0, Ak0, nd0, nw0, nl0, nk0, cd0, cw0, cl0, ck0, rfl, hcs0, g1, g2, g3, g4⟩ := hwl.pk.desk.forms
      have hkl := kills_len (wKill XS tx k) D
      have hkl2 := wKill_len XS tx k
      have hb3 : nd0 ≤ 8100 ∧ nw0 ≤ 8100 ∧ nl0 ≤ 8100 ∧ nk0 ≤ 8100 := by simp only at g1 g2 g3 g4; omega
      have G1 := Lib.hid g1
      have G2 := Lib.hid g2
      have G3 := Lib.hid g3
      have G4 := Lib.hid g4
      obtain ⟨r, hr⟩ : ∃ r, (wRest XS tx k).length = r := ⟨_, rfl⟩
      have hrow0 : wr.ownsRow w2.heap.size 3 1 rv (wRest XS tx k).length (intCells (wRest XS tx k)) := hwl.row
      have hr4 : r ≤ 4 := by rw [← hr]; omega
      rw [hr] at hrow0
      obtain ⟨RA, rc, rfl, hrc⟩ := own_form2 hrow0
      have HR := Lib.hid hr
      have HRW := Lib.hid hrow0
      clear hwl g1 g2 g3 g4 hkl hr hrow0
      by_cases hlt : k < m
      · have hkd : decide ((k : Int) < (m : Int)) = true := by simp; omega
        have hlist := HWL.out.list
        rw [HM.out] at hlist
        obtain ⟨bL, oL, X, hLA, hbL, hX, z0⟩ := hlist.at_ hlt
        subst hLA
        obtain ⟨p0, p1, p2⟩ := HWL.out.ob.box.cells
        simp only at p0 p1 p2
        have HX := Lib.hid hX
        have L0 := Later.cell p0
        have Z0 := Later.cell z0
        clear hX hlist p0 p1 p2 z0
        by_cases hgt : tx < X
        · have hgd : decide (tx < X) = true := by simpa using hgt
          go_wp2_with fail
          refine region_later (by kernel_rfl) (by kernel_rfl) ?_
          repeat (go_big_quiet_step (fail))
          refine wpQuiet_nil ?_
          rintro _ ⟨u, rfl⟩
          have HW5 := Lib.hid (HWL.out.below u.2)
          have z1 := Z0 u
          obtain ⟨w5, hw5⟩ : ∃ w5 : World, u.1 = w5 := ⟨_, rfl⟩
          rw [hw5] at HW5 z1 ⊢
          clear hw5 L0 Z0
          obtain ⟨d0, d1, d2, d3⟩ := HW5.out.pk.box.cells
          simp only at d0 d1 d2 d3
          obtain ⟨wd, hwd⟩ : ∃ wd : World, wd = w5.drew := ⟨_, rfl⟩
          have HWD6 : Hid (WL w ⟨.slice Ad nd cd, .slice Aw nw cw, .slice Al nl cl, .slice Ak nk ck⟩ B w.heap.size (w.heap.size + 1 + 1) (w.heap.size + 1) w2.heap.size (some ⟨bL, oL, none⟩) XS D ⟨tx, kd, it⟩ k (.slice RA r rc) wd ⟨.slice Ad0 nd0 cd0, .slice Aw0 nw0 cw0, .slice Al0 nl0 cl0, .slice Ak0 nk0 ck0⟩) := by show WL _ _ _ _ _ _ _ _ _ _ _ _ _ _ _; rw [hwd]; exact HW5.out.below (Below.refl _ _).drew
          have hk7 := kill_any B _ _ X wd HWD6.out.pk.desk (show _ ≤ 9000 by rw [G3.out]; omega) (show _ ≤ 9000 ∧ _ ≤ 9000 ∧ _ ≤ 9000 by rw [G1.out, G2.out, G4.out]; omega)
          simp only [DV.val] at hk7
          have HK7 := Lib.hid hk7
          have HWD := Lib.hid hwd
          have hknn : (k : Int) < (m : Int) := by omega
          clear hk7 hwd
          go_wp2_with fail
          refine wp_region_still_tail 5 (by kernel_rfl) (by kernel_rfl) ?_
          simp only [List.take_succ_cons, List.take_zero, List.drop_succ_cons, List.drop_zero]
          repeat (first | still_step | fail)
          refine wpStill_nil ?_
          change wpList _ _ _ _ _ w5.drew
          rw [← HWD.out]
          go_wp2_with (go_at_call 127; go_loud (refine HK7.out.mono ?_; rintro e w8 ⟨V8, rfl, hD8, hS8⟩; obtain ⟨Ad8, Aw8, Al8, Ak8, nd8, nw8, nl8, nk8, cd8, cw8, cl8, ck8, rfl, _⟩ := hD8.forms; obtain ⟨hB8, _, _⟩ := HWD6.out.pk.mid hS8; obtain ⟨y0, y1, y2, y3⟩ := hB8.cells; simp only at y0 y1 y2 y3; have s0 := hB8.soft 0; have s1 := hB8.soft 1; have s2 := hB8.soft 2; have s3 := hB8.soft 3; have hF := HWD6.out.kill HX.out hgt hD8 hS8; simp only [putDesk] at hF; have HF := Lib.hid hF; clear hF hS8 hD8 hB8 d0 d1 d2 d3; unfold DV.val; simp only))
          go_roundw
          case rel => exact ⟨k + 1, _, by omega, by go_num, HF.out⟩
          case measure => simp [intOf]; omega
        · have hgd : decide (tx < X) = false := by simpa using hgt
          go_wp2_with fail
          refine region_later (by kernel_rfl) (by kernel_rfl) ?_
          repeat (go_big_quiet_step (fail))
          refine wpQuiet_nil ?_
          rintro _ ⟨u, rfl⟩
          have HW5 := Lib.hid (HWL.out.below u.2)
          have HRW5 := Lib.hid (own_below HRW.out u.2)
          have z1 := Z0 u
          obtain ⟨w5, hw5⟩ : ∃ w5 : World, u.1 = w5 := ⟨_, rfl⟩
          rw [hw5] at HW5 HRW5 z1 ⊢
          clear hw5 L0 Z0
          have hH5 := HW5.out.hH
          go_wp2_with (at_builtin; go_loud (refine app_ints (.tmp 45) (.tmp 50) (HRW5.out.alloc _) (by simp; omega) (lit1 rfl _) (by omega) rfl rfl rfl rfl ?_; intro v3 w3 hown3 hg3 hat3; have hF := HW5.out.gather HX.out (show ¬ tx < X by omega) ((Below.refl _ w5).alloc (Nat.le_refl _) _) (by simp only [HR.out]; exact hown3) hg3 hat3; have HF := Lib.hid hF; clear hF hown3 hg3 hat3))
          go_roundw
          case rel => exact ⟨k + 1, _, by omega, by go_num, HF.out⟩
          case measure => simp [intOf]; omega
      · have hkd : decide ((k : Int) < (m : Int)) = false := by simp; omega
        obtain rfl : k = m := by omega
        have hask := wound_ask HWAY.out
        rw [HM.out] at hask
        simp only at hask
        have HASK := Lib.hid hask
        have HP5 := Lib.hid HWL.out.pk
        have HO5 := Lib.hid HWL.out.ob
        obtain ⟨d0, d1, d2, d3⟩ := HP5.out.box.cells
        obtain ⟨p0, p1, p2⟩ := HO5.out.box.cells
        simp only at d0 d1 d2 d3 p0 p1 p2
        clear hask
        by_cases hr0 : r = 0
        · subst hr0
          have e2 : Hid (askD .wound D ⟨tx, kd, it⟩ = grantD (killsD D (wKill XS tx k)) ⟨tx, kd, it⟩) := HASK.out.1 (List.eq_nil_of_length_eq_zero HR.out)
          have hg2 := grant_any B _ _ ⟨tx, kd, it⟩ wr HP5.out.desk (show _ ≤ 9000 by rw [G3.out]; omega) (show _ ≤ 9000 by rw [G1.out]; omega)
          simp only [DV.val, OpV.val] at hg2
          have HG2 := Lib.hid hg2
          clear hg2
          go_wp2_with (go_at_call 126; go_loud (refine HG2.out.mono ?_; rintro e w6 ⟨V6, rfl, hD6, hS6⟩; obtain ⟨Ad6, Aw6, Al6, Ak6, nd6, nw6, nl6, nk6, cd6, cw6, cl6, ck6, rfl, _⟩ := hD6.forms; obtain ⟨_, hR6, _⟩ := HP5.out.mid hS6; obtain ⟨y0, y1, y2, y3⟩ := hR6.cells; unfold DV.nil at y0 y1 y2 y3; simp only at y0 y1 y2 y3; have s0 := hR6.soft 0; have s1 := hR6.soft 1; have s2 := hR6.soft 2; have s3 := hR6.soft 3; have hF := HP5.out.out hD6 hS6; simp only [putDesk] at hF; have HF := Lib.hid hF; clear hF hS6 hD6 hR6; unfold DV.val; simp only))
          obtain ⟨d0, d1, d2, d3⟩ := HF.out.2.2.cells
          simp only at d0 d1 d2 d3
          refine bodyPost_ret (v := .agg #[.slice Ad6 nd6 cd6, .slice Aw6 nw6 cw6, .slice Al6 nl6 cl6, .slice Ak6 nk6 ck6]) (by simp [results, Try.results93, go_sem, d0, d1, d2, d3]) rfl ?_
          refine ⟨⟨.slice Ad6 nd6 cd6, .slice Aw6 nw6 cw6, .slice Al6 nl6 cl6, .slice Ak6 nk6 ck6⟩, rfl, ?_, HF.out.2.1⟩
          rw [e2.out]
          exact HF.out.1
        · have e2 : Hid (askD .wound D ⟨tx, kd, it⟩ = waitD (killsD D (wKill XS tx k)) ⟨tx, kd, it⟩) := HASK.out.2 (fun h => by have := HR.out; rw [h] at this; exact hr0 this.symm)
          have hrd : ((r : Int) == 0) = false := by simp; omega
          go_wp2_with fail
          refine region_later (by kernel_rfl) (by kernel_rfl) ?_
          repeat (go_big_quiet_step (fail))
          refine wpQuiet_nil ?_
          rintro _ ⟨u, rfl⟩
          have HP6 := Lib.hid (HP5.out.below u.2)
          have HO6 := Lib.hid (HO5.out.below u.2)
          obtain ⟨w6, hw6⟩ : ∃ w6 : World, u.1 = w6 := ⟨_, rfl⟩
          rw [hw6] at HP6 HO6 ⊢
          clear hw6 d0 d1 d2 d3 p0 p1 p2
          have hbase5 := HP6.out.desk.base
          obtain ⟨d0, d1, d2, d3⟩ := HP6.out.box.cells
          obtain ⟨p0, p1, p2⟩ := HO6.out.box.cells
          simp only at d0 d1 d2 d3 p0 p1 p2
          go_wp2_with (at_builtin; go_loud (refine app_ops (.tmp 74) (.tmp 76) ((HP6.out.desk.waitN (n := nw0) G2.out).alloc _) (Nat.le_trans HP6.out.desk.base (by simp)) (ROps.lit1 _ ⟨_, _, _⟩ _) (by omega) rfl rfl rfl rfl ?_; intro v8 w8 hown8 hg8 hat8; obtain ⟨A8, c8, rfl, hc8⟩ := own_form2 hown8; obtain ⟨hB8, hR8, hP8⟩ := (HP6.out.alloc (.cells #[.int .i64 tx, .int .i64 kd, .int .i64 it] 62)).waitGrown hg8 hown8 hat8; obtain ⟨q0, q1, q2, q3⟩ := hB8.cells; obtain ⟨y0, y1, y2, y3⟩ := hR8.cells; unfold DV.nil at y0 y1 y2 y3; simp only at q0 q1 q2 q3 y0 y1 y2 y3; have f1 := hB8.soft 1; have s0 := hR8.soft 0; have s1 := hR8.soft 1; have s2 := hR8.soft 2; have s3 := hR8.soft 3; have hF := hP8.outSame; simp only [putDesk] at hF; have HF := Lib.hid hF; clear hF hB8 hR8 hP8 hg8 hown8 hat8))
          obtain ⟨d0, d1, d2, d3⟩ := HF.out.2.2.cells
          simp only at d0 d1 d2 d3
          refine bodyPost_ret (v := .agg #[.slice Ad0 nd0 cd0, .slice A8 (nw0 + 1) c8, .slice Al0 nl0 cl0, .slice Ak0 nk0 ck0]) (by simp [results, Try.results93, go_sem, d0, d1, d2, d3]) rfl ?_
          refine ⟨⟨.slice Ad0 nd0 cd0, .slice A8 (nw0 + 1) c8, .slice Al0 nl0 cl0, .slice Ak0 nk0 ck0⟩, rfl, ?_, HF.out.2.1⟩
          rw [e2.out]
          exact HF.out.1
  · have hway : wayO D.locks ⟨tx, kd, it⟩ = [] := by unfold wayO; rw [if_pos HBE.out]
    have e2 : Hid (askD .wound D ⟨tx, kd, it⟩ = grantD D ⟨tx, kd, it⟩) := (wound_ask hway).1 rfl
    clear hway
    go_enter Try.func93, Try.ntmps93
    go_wp2_with (go_at_call 89; go_loud (rw [← HW3.out]; refine (sends_any ⟨tx, kd, it⟩ _).mono ?_; rintro e w1 ⟨rfl, hb1⟩; rw [HBE.out]; have HP1 := Lib.hid ((HP0.out.alloc (.cells #[] 3)).below hb1); have HO1 := Lib.hid ((HO0.out.below ((Below.refl _ _).alloc (Nat.le_refl _) (.cells #[] 3))).below hb1); have hbase1 := HP1.out.desk.base; have hlt1 := HP1.out.lts; obtain ⟨d0, d1, d2, d3⟩ := HP1.out.box.cells; obtain ⟨p0, p1, p2⟩ := HO1.out.box.cells; simp only at d0 d1 d2 d3 p0 p1 p2; clear HP0 HO0 HW3 hb1; have HPZ : Hid (∃ rv : Value, rv = .slice (some ⟨w1.heap.size, 0, none⟩) 0 0) := ⟨_, rfl⟩; have HPA := Lib.hid (HP1.out.alloc (.cells #[] 3)); have HOA := Lib.hid (HO1.out.below ((Below.refl _ _).alloc (Nat.le_refl _) (.cells #[] 3)))))
    go_loopw [8, 9] (fun rv i wr => i = .int .i64 0 ∧ (∃ RA rc, rv = .slice RA 0 rc) ∧ Pk w ⟨.slice Ad nd cd, .slice Aw nw cw, .slice Al nl cl, .slice Ak nk ck⟩ B w.heap.size (w.heap.size + 1 + 1) wr ⟨.slice Ad nd cd, .slice Aw nw cw, .slice Al nl cl, .slice Ak nk ck⟩ D ∧ OB wr ⟨.slice Ad nd cd, .slice Aw nw cw, .slice Al nl cl, .slice Ak nk ck⟩ (w.heap.size + 1) ⟨tx, kd, it⟩) (fun _ _ _ => 0)
    case atStart => exact ⟨rfl, ⟨_, _, rfl⟩, HPA.out, HOA.out⟩
    case round =>
      clear HPA HOA HP1 HO1 d0 d1 d2 d3 p0 p1 p2
      obtain ⟨rfl, ⟨RA, rc, rfl⟩, hp, ho⟩ := hrel
      have HP5 := Lib.hid hp
      have HO5 := Lib.hid ho
      obtain ⟨d0, d1, d2, d3⟩ := HP5.out.box.cells
      obtain ⟨p0, p1, p2⟩ := HO5.out.box.cells
      simp only at d0 d1 d2 d3 p0 p1 p2
      have hg2 := grant_any B _ _ ⟨tx, kd, it⟩ wr HP5.out.desk (show D.locks.length ≤ 9000 by omega) (show D.done.length ≤ 9000 by omega)
      simp only [DV.val, OpV.val] at hg2
      have HG2 := Lib.hid hg2
      clear hg2 hp ho
      go_wp2_with (go_at_call 126; go_loud (refine HG2.out.mono ?_; rintro e w6 ⟨V6, rfl, hD6, hS6⟩; obtain ⟨Ad6, Aw6, Al6, Ak6, nd6, nw6, nl6, nk6, cd6, cw6, cl6, ck6, rfl, _⟩ := hD6.forms; obtain ⟨_, hR6, _⟩ := HP5.out.mid hS6; obtain ⟨y0, y1, y2, y3⟩ := hR6.cells; unfold DV.nil at y0 y1 y2 y3; simp only at y0 y1 y2 y3; have s0 := hR6.soft 0; have s1 := hR6.soft 1; have s2 := hR6.soft 2; have s3 := hR6.soft 3; have hF := HP5.out.out hD6 hS6; simp only [putDesk] at hF; have HF := Lib.hid hF; clear hF hS6 hD6 hR6; unfold DV.val; simp only))
      obtain ⟨d0, d1, d2, d3⟩ := HF.out.2.2.cells
      simp only at d0 d1 d2 d3
      refine bodyPost_ret (v := .agg #[.slice Ad6 nd6 cd6, .slice Aw6 nw6 cw6, .slice Al6 nl6 cl6, .slice Ak6 nk6 ck6]) (by simp [results, Try.results93, go_sem, d0, d1, d2, d3]) rfl ?_
      refine ⟨⟨.slice Ad6 nd6 cd6, .slice Aw6 nw6 cw6, .slice Al6 nl6 cl6, .slice Ak6 nk6 ck6⟩, rfl, ?_, HF.out.2.1⟩
      rw [e2.out]
      exact HF.out.1

end Go.Proofs.Ytncebpmckbcabaa
