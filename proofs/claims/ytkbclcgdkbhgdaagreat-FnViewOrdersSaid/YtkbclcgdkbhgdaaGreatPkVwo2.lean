/-
  The texts that the proof rests on, joined: part 2.
-/
import Derived.Maps.Keyed
import Derived.Maps.Own
import Derived.Maps.OwnOps
import Derived.Maps.Range
import Derived.Maps.RangeWalk
import Derived.Maps.Views
import Derived.DeepKeys4
import Derived.Deep.LoopGhost
import Derived.Test.YtkbclcgdkbhgdaaGreatRows
import Derived.Shelf.SortM.Plain
import Derived.RangeFuncNested
import Derived.RangeFuncBound
import Derived.RangeFuncCalls
import Derived.RangeFuncLeaves
import Derived.Shelf.Abstract
import Derived.Shelf.RegionOpen
import Derived.WalkKit
import Derived.Lib.SliceRun
import Derived.OwnWalkIn
import Derived.TacticsInMore
import Derived.LoopNIn
import Derived.LoopIn
import Derived.Shelf.SortM.SortNone
import Derived.Sort.OwnSortedInts
import Derived.RangeFuncBox
import Derived.RangeFuncWrites
import Derived.Maps.AppendAt
import Derived.Carry
import Derived.IntWalk
import Derived.StillTailTactics
import Derived.Deep.RegionLaw
import Derived.Test.YtkbclcgdkbhgdaaGreatPkVwo1
namespace Go.Proofs.YtkbclcgdkbhgdaaGreat
open Go.RowKit Go.BigFrame Go.Shelf
set_option linter.unusedVariables false
attribute [local go_sem] Oper.semAt_some

/-- What a round keeps for the iterator. -/
structure RdKeepK (a bx : Nat) (n0 : Nat → Prop) (V W : World) : Prop where
  size : V.heap.size ≤ W.heap.size
  block : ∀ k, k < V.heap.size → (n0 k ∨ k = bx ∨ (a ≤ k ∧ k < a + 4)) → W.heap[k]? = V.heap[k]?
theorem Iter.keptK {a bx l n c : Nat} {n0 : Nat → Prop} {A : Option Addr} {list pre : List Int} {V W : World} (h : Iter a bx l n c A list pre V) (hA : ∀ ad, A = some ad → n0 ad.block) (hk : RdKeepK a bx n0 V W) : Iter a bx l n c A list pre W := by
  have hob := hk.block (a + 2) (lt_of_block h.ob) (.inr (.inr (by omega)))
  have hyb := hk.block a (lt_of_block h.yb) (.inr (.inr (by omega)))
  have hfb := hk.block (a + 3) (lt_of_block h.fb) (.inr (.inr (by omega)))
  have hrb := hk.block (a + 1) (by have := lt_of_block h.ob; omega) (.inr (.inr (by omega)))
  have hbx : bx < V.heap.size := block_lt_of_cell h.lb
  have hlb := hk.block bx hbx (.inr (.inl rfl))
  refine ⟨hyb.trans h.yb, ownsRow_block h.row hk.size hrb, hob.trans h.ob, hfb.trans h.fb, (World.cell?_of_block (w := V) (a := ⟨bx, 0, none⟩) hlb).trans h.lb, ?_⟩
  refine ⟨h.list.1, h.list.2.1, fun h0 => ?_⟩
  obtain ⟨b, off, hA', hl, hc⟩ := h.list.2.2 h0
  have hkb := hk.block b hl (.inl (hA _ hA'))
  have hs := hk.size
  exact ⟨b, off, hA', by omega, fun i x hx => (World.cell?_of_block (w := V) (a := ⟨b, off + i, none⟩) hkb).trans (hc i x hx)⟩
/-- What the loop's body asks of the iterator, and what it does in a round. -/
structure PermCtxK (a bx : Nat) (n0 : Nat → Prop) (l n : Nat) (list : List Int) (J : List (List Int) → World → Prop) : Prop where
  abide : ∀ s V W, J s V → ItStep a V W → J s W
  round : ∀ acc x V W1 A' c' m, J acc V → ItStep a V W1 → a + 4 ≤ V.heap.size → FreshInts V W1 A' n x → n ≤ c' → (acc ++ [x]) <+: permF list n [] →
    YieldAt Fence.wide m Tryz.prog l #[.slice A' n c'] W1 fun e W' => e = .returned (.bool true) ∧ J (acc ++ [x]) W' ∧ RdKeepK a bx n0 W1 W'
set_option maxRecDepth 100000 in
set_option maxHeartbeats 1000000 in
theorem from_zeroK (a bx : Nat) (n0 : Nat → Prop) (l n c : Nat) (A : Option Addr) (list : List Int) (J : List (List Int) → World → Prop) (hP : PermCtxK a bx n0 l n list J) (hA : ∀ ad, A = some ad → n0 ad.block)
    (pre : List Int) (acc : List (List Int)) (V : World) (hI : Iter a bx l n c A list pre V) (hJ : J acc V) (hlen : pre.length = n) (hpre : (acc ++ [pre]) <+: permF list n []) :
      Calls Tryz.prog 42 #[.pointer (some ⟨a + 2, 0, none⟩), .pointer (some ⟨bx, 0, none⟩), .pointer (some ⟨a, 0, none⟩), .pointer (some ⟨a + 3, 0, none⟩)] V fun e V' =>
        e = .returned (.bool true) ∧ Iter a bx l n c A list pre V' ∧ J (acc ++ [pre]) V' := by
  subst hlen
  obtain ⟨c0, c2, f2, c3⟩ := hI.cells
  have clb := hI.lb
  have hln := hI.list.2.1
  have hcl : Calls Tryz.prog 43 #[.slice (some ⟨a + 1, 0, none⟩) pre.length pre.length] V.drew (RetInts V.drew pre) := CloneI_any (a + 1) 0 pre.length pre.length pre V.drew (RInts.of_own hI.row hln)
  have HC := Lib.hid hcl
  have HR : Hid (∀ (A1 : Option Addr) (c1 m : Nat) (w1 : World), FreshInts V.drew w1 A1 pre.length pre → pre.length ≤ c1 → Below V.drew.heap.size V.drew w1 →
      YieldAt Fence.wide m Tryz.prog l #[.slice A1 pre.length c1] w1 fun e W' => e = .returned (.bool true) ∧ J (acc ++ [pre]) W' ∧ Iter a bx l pre.length c A list pre W') := by
    intro A1 c1 m w1 hf hc1 hb
    refine (hP.round acc pre V w1 A1 c1 m hJ ⟨hb.os, hb.tape, hb.output, hb.size, fun k hk _ => hb.block k hk⟩ hI.sz hf hc1 hpre).mono ?_
    rintro e W' ⟨he, hj, hk⟩
    exact ⟨he, hj, (hI.below (W := w1) ⟨hb.os, hb.tape, hb.output, hb.size, hb.block⟩).keptK hA hk⟩
  clear hI hJ hpre hP hcl
  refine (callsIn_wide (n := 5)).1 ?_
  refine callsIn_of_wp Tryz.func42 rfl trivial ?_ rfl
  simp only [Tryz.ntmps42, List.size_toArray, List.length_cons, List.length_nil, Nat.reduceAdd, Nat.reduceSub, Array.replicate_succ, Array.replicate_zero, List.push_toArray, List.append_toArray, List.nil_append, List.cons_append]
  gi_wp2
  gi_region_with (first
    | (refine ⟨trivial, ?_⟩; gi_at_call 43; refine (callsIn_wide.2 HC.out).mono ?_; rintro e w1 ⟨A1, c1, rfl, hc1, hf, hb⟩; have c0' := (hb.cell (p := ⟨a, 0, none⟩) (block_lt_of_cell c0)).trans c0; obtain ⟨fn, tmps, assign, body, hy, hR⟩ := HR.out A1 c1 4 w1 hf hc1 hb)
    | (refine hR.mono ?_; rintro e w2 ⟨rfl, hJ2, hI2⟩))
  all_goals
    gi_wp2
    go_ret
    exact ⟨rfl, hI2, hJ2⟩
set_option maxRecDepth 100000 in
set_option maxHeartbeats 2000000 in
theorem from_anyK (a bx : Nat) (n0 : Nat → Prop) (l n c : Nat) (A : Option Addr) (list : List Int) (J : List (List Int) → World → Prop) (hP : PermCtxK a bx n0 l n list J) (hbx : bx < a) (hA : ∀ ad, A = some ad → n0 ad.block) (hn0 : ∀ k, n0 k → k < a) (m : Nat) :
    ∀ (pre : List Int) (acc : List (List Int)) (V : World), Iter a bx l n c A list pre V → J acc V → pre.length + m = n → (acc ++ permF list m pre) <+: permF list n [] →
      Calls Tryz.prog 42 #[.pointer (some ⟨a + 2, 0, none⟩), .pointer (some ⟨bx, 0, none⟩), .pointer (some ⟨a, 0, none⟩), .pointer (some ⟨a + 3, 0, none⟩)] V fun e V' =>
        e = .returned (.bool true) ∧ Iter a bx l n c A list pre V' ∧ J (acc ++ permF list m pre) V' := by
  induction m with
  | zero =>
    intro pre acc V hI hJ hlen hpre
    exact from_zeroK a bx n0 l n c A list J hP hA pre acc V hI hJ (by omega) hpre
  | succ m ih =>
    intro pre acc V hI hJ hlen hpre
    obtain ⟨d, hh⟩ : ∃ d, pre.length = d := ⟨_, rfl⟩
    have HLEN := Lib.hid hh
    have hhn : d < n := by omega
    have hdm : d + m + 1 = n := by omega
    have hdn : ((d : Int) == (n : Int)) = false := by simp; omega
    obtain ⟨c0, c2, f2, c3⟩ := hI.cells
    rw [hh] at c2
    have clb := hI.lb
    have hln := hI.list.2.1
    have hlist := hI.list.1
    have HP := Lib.hid hP
    have HIH := Lib.hid ih
    have HPRE := Lib.hid hpre
    have HFI : Hid (FromInv a bx l n c A list pre J acc V) := ⟨hI, hJ⟩
    have HA := Lib.hid hA
    have HL := Lib.hid hlist
    clear hI hJ hP ih hpre hA hlist hlen hh
    go_enter Tryz.func42, Tryz.ntmps42
    go_wp2_with fail
    go_loopw [18] (fun i wr => ∃ k : Nat, k ≤ n ∧ i = .int .i64 k ∧ FromInv a bx l n c A list pre J (acc ++ (list.take k).flatMap (permN list m pre)) wr) (fun i _ => n - (intOf i).toNat)
    case atStart => exact ⟨0, Nat.zero_le _, rfl, by simpa using HFI.out⟩
    case round =>
      clear HFI c0 c2 f2 c3 clb
      obtain ⟨k, hk, rfl, hinv⟩ := hrel
      have HINV := Lib.hid hinv
      clear hinv
      by_cases hlt : k < n
      · obtain ⟨c0, c2, f2, c3⟩ := HINV.out.it.cells
        rw [HLEN.out] at c2
        obtain ⟨b, off, t, hAe, hbl, ho, ct⟩ := HINV.out.it.list.at_ hlt
        have hbA : b < a := hn0 _ (HA.out _ hAe)
        subst hAe
        have hst : (list.take (k + 1)).flatMap (permN list m pre) = (list.take k).flatMap (permN list m pre) ++ permN list m pre t := by
          rw [take_snoc ho, List.flatMap_append]; simp
        have hpx : permF list (m + 1) pre = ((list.take k).flatMap (permN list m pre) ++ permN list m pre t) ++ (list.drop (k + 1)).flatMap (permN list m pre) := by
          rw [permF_succ, ← hst, ← List.flatMap_append, List.take_append_drop]
        have HPX : Hid ((acc ++ (list.take k).flatMap (permN list m pre) ++ permN list m pre t) <+: permF list n []) := by
          have := HPRE.out
          rw [hpx] at this
          refine List.IsPrefix.trans ⟨(list.drop (k + 1)).flatMap (permN list m pre), ?_⟩ this
          simp [List.append_assoc]
        have HST : Hid (acc ++ (list.take (k + 1)).flatMap (permN list m pre) = acc ++ (list.take k).flatMap (permN list m pre) ++ permN list m pre t) := by show _ = _; rw [hst, List.append_assoc]
        have HN : Hid (permN list m pre t = if pre.any (fun y => y == t) then [] else permF list m (pre ++ [t])) := rfl
        clear hst hpx ho
        generalize acc ++ (list.take k).flatMap (permN list m pre) = acc1 at *
        generalize permN list m pre t = nx at *
        have hrow := HINV.out.it.row
        rw [HLEN.out] at hrow
        have hcI : Calls Tryz.prog 44 #[.slice (some ⟨a + 1, 0, none⟩) d n, .int .i64 t] wr fun e w' => e = .returned (.bool (pre.any fun y => y == t)) ∧ Below wr.heap.size wr w' := ContainsS_any (some ⟨a + 1, 0, none⟩) d n pre t wr (RInts.of_own hrow (by omega))
        obtain ⟨bc, hbc⟩ : ∃ bc, (pre.any fun y => y == t) = bc := ⟨_, rfl⟩
        have HBC := Lib.hid hbc
        rw [hbc] at hcI
        have HC := Lib.hid hcI
        have HROW := Lib.hid hrow
        have clb := HINV.out.it.lb
        have hsz := HINV.out.it.sz
        clear hcI hbc hrow
        cases bc
        · go_wp2_with fail
          refine (HC.out).mono ?_
          rintro e w1 ⟨rfl, hb1⟩
          have c2' := (hb1.cell (p := ⟨a + 2, 0, none⟩) (by simp; omega)).trans c2
          have f2' := (hb1.frozen (p := ⟨a + 2, 0, none⟩) (by simp; omega)).trans f2
          have hrow1 := (own_below HROW.out hb1).alloc (.cells #[.int .i64 t] 3)
          have hbw1 := hb1.size
          have HI1 : Hid (Iter a bx l n c (some ⟨b, off, none⟩) list pre (w1.alloc (.cells #[.int .i64 t] 3))) := HINV.out.it.below ((hb1.trans ((Below.refl wr.heap.size w1).alloc hbw1 _)))
          have HJ1 : Hid (∀ W, ItStep a (w1.alloc (.cells #[.int .i64 t] 3)) W → J acc1 W) := fun W hW => HP.out.abide _ _ _ HINV.out.j ((ItStep.of_below (hb1.trans ((Below.refl wr.heap.size w1).alloc hbw1 _))).trans hW)
          have HAB : Hid (∀ ad, some (⟨b, off, none⟩ : Addr) = some ad → ad.block < a) := fun ad h => by injection h with h; subst h; exact hbA
          go_wp2_with (at_builtin; refine wpList_append_fits _ rfl (.tmp 25) (.tmp 27) 32 rfl a 3 (info_parts intInfo).choose 1 Tryz.underlying32 (info_parts intInfo).choose_spec.1 (info_parts intInfo).choose_spec.2.2.1 (a + 1) d n (intCells pre) rfl hrow1 ⟨w1.heap.size, 0, none⟩ 1 1 [.int .i64 t] rfl rfl (cell_one_new _ _ _) (by simp [Value.oneCell']) (by omega) ?_; intro w3 hown3 hg3; have hpl := put_len HLEN.out HI1.out hg3 hbx HAB.out hown3; have c2w := hpl.1; have f2w := hpl.2.1; have c3w := hpl.2.2.2; have HI4 := Lib.hid hpl.2.2.1; have HJ4 := Lib.hid (HJ1.out _ (put_step (u := .slice (some ⟨a + 1, 0, none⟩) (d + 1) n) hg3)); clear hpl hown3 hg3)
          have hlen4 : (pre ++ [t]).length + m = n := by simp [HLEN.out]; omega
          refine (HIH.out (pre ++ [t]) acc1 _ HI4.out HJ4.out hlen4 (by have := HPX.out; rw [HN.out, HBC.out] at this; simpa using this)).mono ?_
          rintro e w5 ⟨rfl, hI5, hJ5⟩
          obtain ⟨_, c25, f25, _⟩ := hI5.cells
          have hl5 : (pre ++ [t]).length = d + 1 := by simp [HLEN.out]
          rw [hl5] at c25
          have s1 : IntKind.i64.wrap (((d + 1 : Nat) : Int) - 1) = (d : Int) := by rw [IntWalk.i64_in _ (by omega)]; omega
          have HI5 := Lib.hid hI5
          have HJ5 := Lib.hid hJ5
          clear hI5 hJ5 c2w f2w c3w
          go_wp2_with fail
          go_roundw
          case rel => exact ⟨k + 1, by omega, by go_num, by
            rw [HST.out, HN.out, HBC.out, if_neg (by simp)]
            refine ⟨?_, HP.out.abide _ _ _ HJ5.out (ItStep.set _ _ (by simp))⟩
            have hr := HI5.out.row
            rw [hl5] at hr
            have h6 := HI5.out.put (pre' := pre) (World.grownBy.refl _ _) hbx HAB.out (by rw [HLEN.out]; exact own_less (xs := pre) hr HLEN.out)
            rw [HLEN.out] at h6
            exact h6⟩
          case measure => simp [intOf]; omega
        · go_wp2_with fail
          refine (HC.out).mono ?_
          rintro e w1 ⟨rfl, hb1⟩
          go_wp2_with fail
          go_roundw
          case rel => exact ⟨k + 1, by omega, by go_num, by
            rw [HST.out, HN.out, HBC.out, if_pos rfl, List.append_nil]
            exact ⟨HINV.out.it.below hb1, HP.out.abide _ _ _ HINV.out.j (ItStep.of_below hb1)⟩⟩
          case measure => simp [intOf]; omega
      · obtain rfl : k = n := by omega
        go_wp2_with fail
        go_ret
        have e : list.take k = list := List.take_of_length_le (by have := HL.out; omega)
        have hi := HINV.out
        rw [e] at hi
        exact ⟨rfl, hi.it, hi.j⟩
set_option maxRecDepth 100000 in
set_option maxHeartbeats 2000000 in
/-- The closure, called with what takes the orders: all of them come, in order. -/
theorem perms_anyK (bx : Nat) (n0 : Nat → Prop) (l n c : Nat) (A : Option Addr) (list : List Int) (J : List (List Int) → World → Prop) (W : World) (hP : PermCtxK W.heap.size bx n0 l n list J)
    (hb : W.cell? ⟨bx, 0, none⟩ = some (.slice A n c)) (hl : RInts W A n list) (hA : ∀ ad, A = some ad → n0 ad.block) (hn0 : ∀ k, n0 k → k < W.heap.size) (hn4 : n ≤ 4) (h0 : J [] W) :
    Calls Tryz.prog 41 #[.func (.yield l) #[] #[], .pointer (some ⟨bx, 0, none⟩)] W fun e W' => (∃ v, e = .returned v) ∧ J (permF list n []) W' := by
  obtain ⟨cs, hcs, hmk⟩ := run_mkInts n (by omega) (W.alloc (.cells #[.func (.yield l) #[] #[]] 60))
  have hbx : bx < W.heap.size := by have := block_lt_of_cell hb; simpa using this
  have HX := Lib.hid (And.intro hl (And.intro h0 hP))
  have HA := Lib.hid hA
  have HCS := Lib.hid hcs
  clear hl h0 hP hA hcs
  go_enter Tryz.func41, Tryz.ntmps41
  go_wp2_with fail
  refine (from_anyK W.heap.size bx n0 l n c A list J HX.out.2.2 hbx HA.out hn0 n [] [] _ (iter_start HCS.out hb HX.out.1 hn4) (HX.out.2.2.abide _ _ _ HX.out.2.1 ?hst) (by simp) (by simp)).mono ?_
  case hst => exact ItStep.of_below ((((Below.refl _ W).alloc (Nat.le_refl _) _).alloc (by simp) _).alloc (by simp; omega) _ |>.alloc (by simp; omega) _)
  rintro e w5 ⟨rfl, _, hJ5⟩
  have HJ5 := Lib.hid hJ5
  clear hJ5
  go_wp2_with fail
  go_end0
  exact ⟨⟨_, rfl⟩, by have := HJ5.out; simpa using this⟩
/-- What a round's body keeps. -/
structure BdKeepK (b bx : Nat) (n0 : Nat → Prop) (V W : World) : Prop where
  size : V.heap.size ≤ W.heap.size
  block : ∀ k, k < V.heap.size → (n0 k ∨ k = bx ∨ (b ≤ k ∧ k < b + 6)) → W.heap[k]? = V.heap[k]?
theorem BdKeepK.trans {b bx : Nat} {n0 : Nat → Prop} {U V W : World} (h : BdKeepK b bx n0 U V) (k : BdKeepK b bx n0 V W) : BdKeepK b bx n0 U W :=
  ⟨Nat.le_trans h.size k.size, fun i hi hn => (k.block i (Nat.lt_of_lt_of_le hi h.size) hn).trans (h.block i hi hn)⟩
theorem BdKeepK.of_below {b bx : Nat} {n0 : Nat → Prop} {V W : World} (h : Below V.heap.size V W) : BdKeepK b bx n0 V W := ⟨h.size, fun k hk _ => h.block k hk⟩
def permPostK (b bx : Nat) (n0 : Nat → Prop) (I : List (List Int) → World → Prop) (xs : List (List Int)) (W : World) : Exit → Act → World → Prop
  | .normal, _, W' => BdKeepK b bx n0 W W' ∧ I xs W'
  | _, _, _ => False
theorem wpIn_rangePermK {g : Operand} {ps : Array Tmp} {assign body : Code} {Q : Exit → Act → World → Prop} {a : Act} {w : World} {N : Nat} (bx : Nat) (n0 : Nat → Prop) (n c : Nat) (A : Option Addr) (list : List Int)
    (hg : a.eval g = .func (.func 41) #[] #[.pointer (some ⟨bx, 0, none⟩)]) (hps : ps.size = 1)
    (hb : w.cell? ⟨bx, 0, none⟩ = some (.slice A n c)) (hl : RInts w A n list) (hA : ∀ ad, A = some ad → n0 ad.block) (hn0 : ∀ k, n0 k → k < w.heap.size) (hn4 : n ≤ 4)
    (I : List (List Int) → World → Prop) (hI : ∀ s V W, I s V → LpStep w.heap.size V W → I s W) (h0 : I [] w) (a₁ : Value → Act)
    (hassign : ∀ (l m : Nat) (v : Value) (W : World) (K : Act → World → Prop), K (a₁ v) W →
      assign.wpIn (Fence.wide.inRound l) m Tryz.prog (Exit.then K (fun _ _ _ => False)) { tmps := (ps.zip #[v]).foldl (fun t (p, v) => t.setIfInBounds p v) a.tmps, defers := [] } W)
    (hbody : ∀ (l m : Nat) (pre : List (List Int)) (x : List Int) (V W : World) (A' : Option Addr) (c' : Nat), I pre V → LpStep w.heap.size V W → w.heap.size + 6 ≤ V.heap.size → FreshInts V W A' n x → n ≤ c' → (pre ++ [x]) <+: permF list n [] →
      body.wpIn (Fence.wide.inRound l) m Tryz.prog (permPostK w.heap.size bx n0 I (pre ++ [x]) W) (a₁ (.slice A' n c')) W)
    (hdone : ∀ W : World, I (permF list n []) W → w.heap.size < W.heap.size → W.heap[w.heap.size]? = some (.deferred (some [])) → Q .normal { a with defers := { target := .collected w.heap.size, args := #[] } :: a.defers } W) :
    (Code.rangeFunc g ps assign body).wpIn Fence.wide N Tryz.prog Q a w := by
  refine wpIn_rangeFunc ?_
  intro fn hfn
  rw [Fence.wide_round]
  obtain ⟨rec, hrec⟩ : ∃ rec : LoopState → Loop, rec = fun st => { state := st, pending := none, fn, tmps := a.tmps, params := ps, assign, body, defers := w.heap.size } := ⟨_, rfl⟩
  obtain ⟨W1, hW1⟩ : ∃ W1, (w.alloc (.deferred (some []))).alloc (.loop (rec .ready)) = W1 := ⟨_, rfl⟩
  have hL1 : W1.heap[w.heap.size + 1]? = some (.loop (rec .ready)) := by
    rw [← hW1]; have := World.alloc_heap_new (w.alloc (.deferred (some []))) (.loop (rec .ready)); rwa [World.size_alloc] at this
  have hK1 : W1.heap[w.heap.size]? = some (.deferred (some [])) := by
    rw [← hW1]; exact (Below.heap_alloc _ _ _ (by simp)).trans (World.alloc_heap_new w _)
  have hb1 : Below w.heap.size w W1 := by
    rw [← hW1]; exact (((Below.refl _ w).alloc (Nat.le_refl _) _).alloc (by simp) _)
  have hs1 : W1.heap.size = w.heap.size + 2 := by rw [← hW1]; simp
  have hI1 : I [] W1 := hI _ _ _ h0 (LpStep.of_below hb1)
  have hbx : bx < w.heap.size := block_lt_of_cell hb
  refine ⟨w.heap.size + 1, [{ target := .collected w.heap.size, args := #[] }], W1, { target := .fn (.func 41) #[.pointer (some ⟨bx, 0, none⟩)], args := #[.func (.yield (w.heap.size + 1)) #[] #[]] }, W1, 41,
    #[.func (.yield (w.heap.size + 1)) #[] #[], .pointer (some ⟨bx, 0, none⟩)], W1, ?_, ?_, fun f' hf' => trivial, ?_, fun h => by simp [Fence.wide] at h, ?_⟩
  · rw [← hW1, hrec]; exact run_enterLoop_outer _ _ _ _ _
  · simp only [resolve, hg]
    simp [go_sem]
  · have eg : ∀ args w, (callFunc 41 args).run Tryz.prog w = .ok (.enter 41 args) w := enters_of Tryz.func41 (by kernel_rfl) rfl
    simp [invoke, go_sem, eg]
  · refine callsIn_wide.2 ((perms_anyK bx n0 (w.heap.size + 1) n c A list
      (fun pre V => I pre V ∧ V.heap[w.heap.size + 1]? = some (.loop (rec .ready)) ∧ V.heap[w.heap.size]? = some (.deferred (some []))) W1 ?_
      ((hb1.cell (p := ⟨bx, 0, none⟩) hbx).trans hb) (hl.below hb1 (Nat.le_refl _)) hA (fun k hk => by have := hn0 k hk; omega) hn4 ⟨hI1, hL1, hK1⟩).mono ?_)
    · rw [hs1]
      refine ⟨fun s V W hs hst => ?_, fun acc x V W A' c' m hj hst hsz hf hc' hpre => ?_⟩
      · obtain ⟨hi, hlp, hdf⟩ := hs
        exact ⟨hI _ _ _ hi (LpStep.of_it hst), (hst.block _ (Array.getElem?_eq_some_iff.1 hlp).1 (by omega)).trans hlp, (hst.block _ (Array.getElem?_eq_some_iff.1 hdf).1 (by omega)).trans hdf⟩
      · obtain ⟨hi0, hl0, hk0⟩ := hj
        have hi : I acc W := hI _ _ _ hi0 (LpStep.of_it hst)
        have hlp : W.heap[w.heap.size + 1]? = some (.loop (rec .ready)) := (hst.block _ (Array.getElem?_eq_some_iff.1 hl0).1 (by omega)).trans hl0
        have hk : W.heap[w.heap.size]? = some (.deferred (some [])) := (hst.block _ (Array.getElem?_eq_some_iff.1 hk0).1 (by omega)).trans hk0
        have hlt : w.heap.size + 1 < W.heap.size := (Array.getElem?_eq_some_iff.1 hlp).1
        have hy := run_yield (P := Tryz.prog) (args := #[.slice A' n c']) hlp (by rw [hrec]; simp [hps])
        rw [hrec] at hy
        refine ⟨fn, _, assign, body, hy, roundIn_of_wpIn hfn (hassign _ m (.slice A' n c') W _ ⟨_, run_beginRound hlp (by rw [hrec]), ?_⟩)⟩
        have hl2 : (W.putObj (w.heap.size + 1) (.loop { rec .ready with state := .busy })).heap[w.heap.size + 1]? = some (.loop { rec .ready with state := .busy }) := World.putObj_heap_same hlt
        have hk2 : (W.putObj (w.heap.size + 1) (.loop { rec .ready with state := .busy })).heap[w.heap.size]? = some (.deferred (some [])) := (World.putObj_heap_other (by omega)).trans hk
        have hf2 : FreshInts V (W.putObj (w.heap.size + 1) (.loop { rec .ready with state := .busy })) A' n x := by
          refine (hf.grownT (grownBy_putObj' W (w.heap.size + 1) _) ?_)
          intro g hg' cur hcur
          injection hg' with hg'
          subst hg'
          rw [hlp] at hcur
          cases hcur
        refine wpIn_mono (hbody _ m acc x V _ A' c' hi0 ((LpStep.of_it hst).trans (LpStep.put _ _ (by omega))) (by omega) hf2 hc' hpre) ?_
        rintro e a3 W3 hp
        cases e with
        | normal =>
          obtain ⟨hk3, hi3⟩ := hp
          have hl3 : W3.heap[w.heap.size + 1]? = some (.loop { rec .ready with state := .busy }) := (hk3.block _ (by simp; omega) (.inr (.inr (by omega)))).trans hl2
          have hd3 : W3.heap[w.heap.size]? = some (.deferred (some [])) := (hk3.block _ (by simp; omega) (.inr (.inr (by omega)))).trans hk2
          have hr := run_endRound (P := Tryz.prog) none hl3
          rw [hrec] at hr
          refine ⟨_, _, hr, rfl, ⟨hI _ _ _ hi3 (LpStep.put _ _ (by omega)), ?_, (World.putObj_heap_other (by omega)).trans hd3⟩, ?_, ?_⟩
          · rw [hrec]; exact World.putObj_heap_same (Array.getElem?_eq_some_iff.1 hl3).1
          · have := hk3.size; simp at this ⊢; exact this
          · intro k hkk hc
            have hne : k ≠ w.heap.size + 1 := by
              rcases hc with h | h | h
              · have := hn0 k h; omega
              · omega
              · omega
            refine (World.putObj_heap_other hne).trans ((hk3.block k (by simpa using hkk) ?_).trans (World.putObj_heap_other hne))
            rcases hc with h | h | h
            · exact .inl h
            · exact .inr (.inl h)
            · exact .inr (.inr (by omega))
        | ret => exact hp.elim
        | exit id => exact hp.elim
        | goto t => exact hp.elim
        | panic ch => exact hp.elim
        | outgrown => exact hp.elim
    · rintro e W2 ⟨⟨v, rfl⟩, hi, hlp, hdf⟩
      have := run_endLoop (P := Tryz.prog) hlp (by rw [hrec]; simp)
      rw [hrec] at this
      exact ⟨none, _, this, hdone _ (hI _ _ _ hi (LpStep.put _ _ (by omega))) (by simpa using (Array.getElem?_eq_some_iff.1 hdf).1) ((World.putObj_heap_other (by omega)).trans hdf)⟩
end Go.Proofs.YtkbclcgdkbhgdaaGreat
namespace Go.Proofs.YtkbclcgdkbhgdaaGreat
open Go.RowKit
set_option linter.unusedVariables false


theorem gpcells : Tryz.prog.cellsOf 88 = 2 := by kernel_rfl
theorem gprow : (88 : TypeId) < Tryz.prog.types.size := of_decide_eq_true (by kernel_rfl)
theorem gpwide : (match Tryz.prog.underlying 88 with | some (.array _ _) | some (.struct _) => true | _ => false) = true := by rw [Tryz.underlying88]
theorem gplaid : laidOutB Tryz.prog = true := by kernel_rfl
set_option maxRecDepth 100000 in
theorem gplaw : WideMaps.KeyLaw Tryz.prog 88 := deep_law_laid gplaid (m := 2) (by omega) gprow (by kernel_rfl) gpwide
theorem gpkeyed : Maps.Keyed Tryz.prog 88 := Maps.Keyed.of_law gplaw
theorem gpkt : Tryz.prog.keyType 88 = true := by kernel_rfl
def gpval (t u : Int) : Value := .agg #[.int .i64 t, .int .i64 u]
theorem gpformed {a b : Value} : (Value.agg #[a, b]).formed Tryz.prog 88 = true := by simp [Value.formed, Tryz.underlying88, gpcells]
def gplit (t u : Int) : Lit := .string (keyBytes [.int .i64 t, .int .i64 u])
theorem gpkey {t u : Int} (ht : (Lit.int .i64 t).wf = true) (hu : (Lit.int .i64 u).wf = true) : keyOf Tryz.prog 88 (gpval t u) = some (gplit t u) := by
  obtain ⟨d, hd⟩ : ∃ d, Tryz.prog.types.size = d + 1 := ⟨Tryz.prog.types.size - 1, by have h : (88 : Nat) < Tryz.prog.types.size := gprow; omega⟩
  have hc : Tryz.prog.cellsOf 3 = 1 := by kernel_rfl
  unfold keyOf gpval gplit
  rw [Tryz.underlying88]
  simp only [gpkt, gpformed, Bool.and_self, if_true]
  rw [hd]
  simp [Program.keyLits, Tryz.underlying88, Tryz.underlying3, gpcells, hc, Value.cells, ht, hu]
set_option maxRecDepth 100000 in
theorem gpinv {v : Value} {kl : Lit} (h : keyOf Tryz.prog 88 v = some kl) : ∃ t u : Int, v = gpval t u ∧ (Lit.int .i64 t).wf = true ∧ (Lit.int .i64 u).wf = true ∧ kl = gplit t u := by
  have h0 := h
  have hf : v.formed Tryz.prog 88 = true := by
    unfold keyOf at h
    rw [Tryz.underlying88] at h
    simp only [gpkt, Bool.true_and] at h
    cases hv : v.formed Tryz.prog 88
    · rw [hv] at h; simp at h
    · rfl
  obtain ⟨cs, rfl⟩ : ∃ cs, v = .agg cs := by
    cases v <;> simp [Value.formed, Tryz.underlying88] at hf ⊢
  have hsz : cs.size = 2 := by
    simp only [Value.formed, Tryz.underlying88, gpcells, beq_iff_eq] at hf
    exact hf
  obtain ⟨a, b, rfl⟩ : ∃ a b, cs = #[a, b] := by
    obtain ⟨l⟩ := cs
    match l, hsz with
    | [a, b], _ => exact ⟨a, b, rfl⟩
  obtain ⟨d, hd⟩ : ∃ d, Tryz.prog.types.size = d + 1 := ⟨Tryz.prog.types.size - 1, by have h : (88 : Nat) < Tryz.prog.types.size := gprow; omega⟩
  have hc : Tryz.prog.cellsOf 3 = 1 := by kernel_rfl
  have key : ∀ x : Value, (∃ n : Int, x = .int .i64 n ∧ (Lit.int .i64 n).wf = true) ∨ Tryz.prog.keyLits (d + 1) 3 [x] = none := by
    intro x
    cases x
    case int q n =>
      by_cases hq : q = .i64 ∧ (Lit.int .i64 n).wf = true
      · obtain ⟨rfl, hw⟩ := hq
        exact .inl ⟨n, rfl, hw⟩
      · right
        simp only [Program.keyLits, Tryz.underlying3]
        rw [if_neg hq]
    all_goals (right; simp [Program.keyLits, Tryz.underlying3])
  unfold keyOf at h
  rw [Tryz.underlying88] at h
  simp only [gpkt, gpformed, Bool.and_self, if_true] at h
  rw [hd] at h
  rw [Program.keyLits.eq_def] at h
  simp only [Tryz.underlying88, Value.cells] at h
  rcases key a with ⟨t, rfl, ht⟩ | ha
  · rcases key b with ⟨u, rfl, hu⟩ | hb
    · refine ⟨t, u, rfl, ht, hu, ?_⟩
      have h1 := gpkey ht hu
      unfold gpval at h1
      rw [h1] at h0
      injection h0 with h0
      exact h0.symm
    · simp [gpcells, hc, hb] at h
  · simp [gpcells, hc, ha] at h


theorem gpbool_inv0 {P : Program} {e : TypeId} (he : P.underlying e = some .bool) {v : Value} {z : DataW Unit × List MemPlace} (h : plainElem (H := Unit) P e v = some z) : ∃ c : Bool, v = .bool c ∧ z = (.lit (.bool c), []) := by
  unfold plainElem at h
  rw [he] at h
  cases v <;> simp at h
  exact ⟨_, rfl, h.symm⟩
theorem gpbool_inv {v : Value} {z : DataW Unit × List MemPlace} (h : plainElem (H := Unit) Tryz.prog 4 v = some z) : ∃ c : Bool, v = .bool c ∧ z = (.lit (.bool c), []) := gpbool_inv0 Tryz.underlying4 h
section
variable {w : World} {ops : Array Oper} {rest : List Oper} {o : Oper} {a : Act} {Q : Exit → Act → World → Prop}
set_option maxRecDepth 100000 in
theorem gpbool_next (hg : o.guard = none) (it : Operand) (hop : o.op = Op.next it false) (b r n : Nat) (D : DataW Unit) (left : Lit → Bool) (cnt : Nat)
    (hit : a.eval it = .pointer (some ⟨r, 0, none⟩)) (h : w.ranges Tryz.prog 88 (plainElem (H := Unit) Tryz.prog 4) b r n D left cnt)
    (hDone : cnt = 0 → (∀ kl, left kl = false) → wpList Tryz.prog ops Q rest (a.put o.dst (.tuple #[.bool false])) w)
    (hMore : ∀ (t u : Int) (c : Bool) (w' : World) (cnt' : Nat), (Lit.int .i64 t).wf = true → (Lit.int .i64 u).wf = true → left (gplit t u) = true → (∀ zd, D.atKey (gplit t u) zd = .lit (.bool c)) → w'.ranges Tryz.prog 88 (plainElem (H := Unit) Tryz.prog 4) b r n D (fun z => left z && !z.sameKey (gplit t u)) cnt' → cnt' < cnt →
      w.grownBy w' (some r) → w'.heap.size = w.heap.size → (Instr.entry (.pointer (some ⟨r, 0, none⟩))).run Tryz.prog w' = .ok (.tuple #[.agg #[.int .i64 t, .int .i64 u], .bool c]) w' → wpList Tryz.prog ops Q rest (a.put o.dst (.tuple #[.bool true, .agg #[.int .i64 t, .int .i64 u], .bool c])) w') :
    wpList Tryz.prog ops Q (o :: rest) a w := by
  refine wpList_next_ranges w hg it hop 88 gpkeyed (plainElem (H := Unit) Tryz.prog 4) (fun p : Int × Int => gpval p.1 p.2) (fun c : Bool => .bool c) (fun key kl hk => ?_) (fun v y hv => ?_) b r n D left cnt hit h hDone ?_
  · obtain ⟨t, u, rfl, _⟩ := gpinv hk
    exact ⟨(t, u), rfl⟩
  · obtain ⟨c, rfl, _⟩ := gpbool_inv hv
    exact ⟨c, rfl⟩
  · rintro ⟨x1, x2⟩ c kl y w' cnt' hk hl hv hat hrg hlt hgr hsz hen
    obtain ⟨t, u, e, ht, hu, rfl⟩ := gpinv hk
    unfold gpval at e
    simp only [Value.agg.injEq, Array.mk.injEq, List.cons.injEq, Value.int.injEq, true_and, and_true] at e
    obtain ⟨rfl, rfl⟩ := e
    obtain ⟨c', e, rfl⟩ := gpbool_inv hv
    obtain rfl : c = c' := by simpa using e
    exact hMore x1 x2 c w' cnt' ht hu hl hat hrg hlt hgr hsz hen
end

end Go.Proofs.YtkbclcgdkbhgdaaGreat
namespace Go.Proofs.YtkbclcgdkbhgdaaGreat
open Go.RowKit Go.BigFrame
set_option linter.unusedVariables false

def confB (a b : OpV) : Bool := a.tx != b.tx && isAcc a && isAcc b && a.item == b.item && (a.kind == 1 || b.kind == 1)

set_option maxRecDepth 100000 in
set_option maxHeartbeats 2000000 in
theorem conflicts_any (a b : OpV) (w : World) :
    Calls Tryz.prog 87 #[a.val, b.val] w fun e w' => e = .returned (.bool (confB a b)) ∧ Below w.heap.size w w' := by
  obtain ⟨at_, ak, ai⟩ := a
  obtain ⟨bt, bk, bi⟩ := b
  obtain ⟨r1, h1⟩ : ∃ z, (at_ != bt) = z := ⟨_, rfl⟩
  obtain ⟨r2, h2⟩ : ∃ z, isAcc ⟨at_, ak, ai⟩ = z := ⟨_, rfl⟩
  obtain ⟨r3, h3⟩ : ∃ z, isAcc ⟨bt, bk, bi⟩ = z := ⟨_, rfl⟩
  obtain ⟨r4, h4⟩ : ∃ z, (ai == bi) = z := ⟨_, rfl⟩
  obtain ⟨r5, h5⟩ : ∃ z, (ak == 1) = z := ⟨_, rfl⟩
  obtain ⟨r6, h6⟩ : ∃ z, (bk == 1) = z := ⟨_, rfl⟩
  have HR : Hid (confB ⟨at_, ak, ai⟩ ⟨bt, bk, bi⟩ = (r1 && r2 && r3 && r4 && (r5 || r6))) := by
    show _ = _
    unfold confB
    simp only
    rw [h1, h2, h3, h4, h5, h6]
  have hA : ∀ W : World, Calls Tryz.prog 64 #[.agg #[.int .i64 at_, .int .i64 ak, .int .i64 ai]] W fun e w' => e = .returned (.bool r2) ∧ Below W.heap.size W w' := fun W => by
    have := access_any ⟨at_, ak, ai⟩ W; rw [h2] at this; exact this
  have hB : ∀ W : World, Calls Tryz.prog 64 #[.agg #[.int .i64 bt, .int .i64 bk, .int .i64 bi]] W fun e w' => e = .returned (.bool r3) ∧ Below W.heap.size W w' := fun W => by
    have := access_any ⟨bt, bk, bi⟩ W; rw [h3] at this; exact this
  have HA := Lib.hid hA
  have HB := Lib.hid hB
  obtain ⟨W, hW⟩ : ∃ W : World, W = (w.alloc (.cells #[.int .i64 at_, .int .i64 ak, .int .i64 ai] 46)).alloc (.cells #[.int .i64 bt, .int .i64 bk, .int .i64 bi] 46) := ⟨_, rfl⟩
  obtain ⟨W1, hW1⟩ : ∃ W : World, W = w.alloc (.cells #[.int .i64 at_, .int .i64 ak, .int .i64 ai] 46) := ⟨_, rfl⟩
  obtain ⟨L0, L1, L2, hbW1, hs1⟩ := op_box hW1
  rw [← hW1] at hW
  obtain ⟨M0, M1, M2, hbW, hs2⟩ := op_box hW
  have hsz : W1.heap.size = w.heap.size + 1 := by rw [hW1]; simp
  rw [hsz] at M0 M1 M2
  have hbb := hbW1.trans (hbW.mono hbW1.size)
  have l0 : ∀ u : Later W, u.1.cell? ⟨w.heap.size, 0, none⟩ = some (.int .i64 at_) := fun u => L0 ⟨u.1, hbW.trans (u.2.mono hbW.size)⟩
  have l1 : ∀ u : Later W, u.1.cell? ⟨w.heap.size, 1, none⟩ = some (.int .i64 ak) := fun u => L1 ⟨u.1, hbW.trans (u.2.mono hbW.size)⟩
  have l2 : ∀ u : Later W, u.1.cell? ⟨w.heap.size, 2, none⟩ = some (.int .i64 ai) := fun u => L2 ⟨u.1, hbW.trans (u.2.mono hbW.size)⟩
  have HW : Hid ((w.alloc (.cells #[.int .i64 at_, .int .i64 ak, .int .i64 ai] 46)).alloc (.cells #[.int .i64 bt, .int .i64 bk, .int .i64 bi] 46) = W) := by show _ = _; rw [hW, hW1]
  unfold OpV.val
  clear hA hB hW hW1 L0 L1 L2 h2 h3
  cases r1
  · go_enter Tryz.func87, Tryz.ntmps87
    go_wp2_with fail
    go_ret
    rw [HW.out]
    exact ⟨ret_bool (by rw [HR.out]; rfl), hbb⟩
  · go_enter Tryz.func87, Tryz.ntmps87
    go_wp2_with fail
    rw [HW.out]
    refine (HA.out W).mono ?_
    rintro e w1 ⟨rfl, hb1⟩
    have x0 := l0 ⟨w1, hb1⟩
    have x2 := l2 ⟨w1, hb1⟩
    have x1 := l1 ⟨w1, hb1⟩
    have y0 := M0 ⟨w1, hb1⟩
    have y1 := M1 ⟨w1, hb1⟩
    have y2 := M2 ⟨w1, hb1⟩
    simp only at x0 x1 x2 y0 y1 y2
    have hbw1 := hbb.trans (hb1.mono hbb.size)
    cases r2
    · go_wp2_with fail
      go_ret
      exact ⟨ret_bool (by rw [HR.out]; rfl), hbw1⟩
    · go_wp2_with fail
      refine (HB.out w1).mono ?_
      rintro e w2 ⟨rfl, hb2⟩
      have hbW2 := hb1.trans (hb2.mono hb1.size)
      have z1 := l1 ⟨w2, hbW2⟩
      have z2 := l2 ⟨w2, hbW2⟩
      have v1 := M1 ⟨w2, hbW2⟩
      have v2 := M2 ⟨w2, hbW2⟩
      simp only at z1 z2 v1 v2
      have hbw2 := hbb.trans (hbW2.mono hbb.size)
      clear x0 x1 x2 y0 y1 y2 HA HB
      cases r3
      · go_wp2_with fail
        go_ret
        exact ⟨ret_bool (by rw [HR.out]; rfl), hbw2⟩
      · cases r4
        · go_wp2_with fail
          go_ret
          exact ⟨ret_bool (by rw [HR.out]; rfl), hbw2⟩
        · cases r5
          · cases r6
            · go_wp2_with fail
              go_ret
              exact ⟨ret_bool (by rw [HR.out]; rfl), hbw2⟩
            · go_wp2_with fail
              go_ret
              exact ⟨ret_bool (by rw [HR.out]; rfl), hbw2⟩
          · go_wp2_with fail
            go_ret
            exact ⟨ret_bool (by rw [HR.out]; rfl), hbw2⟩

end Go.Proofs.YtkbclcgdkbhgdaaGreat
namespace Go.Proofs.YtkbclcgdkbhgdaaGreat
open Go.RowKit
set_option linter.unusedVariables false

/-- One pair more. -/
def grStep (a : OpV) (rows : List Nat) (b : OpV) : List Nat := if confB a b then rowSet rows a.tx b.tx else rows
def grRow (L : List OpV) (i : Nat) (a : OpV) (rows : List Nat) (k : Nat) : List Nat := ((L.drop (i + 1)).take k).foldl (grStep a) rows
def grTo (L : List OpV) : Nat → List Nat
  | 0 => [0, 0, 0, 0]
  | i + 1 => match L[i]? with
    | some a => grRow L i a (grTo L i) (L.length - (i + 1))
    | none => grTo L i
def grI (L : List OpV) : List Nat := grTo L L.length
theorem grRow_zero {L : List OpV} {i : Nat} {a : OpV} {rows : List Nat} : grRow L i a rows 0 = rows := rfl
theorem grRow_succ {L : List OpV} {i k : Nat} {a b : OpV} {rows : List Nat} (h : L[i + 1 + k]? = some b) : grRow L i a rows (k + 1) = grStep a (grRow L i a rows k) b := by
  unfold grRow
  have h' : (L.drop (i + 1))[k]? = some b := by rw [List.getElem?_drop]; exact h
  rw [take_snoc h', List.foldl_append]; rfl
theorem grTo_succ {L : List OpV} {i : Nat} {a : OpV} (h : L[i]? = some a) : grTo L (i + 1) = grRow L i a (grTo L i) (L.length - (i + 1)) := by
  simp only [grTo, h]
theorem zero4 : Rows4 [0, 0, 0, 0] := ⟨rfl, by decide⟩
theorem grStep_ok {a b : OpV} {rows : List Nat} (h : Rows4 rows) (hb : 0 ≤ b.tx ∧ b.tx ≤ 3) : Rows4 (grStep a rows b) := by
  unfold grStep
  split
  · exact rowSet_ok h hb
  · exact h
theorem grRow_ok {L : List OpV} (hr : ∀ o ∈ L, 0 ≤ o.tx ∧ o.tx ≤ 3) {i : Nat} {a : OpV} {rows : List Nat} (h : Rows4 rows) (k : Nat) : Rows4 (grRow L i a rows k) := by
  unfold grRow
  have : ∀ (l : List OpV) (rows : List Nat), Rows4 rows → (∀ o ∈ l, 0 ≤ o.tx ∧ o.tx ≤ 3) → Rows4 (l.foldl (grStep a) rows) := by
    intro l
    induction l with
    | nil => intro rows h _; exact h
    | cons x r ih => intro rows h hl; exact ih _ (grStep_ok h (hl x (by simp))) (fun o ho => hl o (by simp [ho]))
  exact this _ _ h (fun o ho => hr o (List.mem_of_mem_drop (List.mem_of_mem_take ho)))
theorem grTo_ok {L : List OpV} (hr : ∀ o ∈ L, 0 ≤ o.tx ∧ o.tx ≤ 3) (i : Nat) : Rows4 (grTo L i) := by
  induction i with
  | zero => exact zero4
  | succ i ih =>
    simp only [grTo]
    split
    · exact grRow_ok hr ih _
    · exact ih
theorem grI_ok {L : List OpV} (hr : ∀ o ∈ L, 0 ≤ o.tx ∧ o.tx ≤ 3) : Rows4 (grI L) := grTo_ok hr _

/-- Two graphs with the same bits are one. -/
theorem rows_ext {R S : List Nat} (hR : Rows4 R) (hS : Rows4 S) (h : ∀ t u, t < 4 → u < 4 → (R.getD t 0).testBit u = (S.getD t 0).testBit u) : R = S := by
  refine List.ext_getElem (by rw [hR.1, hS.1]) fun i h1 h2 => ?_
  have hi : i < 4 := by rw [← hR.1]; exact h1
  have e1 : R.getD i 0 = R[i] := by rw [List.getD_eq_getElem?_getD, List.getElem?_eq_getElem h1]; rfl
  have e2 : S.getD i 0 = S[i] := by rw [List.getD_eq_getElem?_getD, List.getElem?_eq_getElem h2]; rfl
  refine Nat.eq_of_testBit_eq fun u => ?_
  rw [← e1, ← e2]
  by_cases hu : u < 4
  · exact h i u hi hu
  · have b : ∀ x : Nat, x < 16 → x.testBit u = false := fun x hx => by
      refine Nat.testBit_lt_two_pow (Nat.lt_of_lt_of_le hx ?_)
      have : (2:Nat) ^ 4 ≤ 2 ^ u := Nat.pow_le_pow_right (by omega) (by omega)
      omega
    rw [b _ (by rw [e1]; exact hR.2 _ (List.getElem_mem _)), b _ (by rw [e2]; exact hS.2 _ (List.getElem_mem _))]

/-- What the map holds: just the pairs of the graph. -/
structure MapIs (D : DataW Unit) (R : List Nat) : Prop where
  isMap : Maps.IsMap D
  has : ∀ t u : Int, (Lit.int .i64 t).wf = true → (Lit.int .i64 u).wf = true → (Maps.has D (gplit t u) = true ↔ (0 ≤ t ∧ t ≤ 3 ∧ 0 ≤ u ∧ u ≤ 3 ∧ (R.getD t.toNat 0).testBit u.toNat = true))
theorem wf_small {t : Int} (h : 0 ≤ t ∧ t ≤ 3) : (Lit.int .i64 t).wf = true := by
  simp [Lit.wf, IntKind.min, IntKind.max, IntKind.signed, IntKind.bits]; omega
theorem MapIs.empty : MapIs (.map []) [0, 0, 0, 0] := by
  refine ⟨Maps.isMap_empty, fun t u _ _ => ⟨fun h => by simp [Maps.has] at h, fun h => ?_⟩⟩
  exfalso
  obtain ⟨h1, h2, h3, h4, h5⟩ := h
  have : t = 0 ∨ t = 1 ∨ t = 2 ∨ t = 3 := by omega
  rcases this with rfl | rfl | rfl | rfl <;> simp at h5
theorem gplit_inj {t u t' u' : Int} (h1 : (Lit.int .i64 t).wf = true) (h2 : (Lit.int .i64 u).wf = true) (h3 : (Lit.int .i64 t').wf = true) (h4 : (Lit.int .i64 u').wf = true) (h : gplit t u = gplit t' u') : t = t' ∧ u = u' := by
  have e1 := gpkey h1 h2
  have e2 := gpkey h3 h4
  rw [← h] at e2
  have := gpkeyed.inj e1 e2
  unfold gpval at this
  injection this with this
  simp at this
  exact this
theorem gplit_key (t u : Int) : WideAt.IsKeyLit (gplit t u) := by unfold gplit; simp [WideAt.IsKeyLit]
theorem MapIs.put {D : DataW Unit} {R : List Nat} (h : MapIs D R) (hR : Rows4 R) {t u : Int} (ht : 0 ≤ t ∧ t ≤ 3) (hu : 0 ≤ u ∧ u ≤ 3) (d : DataW Unit) : MapIs (D.put (gplit t u) d) (rowSet R t u) := by
  refine ⟨h.isMap.put _ _, fun t' u' ht' hu' => ?_⟩
  obtain ⟨T, rfl⟩ := Int.eq_ofNat_of_zero_le ht.1
  obtain ⟨U, rfl⟩ := Int.eq_ofNat_of_zero_le hu.1
  by_cases he : gplit t' u' = gplit (T : Int) (U : Int)
  · obtain ⟨e1, e2⟩ := gplit_inj ht' hu' (wf_small ht) (wf_small hu) he
    subst e1; subst e2
    rw [Maps.has_put_same h.isMap (gplit_key _ _)]
    simp only [true_iff]
    refine ⟨by omega, by omega, by omega, by omega, ?_⟩
    rw [Int.toNat_natCast, Int.toNat_natCast, rowSet_bit hR (by omega)]
    simp
  · rw [Maps.has_put_other he, h.has t' u' ht' hu']
    constructor
    · rintro ⟨h1, h2, h3, h4, h5⟩
      exact ⟨h1, h2, h3, h4, by rw [rowSet_bit hR (by omega), h5]; rfl⟩
    · rintro ⟨h1, h2, h3, h4, h5⟩
      rw [rowSet_bit hR (by omega), Bool.or_eq_true] at h5
      refine ⟨h1, h2, h3, h4, h5.elim id fun hh => ?_⟩
      exfalso
      simp only [Bool.and_eq_true, decide_eq_true_eq] at hh
      apply he
      have e1 : t' = (T : Int) := by omega
      have e2 : u' = (U : Int) := by omega
      rw [e1, e2]
end Go.Proofs.YtkbclcgdkbhgdaaGreat
namespace Go.Proofs.YtkbclcgdkbhgdaaGreat
open Go.RowKit Go.BigFrame
set_option linter.unusedVariables false

/-- At index i the program finds that a transaction comes again. -/
def serBad (s : List OpV) (i : Nat) : Bool := match s[i]?, s[i - 1]? with | some o, some q => (o.tx != q.tx) && hasTx (s.take i) o.tx | _, _ => false
def isSer (s : List OpV) : Bool := (List.range s.length).all fun i => i == 0 || !serBad s i
def isSerV (s : List OpV) : Bool := isSer s && validS s

theorem isSer_bad {s : List OpV} {k : Nat} (hk : k + 1 < s.length) (h : serBad s (k + 1) = true) : isSer s = false := by
  unfold isSer
  rw [List.all_eq_false]
  exact ⟨k + 1, List.mem_range.2 hk, by simp [h]⟩
theorem isSer_end {s : List OpV} {k : Nat} (hk : s.length ≤ k + 1) (h : ∀ j, j < k → serBad s (j + 1) = false) : isSer s = true := by
  unfold isSer
  rw [List.all_eq_true]
  intro j hj
  have hj := List.mem_range.1 hj
  cases j with
  | zero => rfl
  | succ j => simp [h j (by omega)]

/-- What the loop of IsSerial carries. -/
def SerInv (w : World) (A : Option Addr) (n c : Nat) (s : List OpV) (k bi : Nat) (wr : World) : Prop :=
  Below w.heap.size w wr ∧ wr.cell? ⟨w.heap.size, 0, none⟩ = some (.slice A n c) ∧ wr.cell? ⟨bi, 0, none⟩ = some (.int .i64 ((k : Int) + 1)) ∧ wr.frozen? ⟨bi, 0, none⟩ = false ∧ w.heap.size < bi ∧ (∀ j, j < k → serBad s (j + 1) = false)

theorem SerInv.next {w wr W : World} {A : Option Addr} {n c k bi : Nat} {s : List OpV} (h : SerInv w A n c s k bi wr) (hb : Below wr.heap.size wr W) (hg : serBad s (k + 1) = false) :
    SerInv w A n c s (k + 1) W.heap.size ((W.alloc (.cells #[.int .i64 ((k : Int) + 1)] 3)).setCell ⟨W.heap.size, 0, none⟩ (.int .i64 ((k : Int) + 1 + 1))) ∧
    SerInv w A n c s (k + 1) W.heap.size (W.alloc (.cells #[.int .i64 ((k : Int) + 1 + 1)] 3)) := by
  obtain ⟨h1, h2, h3, h4, h5, h6⟩ := h
  have e : (((k + 1 : Nat) : Int) + 1) = (k : Int) + 1 + 1 := by omega
  have hlt := block_lt_of_cell h2
  have hlt3 := block_lt_of_cell h3
  have hs := hb.size
  have hbw : Below w.heap.size w W := h1.trans (hb.mono h1.size)
  simp only at hlt hlt3
  have h7 : ∀ j, j < k + 1 → serBad s (j + 1) = false := fun j hj => by
    by_cases e : j = k
    · subst e; exact hg
    · exact h6 j (by omega)
  have hc0 : W.cell? ⟨w.heap.size, 0, none⟩ = some (.slice A n c) := (hb.cell (p := ⟨w.heap.size, 0, none⟩) (by simpa using hlt)).trans h2
  unfold SerInv
  rw [e]
  refine ⟨⟨B_set (B_alloc hbw (Nat.le_refl _) _) (by omega), ?_, ?_, ?_, by omega, h7⟩, ⟨B_alloc hbw (Nat.le_refl _) _, ?_, box_at _ _ _ _ _ rfl, ?_, by omega, h7⟩⟩
  · rw [World.cell?_setCell_other _ _ _ _ (by simp <;> omega), World.cell?_alloc_lt _ _ _ (by simp <;> omega)]; exact hc0
  · have : ((W.alloc (.cells #[.int .i64 ((k : Int) + 1)] 3)).setCell ⟨W.heap.size, 0, none⟩ (.int .i64 ((k : Int) + 1 + 1))).heap[W.heap.size]? = some (.cells #[.int .i64 ((k : Int) + 1 + 1)] 3 (0, 0)) := one_setCell (heap_alloc_new W _)
    exact cell_of_one this
  · have : ((W.alloc (.cells #[.int .i64 ((k : Int) + 1)] 3)).setCell ⟨W.heap.size, 0, none⟩ (.int .i64 ((k : Int) + 1 + 1))).heap[W.heap.size]? = some (.cells #[.int .i64 ((k : Int) + 1 + 1)] 3 (0, 0)) := one_setCell (heap_alloc_new W _)
    exact free_of_one this
  · rw [World.cell?_alloc_lt _ _ _ (by simp <;> omega)]; exact hc0
  · exact free_of_one (v := .int .i64 ((k : Int) + 1 + 1)) (t := 3) (heap_alloc_new W _)

end Go.Proofs.YtkbclcgdkbhgdaaGreat
namespace Go.Proofs.YtkbclcgdkbhgdaaGreat
open Go.RowKit Go.BigFrame
set_option linter.unusedVariables false

def stampN (s : List OpV) (t : Int) : Nat := s.findIdx fun o => o.tx == t
def commitN (s : List OpV) (t : Int) : Nat := s.findIdx fun o => o.tx == t && o.kind == 2
def touchB (s : List OpV) (i : Nat) (t k x : Int) : Bool := (s.take i).any fun o => o.tx == t && o.kind == k && o.item == x
def meetsB (s : List OpV) (t u : Int) : Bool := [0, 1, 2].any fun x => touchB s s.length t 1 x && touchB s s.length u 1 x

theorem findIdx_hit {s : List OpV} {p : OpV → Bool} {k : Nat} {o : OpV} (ho : s[k]? = some o) (h : p o = true) (hno : ∀ j, j < k → ∀ o, s[j]? = some o → p o = false) : s.findIdx p = k := by
  obtain ⟨hk, he⟩ := List.getElem?_eq_some_iff.1 ho
  rw [List.findIdx_eq hk]
  exact ⟨by rw [he]; exact h, fun j hj => hno j hj _ (List.getElem?_eq_getElem (by omega))⟩
theorem findIdx_end {s : List OpV} {p : OpV → Bool} (hno : ∀ j, j < s.length → ∀ o, s[j]? = some o → p o = false) : s.findIdx p = s.length := by
  rw [List.findIdx_eq_length]
  intro o ho
  obtain ⟨j, hj⟩ := List.mem_iff_getElem?.1 ho
  have hl : j < s.length := by
    rcases Nat.lt_or_ge j s.length with h | h
    · exact h
    · rw [List.getElem?_eq_none h] at hj; cases hj
  simpa using hno j hl o hj


theorem noEnd_true {s : List OpV} {i : Nat} {t : Int} (h : ∀ j, j < i → ∀ o, s[j]? = some o → (o.tx == t && isEnd o) = false) : noEnd (s.take i) t = true := by
  unfold noEnd
  rw [List.all_eq_true]
  intro o ho
  obtain ⟨j, hj⟩ := List.mem_iff_getElem?.1 ho
  rw [List.getElem?_take] at hj
  split at hj
  · rw [h j (by omega) o hj]; rfl
  · cases hj
theorem noEnd_false {s : List OpV} {i k : Nat} {t : Int} {o : OpV} (hk : k < i) (ho : s[k]? = some o) (h : (o.tx == t && isEnd o) = true) : noEnd (s.take i) t = false := by
  unfold noEnd
  rw [List.all_eq_false]
  exact ⟨o, List.mem_of_getElem? (i := k) (by rw [List.getElem?_take, if_pos hk]; exact ho), by rw [h]; simp⟩
theorem validS_iff (s : List OpV) : validS s = true ↔ s.length ≤ 16 ∧ (∀ o ∈ s, validOp o = true) ∧ s.Pairwise (fun a b => isEnd a = true → a.tx ≠ b.tx) := by
  constructor
  · intro h
    refine ⟨?_, validS_ops h, ?_⟩
    · unfold validS at h
      simp only [Bool.and_eq_true, decide_eq_true_eq] at h
      exact h.1
    · rw [List.pairwise_iff_getElem]
      intro i j hi hj hij he ht
      unfold validS at h
      simp only [Bool.and_eq_true, List.all_eq_true] at h
      have := h.2 j (List.mem_range.2 hj)
      unfold goodAt at this
      rw [List.getElem?_eq_getElem hj] at this
      simp only [Bool.and_eq_true] at this
      have h2 := this.2
      rw [noEnd_false (k := i) (o := s[i]) hij (List.getElem?_eq_getElem hi) (by rw [he, ht]; simp)] at h2
      cases h2
  · rintro ⟨h1, h2, h3⟩
    unfold validS
    simp only [Bool.and_eq_true, decide_eq_true_eq, List.all_eq_true]
    refine ⟨h1, fun j hj => ?_⟩
    have hj := List.mem_range.1 hj
    unfold goodAt
    rw [List.getElem?_eq_getElem hj]
    simp only [Bool.and_eq_true]
    refine ⟨h2 _ (List.getElem_mem hj), noEnd_true (fun k hk o ho => ?_)⟩
    have hk' : k < s.length := by omega
    rw [List.getElem?_eq_getElem hk'] at ho
    injection ho with ho
    subst ho
    rw [List.pairwise_iff_getElem] at h3
    have := h3 k j hk' hj hk
    cases he : isEnd s[k]
    · simp
    · simpa [he] using this he
/-- What is left when whole operations are dropped is a schedule. -/
theorem validS_sub {s t : List OpV} (h : validS s = true) (hs : List.Sublist t s) : validS t = true := by
  rw [validS_iff] at *
  exact ⟨Nat.le_trans hs.length_le h.1, fun o ho => h.2.1 o (hs.subset ho), List.Pairwise.sublist hs h.2.2⟩
theorem validS_committed {s : List OpV} (h : validS s = true) : validS (committed s) = true := validS_sub h List.filter_sublist
theorem validS_tx {s : List OpV} (h : validS s = true) {o : OpV} (ho : o ∈ s) : 0 ≤ o.tx ∧ o.tx ≤ 3 := by
  have := validS_ops h o ho
  simp [validOp, inR] at this
  omega
theorem validS_end0 {s : List OpV} (h : validS s = true) {o : OpV} (ho : o ∈ s) (hk : o.kind = 2 ∨ o.kind = 3) : o.item = 0 := by
  have := validS_ops h o ho
  rcases hk with hk | hk <;> simp [validOp, isAcc, isEnd, hk] at this <;> exact this.2
/-- Behind the end of a transaction stands none of it. -/
theorem validS_after {s : List OpV} (h : validS s = true) {i j : Nat} {a b : OpV} (hi : s[i]? = some a) (hj : s[j]? = some b) (he : isEnd a = true) (ht : a.tx = b.tx) : j ≤ i := by
  rcases Nat.lt_or_ge i j with hij | hij
  · exfalso
    obtain ⟨hil, hia⟩ := List.getElem?_eq_some_iff.1 hi
    obtain ⟨hjl, hjb⟩ := List.getElem?_eq_some_iff.1 hj
    have := List.pairwise_iff_getElem.1 ((validS_iff s).1 h).2.2 i j hil hjl hij
    rw [hia, hjb] at this
    exact this he ht
  · exact hij
theorem isEnd_two {o : OpV} (h : o.kind = 2) : isEnd o = true := by simp [isEnd, h]

/-- A transaction with a commit ends with it. -/
theorem endOf_commit {s : List OpV} (h : validS s = true) {o : OpV} (ho : o ∈ s) (hk : o.kind = 2) : endOf s o.tx = 2 := by
  obtain ⟨k, hk'⟩ := List.mem_iff_getElem?.1 ho
  have := endOf_hit s o.tx k o hk' (fun j hj q hq => by
    cases hq2 : (q.tx == o.tx && isEnd q)
    · rfl
    · simp only [Bool.and_eq_true, beq_iff_eq] at hq2
      have := validS_after h hq hk' hq2.2 hq2.1
      omega) (by simp [isEnd, hk])
  rw [this, hk]
theorem endOf_two {s : List OpV} {t : Int} (h : endOf s t = 2) : ∃ o ∈ s, o.tx = t ∧ o.kind = 2 := by
  unfold endOf at h
  cases hf : s.find? (fun o => o.tx == t && isEnd o) with
  | none => rw [hf] at h; simp at h
  | some o =>
    rw [hf] at h
    have h1 := List.find?_some hf
    simp only [Bool.and_eq_true, beq_iff_eq] at h1
    exact ⟨o, List.mem_of_find?_eq_some hf, h1.1, by simpa using h⟩
theorem endOf_two_iff {s : List OpV} (h : validS s = true) (t : Int) : endOf s t = 2 ↔ ∃ o ∈ s, o.tx = t ∧ o.kind = 2 := by
  constructor
  · exact endOf_two
  · rintro ⟨o, ho, rfl, hk⟩
    exact endOf_commit h ho hk
theorem mem_committed {s : List OpV} {o : OpV} : o ∈ committed s ↔ o ∈ s ∧ endOf s o.tx = 2 := by
  unfold committed
  rw [List.mem_filter]
  simp
theorem hasTx_iff {s : List OpV} {t : Int} : hasTx s t = true ↔ ∃ o ∈ s, o.tx = t := by
  unfold hasTx
  rw [List.any_eq_true]
  simp
theorem mem_txsOf {s : List OpV} (h : validS s = true) {t : Int} : t ∈ txsOf s ↔ ∃ o ∈ s, o.tx = t := by
  unfold txsOf
  rw [List.mem_filter, hasTx_iff]
  constructor
  · exact fun h => h.2
  · rintro ⟨o, ho, rfl⟩
    have := validS_tx h ho
    refine ⟨?_, o, ho, rfl⟩
    have : o.tx = 0 ∨ o.tx = 1 ∨ o.tx = 2 ∨ o.tx = 3 := by omega
    rcases this with e | e | e | e <;> rw [e] <;> simp
theorem nodup_txsOf (s : List OpV) : (txsOf s).Nodup := by
  unfold txsOf
  exact List.Pairwise.filter _ (by decide)
theorem mem_txs_committed {s : List OpV} (h : validS s = true) {t : Int} : t ∈ txsOf (committed s) ↔ endOf s t = 2 := by
  rw [mem_txsOf (validS_committed h)]
  constructor
  · rintro ⟨o, ho, rfl⟩
    exact (mem_committed.1 ho).2
  · intro he
    obtain ⟨o, ho, rfl, hk⟩ := endOf_two he
    exact ⟨o, mem_committed.2 ⟨ho, he⟩, rfl⟩

theorem findIdx_congr {s : List OpV} {p q : OpV → Bool} (h : ∀ o ∈ s, p o = q o) : s.findIdx p = s.findIdx q := by
  induction s with
  | nil => rfl
  | cons x r ih =>
    rw [List.findIdx_cons, List.findIdx_cons, h x (by simp), ih (fun o ho => h o (by simp [ho]))]
theorem findIdx_at {s : List OpV} {p : OpV → Bool} {o : OpV} (ho : o ∈ s) (hp : p o = true) : ∃ q, s[s.findIdx p]? = some q ∧ p q = true := by
  have hl : s.findIdx p < s.length := List.findIdx_lt_length.2 ⟨o, ho, hp⟩
  exact ⟨_, List.getElem?_eq_getElem hl, @List.findIdx_getElem _ p s hl⟩
theorem stampN_at {s : List OpV} {o : OpV} (ho : o ∈ s) : ∃ q, s[stampN s o.tx]? = some q ∧ q.tx = o.tx := by
  obtain ⟨q, h1, h2⟩ := findIdx_at (p := fun x : OpV => x.tx == o.tx) ho (by simp)
  exact ⟨q, h1, by simpa using h2⟩
theorem commitN_at {s : List OpV} {o : OpV} (ho : o ∈ s) (hk : o.kind = 2) : ∃ q, s[commitN s o.tx]? = some q ∧ q.tx = o.tx ∧ q.kind = 2 := by
  obtain ⟨q, h1, h2⟩ := findIdx_at (p := fun x : OpV => x.tx == o.tx && x.kind == 2) ho (by simp [hk])
  exact ⟨q, h1, by simpa using h2⟩
/-! ### serial schedules -/

theorem ser_at {s : List OpV} (h : isSer s = true) {k : Nat} {o : OpV} (ho : s[k]? = some o) (hk : 0 < k) {q : OpV} (hq : s[k - 1]? = some q) (hne : q.tx ≠ o.tx) : ∀ j p, j < k → s[j]? = some p → p.tx ≠ o.tx := by
  intro j p hj hp ht
  unfold isSer at h
  rw [List.all_eq_true] at h
  have hl : k < s.length := (List.getElem?_eq_some_iff.1 ho).1
  have := h k (List.mem_range.2 hl)
  have hb : serBad s k = true := by
    unfold serBad
    rw [ho, hq]
    simp only [Bool.and_eq_true, bne_iff_ne]
    refine ⟨fun e => hne e.symm, ?_⟩
    unfold hasTx
    exact List.any_eq_true.2 ⟨p, List.mem_of_getElem? (i := j) (by rw [List.getElem?_take, if_pos hj]; exact hp), by simpa using ht⟩
  rw [hb] at this
  simp at this
  omega
/-- Between two operations of one transaction stand operations of this one alone. -/
theorem ser_between {s : List OpV} (h : isSer s = true) {i j : Nat} {a b : OpV} (hi : s[i]? = some a) (hj : s[j]? = some b) (ht : a.tx = b.tx) : ∀ k c, i ≤ k → k ≤ j → s[k]? = some c → c.tx = a.tx := by
  have key : ∀ d k c, k + d = j → i ≤ k → s[k]? = some c → c.tx = a.tx := by
    intro d
    induction d with
    | zero =>
      intro k c hk _ hc
      obtain rfl : k = j := by omega
      rw [hj] at hc; injection hc with hc; rw [← hc, ht]
    | succ d ih =>
      intro k c hk hik hc
      have hjl : j < s.length := (List.getElem?_eq_some_iff.1 hj).1
      have e : s[k + 1]? = some (s[k + 1]'(by omega)) := List.getElem?_eq_getElem (by omega)
      have h1 := ih (k + 1) _ (by omega) (by omega) e
      by_cases hne : c.tx = (s[k + 1]'(by omega)).tx
      · rw [hne, h1]
      · exfalso
        exact ser_at h e (by omega) (q := c) hc hne i a (by omega) hi h1.symm
  intro k c h1 h2 hc
  exact key (j - k) k c (by omega) h1 hc

theorem stampN_le {s : List OpV} {j : Nat} {o : OpV} (h : s[j]? = some o) : stampN s o.tx ≤ j := by
  rcases Nat.lt_or_ge j (stampN s o.tx) with hlt | hge
  · have := List.not_of_lt_findIdx (p := fun x : OpV => x.tx == o.tx) hlt
    rw [(List.getElem?_eq_some_iff.1 h).2] at this
    simp at this
  · exact hge
theorem commitN_le {s : List OpV} {j : Nat} {o : OpV} (h : s[j]? = some o) (hk : o.kind = 2) : commitN s o.tx ≤ j := by
  rcases Nat.lt_or_ge j (commitN s o.tx) with hlt | hge
  · have := List.not_of_lt_findIdx (p := fun x : OpV => x.tx == o.tx && x.kind == 2) hlt
    rw [(List.getElem?_eq_some_iff.1 h).2] at this
    simp [hk] at this
  · exact hge
theorem commitN_eq {s : List OpV} (h : validS s = true) {j : Nat} {o : OpV} (ho : s[j]? = some o) (hk : o.kind = 2) : commitN s o.tx = j := by
  have h1 := commitN_le ho hk
  obtain ⟨q, hq, ht, hqk⟩ := commitN_at (List.mem_of_getElem? ho) hk
  have := validS_after h hq ho (isEnd_two hqk) ht
  omega
/-- In a serial schedule: if t begins ahead of one operation of u, all of t stands ahead of all of u. -/
theorem ser_before {s : List OpV} (hs : isSer s = true) {t : Int} (ht : ∃ o ∈ s, o.tx = t) {j : Nat} {q : OpV} (hq : s[j]? = some q) (htu : t ≠ q.tx) (h : stampN s t < j) :
    stampN s t < stampN s q.tx ∧ ∀ i p, s[i]? = some p → p.tx = t → i < stampN s q.tx := by
  obtain ⟨o, ho, rfl⟩ := ht
  obtain ⟨o1, h1, e1⟩ := stampN_at ho
  obtain ⟨q1, h2, e2⟩ := stampN_at (List.mem_of_getElem? hq)
  have hlt : stampN s o.tx < stampN s q.tx := by
    rcases Nat.lt_trichotomy (stampN s o.tx) (stampN s q.tx) with a | a | a
    · exact a
    · exfalso
      rw [a, h2] at h1
      injection h1 with h1
      exact htu (by rw [← e1, ← e2, h1])
    · exfalso
      have := ser_between hs h2 hq e2 (stampN s o.tx) o1 (by omega) (by omega) h1
      exact htu (by rw [← e1, this, e2])
  refine ⟨hlt, fun i p hp hpt => ?_⟩
  rcases Nat.lt_or_ge i (stampN s q.tx) with a | a
  · exact a
  · exfalso
    have := ser_between hs h1 hp (by rw [e1, hpt]) (stampN s q.tx) q1 (by omega) a h2
    exact htu (by rw [← e1, ← this, e2])
/-- The stamps: each transaction at its first operation. -/
def stTo (s : List OpV) : Nat → List Int
  | 0 => []
  | k + 1 => match s[k]? with | some o => if ((stTo s k).any fun y => y == o.tx) then stTo s k else stTo s k ++ [o.tx] | none => stTo s k
theorem stTo_succ {s : List OpV} {k : Nat} {o : OpV} (h : s[k]? = some o) : stTo s (k + 1) = if ((stTo s k).any fun y => y == o.tx) then stTo s k else stTo s k ++ [o.tx] := by simp only [stTo, h]
def stI (s : List OpV) : List Int := stTo s s.length
theorem any_eq_iff {L : List Int} {x : Int} : (L.any fun y => y == x) = true ↔ x ∈ L := by
  rw [List.any_eq_true]
  constructor
  · rintro ⟨y, hy, e⟩
    have : y = x := by simpa using e
    subst this; exact hy
  · intro h; exact ⟨x, h, by simp⟩
theorem stTo_known {s : List OpV} (k : Nat) (hk : k ≤ s.length) : (∀ t, t ∈ stTo s k ↔ ∃ j o, j < k ∧ s[j]? = some o ∧ o.tx = t) ∧ (stTo s k).Pairwise (fun a b => stampN s a < stampN s b) := by
  induction k with
  | zero => exact ⟨by simp [stTo], by simp [stTo]⟩
  | succ k ih =>
    obtain ⟨i1, i2⟩ := ih (by omega)
    have e : s[k]? = some (s[k]'(by omega)) := List.getElem?_eq_getElem (by omega)
    rw [stTo_succ e]
    generalize s[k]'(by omega) = o at *
    by_cases hm : o.tx ∈ stTo s k
    · rw [if_pos (any_eq_iff.2 hm)]
      refine ⟨fun t => ?_, i2⟩
      rw [i1]
      constructor
      · rintro ⟨j, p, hj, r⟩; exact ⟨j, p, by omega, r⟩
      · rintro ⟨j, p, hj, hp, rfl⟩
        by_cases hjk : j = k
        · subst hjk
          rw [e] at hp; injection hp with hp; subst hp
          exact (i1 _).1 hm
        · exact ⟨j, p, by omega, hp, rfl⟩
    · rw [if_neg (fun h => hm (any_eq_iff.1 h))]
      refine ⟨fun t => ?_, ?_⟩
      · rw [List.mem_append, i1, List.mem_singleton]
        constructor
        · rintro (⟨j, p, hj, r⟩ | rfl)
          · exact ⟨j, p, by omega, r⟩
          · exact ⟨k, o, by omega, e, rfl⟩
        · rintro ⟨j, p, hj, hp, rfl⟩
          by_cases hjk : j = k
          · subst hjk
            rw [e] at hp; injection hp with hp; subst hp
            exact .inr rfl
          · exact .inl ⟨j, p, by omega, hp, rfl⟩
      · rw [List.pairwise_append]
        refine ⟨i2, by simp, ?_⟩
        intro a ha b hb
        rw [List.mem_singleton] at hb
        subst hb
        obtain ⟨j, p, hj, hp, rfl⟩ := (i1 a).1 ha
        have h1 := stampN_le hp
        have h2 : k ≤ stampN s o.tx := by
          rcases Nat.lt_or_ge (stampN s o.tx) k with hlt | hge
          · exfalso
            obtain ⟨q, hq, hqt⟩ := stampN_at (List.mem_of_getElem? e)
            exact hm ((i1 _).2 ⟨_, q, hlt, hq, hqt⟩)
          · exact hge
        omega
theorem mem_stI {s : List OpV} {t : Int} : t ∈ stI s ↔ ∃ o ∈ s, o.tx = t := by
  unfold stI
  rw [(stTo_known _ (Nat.le_refl _)).1]
  constructor
  · rintro ⟨j, o, _, ho, e⟩; exact ⟨o, List.mem_of_getElem? ho, e⟩
  · rintro ⟨o, ho, e⟩
    obtain ⟨j, hj⟩ := List.mem_iff_getElem?.1 ho
    exact ⟨j, o, (List.getElem?_eq_some_iff.1 hj).1, hj, e⟩
theorem stI_sorted (s : List OpV) : (stI s).Pairwise (fun a b => stampN s a < stampN s b) := (stTo_known _ (Nat.le_refl _)).2
/-- What is left of a sorted list if two of it are kept. -/
theorem filter_one {f : Int → Nat} {u : Int} : ∀ {l : List Int}, l.Pairwise (fun a b => f a < f b) → u ∈ l → l.filter (fun x => x == u) = [u] := by
  intro l
  induction l with
  | nil => intro _ h; cases h
  | cons x r ih =>
    intro hp hu
    rw [List.pairwise_cons] at hp
    by_cases hx : x = u
    · subst hx
      rw [List.filter_cons_of_pos (by simp)]
      congr 1
      rw [List.filter_eq_nil_iff]
      intro y hy e
      have : y = x := by simpa using e
      subst this
      have := hp.1 y hy
      omega
    · rw [List.filter_cons_of_neg (by simpa using hx)]
      refine ih hp.2 ?_
      rcases List.mem_cons.1 hu with h | h
      · exact absurd h.symm hx
      · exact h
theorem filter_two {f : Int → Nat} {t u : Int} (htu : f t < f u) : ∀ {l : List Int}, l.Pairwise (fun a b => f a < f b) → t ∈ l → u ∈ l → l.filter (fun x => x == t || x == u) = [t, u] := by
  intro l
  induction l with
  | nil => intro _ h; cases h
  | cons x r ih =>
    intro hp ht hu
    rw [List.pairwise_cons] at hp
    have hne : t ≠ u := fun e => by rw [e] at htu; omega
    by_cases hx : x = t
    · subst hx
      rw [List.filter_cons_of_pos (by simp)]
      congr 1
      have hur : u ∈ r := by
        rcases List.mem_cons.1 hu with h | h
        · exact absurd h.symm hne
        · exact h
      rw [← filter_one hp.2 hur]
      refine List.filter_congr fun y hy => ?_
      have h1 := hp.1 y hy
      have : (y == x) = false := by
        rw [beq_eq_false_iff_ne]
        intro e
        rw [e] at h1; omega
      rw [this, Bool.false_or]
    · have htr : t ∈ r := by
        rcases List.mem_cons.1 ht with h | h
        · exact absurd h.symm hx
        · exact h
      have hxu : x ≠ u := fun e => by
        have := hp.1 t htr
        rw [e] at this; omega
      rw [List.filter_cons_of_neg (by simp [hx, hxu])]
      refine ih hp.2 htr ?_
      rcases List.mem_cons.1 hu with h | h
      · exact absurd h.symm hxu
      · exact h
end Go.Proofs.YtkbclcgdkbhgdaaGreat
namespace Go.Proofs.YtkbclcgdkbhgdaaGreat
open Go.RowKit Go.BigFrame
set_option linter.unusedVariables false


set_option maxHeartbeats 400000 in
theorem ClipOps_any (A : Option Addr) (n c : Nat) (w : World) (hn : n ≤ 1099511627776) (hnc : n ≤ c) :
    Calls Tryz.prog 51 #[.slice A n c] w fun e w' => e = .returned (.slice A n n) ∧ w = w' := by
  go_enter Tryz.func51, Tryz.ntmps51
  go_wp2_with fail
  go_ret
  exact ⟨rfl, rfl⟩
set_option maxHeartbeats 400000 in
theorem ClipInts_any (A : Option Addr) (n c : Nat) (w : World) (hn : n ≤ 1099511627776) (hnc : n ≤ c) :
    Calls Tryz.prog 21 #[.slice A n c] w fun e w' => e = .returned (.slice A n n) ∧ w = w' := by
  go_enter Tryz.func21, Tryz.ntmps21
  go_wp2_with fail
  go_ret
  exact ⟨rfl, rfl⟩
end Go.Proofs.YtkbclcgdkbhgdaaGreat
namespace Go.Proofs.YtkbclcgdkbhgdaaGreat
open Go.RowKit Go.BigFrame
set_option linter.unusedVariables false

theorem eq_take_snoc {xs ys : List Int} {k : Nat} {x y : Int} (hx : xs[k]? = some x) (hy : ys[k]? = some y) (h : xs.take k = ys.take k) (e : x = y) : xs.take (k + 1) = ys.take (k + 1) := by
  rw [take_snoc hx, take_snoc hy, h, e]
theorem ne_at {xs ys : List Int} {k : Nat} {x y : Int} (hx : xs[k]? = some x) (hy : ys[k]? = some y) (e : x ≠ y) : (xs == ys) = false := by
  rw [beq_eq_false_iff_ne]
  intro h
  rw [h, hy] at hx
  injection hx with hx
  exact e hx.symm

set_option maxHeartbeats 1000000 in
theorem EqualS_any (A B : Option Addr) (n c m d : Nat) (xs ys : List Int) (w : World) (hx : RInts w A n xs) (hy : RInts w B m ys) :
    Calls Tryz.prog 32 #[.slice A n c, .slice B m d] w fun e w' => e = .returned (.bool (xs == ys)) ∧ Below w.heap.size w w' := by
  have hn := hx.2.1
  have hl := hx.1
  have hn2 := hy.2.1
  have hl2 := hy.1
  have HX := Lib.hid hx
  have HY := Lib.hid hy
  clear hx hy
  by_cases hnm : n = m
  · subst hnm
    go_enter Tryz.func32, Tryz.ntmps32
    go_wp2_with fail
    go_loopw [13] (fun i wr => ∃ k : Nat, k ≤ n ∧ i = .int .i64 k ∧ xs.take k = ys.take k ∧ Below w.heap.size w wr) (fun i _ => n - (intOf i).toNat)
    case atStart => exact ⟨0, Nat.zero_le _, rfl, by simp, Below.refl _ _⟩
    case round =>
      obtain ⟨k, hk, rfl, heq, hb⟩ := hrel
      by_cases hlt : k < n
      · obtain ⟨b, off, x, hA, hbl, ho, c0⟩ := (HX.out.below hb (Nat.le_refl _)).at_ hlt
        obtain ⟨b2, off2, y, hB, hbl2, ho2, d0⟩ := (HY.out.below hb (Nat.le_refl _)).at_ hlt
        subst hA hB
        have HT : Hid (x = y → xs.take (k + 1) = ys.take (k + 1)) := fun e => eq_take_snoc ho ho2 heq e
        have HF : Hid (x ≠ y → (xs == ys) = false) := fun e => ne_at ho ho2 e
        have L0 := Later.cell c0
        have M0 := Later.cell d0
        clear ho ho2 heq
        by_cases h1 : x = y
        · subst h1
          have hs := Lib.hid (HT.out rfl)
          go_wp2_with fail
          refine region_later (by kernel_rfl) (by kernel_rfl) ?_
          repeat (go_big_quiet_step (fail))
          refine wpQuiet_nil ?_
          rintro _ ⟨u, rfl⟩
          have hbu := hb.trans (u.2.mono hb.size)
          go_wp2_with fail
          go_roundw
          case rel => exact ⟨k + 1, by omega, by go_num, hs.out, hbu⟩
          case measure => simp [intOf]; omega
        · have hs := Lib.hid (HF.out h1)
          go_wp2_with fail
          refine region_later (by kernel_rfl) (by kernel_rfl) ?_
          repeat (go_big_quiet_step (fail))
          refine wpQuiet_nil ?_
          rintro _ ⟨u, rfl⟩
          have hbu := hb.trans (u.2.mono hb.size)
          go_wp2_with fail
          go_ret
          exact ⟨ret_bool hs.out.symm, hbu⟩
      · have hE : Hid ((xs == ys) = true) := by
          show _ = _
          rw [List.take_of_length_le (by omega), List.take_of_length_le (by omega)] at heq
          rw [heq]; simp
        clear heq
        go_wp2_with fail
        go_ret
        exact ⟨ret_bool hE.out.symm, hb⟩
  · have hF : Hid ((xs == ys) = false) := by
      show _ = _
      rw [beq_eq_false_iff_ne]
      intro h
      rw [h] at hl; omega
    go_enter Tryz.func32, Tryz.ntmps32
    go_wp2_with fail
    go_ret
    exact ⟨ret_bool hF.out.symm, Below.refl _ _⟩
end Go.Proofs.YtkbclcgdkbhgdaaGreat
namespace Go.Proofs.YtkbclcgdkbhgdaaGreat
open Go.RowKit
set_option linter.unusedVariables false

def mSort_ren : Go.Shelf.Ren := ⟨fun | 5 => 67 | 8 => 86 | 7 => 85 | 19 => 98 | 20 => 99 | 10 => 89 | 11 => 90 | 12 => 91 | 13 => 92 | 14 => 93 | 15 => 94 | 16 => 95 | 17 => 96 | 18 => 97 | 30 => 102 | 31 => 103 | 32 => 104 | 33 => 105 | 34 => 106 | 35 => 107 | 40 => 108 | n => n, fun | 23 => 32 | 25 => 3 | 3 => 3 | 32 => 85 | 22 => 32 | 0 => 0 | 44 => 102 | 46 => 104 | 4 => 4 | 36 => 94 | 35 => 93 | 41 => 99 | 5 => 5 | 9 => 9 | 53 => 109 | 57 => 113 | 63 => 115 | 64 => 116 | n => n, fun | n => n⟩
theorem mSort : Go.Proofs.SlLaysM.n5 Tryz.prog mSort_ren where
  mixed := by kernel_rfl
  f5 := ⟨Tryz.f67.name, by kernel_rfl, Tryz.func67.trans (congrArg some (by kernel_rfl))⟩
  f7 := ⟨Tryz.f85.name, by kernel_rfl, Tryz.func85.trans (congrArg some (by kernel_rfl))⟩
  f8 := Tryz.func86.trans (congrArg some (by kernel_rfl))
  f10 := ⟨Tryz.f89.name, by kernel_rfl, Tryz.func89.trans (congrArg some (by kernel_rfl))⟩
  f11 := ⟨Tryz.f90.name, by kernel_rfl, Tryz.func90.trans (congrArg some (by kernel_rfl))⟩
  f12 := ⟨Tryz.f91.name, by kernel_rfl, Tryz.func91.trans (congrArg some (by kernel_rfl))⟩
  f13 := ⟨Tryz.f92.name, by kernel_rfl, Tryz.func92.trans (congrArg some (by kernel_rfl))⟩
  f14 := ⟨Tryz.f93.name, by kernel_rfl, Tryz.func93.trans (congrArg some (by kernel_rfl))⟩
  f15 := ⟨Tryz.f94.name, by kernel_rfl, Tryz.func94.trans (congrArg some (by kernel_rfl))⟩
  f16 := ⟨Tryz.f95.name, by kernel_rfl, Tryz.func95.trans (congrArg some (by kernel_rfl))⟩
  f17 := ⟨Tryz.f96.name, by kernel_rfl, Tryz.func96.trans (congrArg some (by kernel_rfl))⟩
  f18 := ⟨Tryz.f97.name, by kernel_rfl, Tryz.func97.trans (congrArg some (by kernel_rfl))⟩
  f19 := Tryz.func98.trans (congrArg some (by kernel_rfl))
  f20 := Tryz.func99.trans (congrArg some (by kernel_rfl))
  f30 := ⟨Tryz.f102.name, by kernel_rfl, Tryz.func102.trans (congrArg some (by kernel_rfl))⟩
  f31 := Tryz.func103.trans (congrArg some (by kernel_rfl))
  f32 := Tryz.func104.trans (congrArg some (by kernel_rfl))
  f33 := ⟨Tryz.f105.name, by kernel_rfl, Tryz.func105.trans (congrArg some (by kernel_rfl))⟩
  f34 := ⟨Tryz.f106.name, by kernel_rfl, Tryz.func106.trans (congrArg some (by kernel_rfl))⟩
  f35 := ⟨Tryz.f107.name, by kernel_rfl, Tryz.func107.trans (congrArg some (by kernel_rfl))⟩
  f40 := ⟨Tryz.f108.name, by kernel_rfl, Tryz.func108.trans (congrArg some (by kernel_rfl))⟩
  t0 := Tryz.underlying0
  a0 := Tryz.isAgg0
  z0 := Tryz.sizeOf0
  v0 := Tryz.zeroValue0
  t3 := Tryz.underlying3
  a3 := Tryz.isAgg3
  z3 := Tryz.sizeOf3
  v3 := Tryz.zeroValue3
  t4 := Tryz.underlying4
  a4 := Tryz.isAgg4
  z4 := Tryz.sizeOf4
  v4 := Tryz.zeroValue4
  t5 := Tryz.underlying5
  a5 := Tryz.isAgg5
  z5 := Tryz.sizeOf5
  v5 := Tryz.zeroValue5
  t9 := Tryz.underlying9
  a9 := Tryz.isAgg9
  z9 := Tryz.sizeOf9
  v9 := Tryz.zeroValue9
  t22 := Tryz.underlying32
  a22 := Tryz.isAgg32
  z22 := Tryz.sizeOf32
  v22 := Tryz.zeroValue32
  t23 := Tryz.underlying32
  a23 := Tryz.isAgg32
  z23 := Tryz.sizeOf32
  v23 := Tryz.zeroValue32
  t25 := Tryz.underlying3
  a25 := Tryz.isAgg3
  z25 := Tryz.sizeOf3
  v25 := Tryz.zeroValue3
  t32 := Tryz.underlying85
  a32 := Tryz.isAgg85
  z32 := Tryz.sizeOf85
  v32 := Tryz.zeroValue85
  t35 := Tryz.underlying93
  a35 := Tryz.isAgg93
  z35 := Tryz.sizeOf93
  v35 := Tryz.zeroValue93
  t36 := Tryz.underlying94
  a36 := Tryz.isAgg94
  z36 := Tryz.sizeOf94
  v36 := Tryz.zeroValue94
  t41 := Tryz.underlying99
  a41 := Tryz.isAgg99
  z41 := Tryz.sizeOf99
  v41 := Tryz.zeroValue99
  t44 := Tryz.underlying102
  a44 := Tryz.isAgg102
  z44 := Tryz.sizeOf102
  v44 := Tryz.zeroValue102
  t46 := Tryz.underlying104
  a46 := Tryz.isAgg104
  z46 := Tryz.sizeOf104
  v46 := Tryz.zeroValue104
  t53 := Tryz.underlying109
  a53 := Tryz.isAgg109
  z53 := Tryz.sizeOf109
  v53 := Tryz.zeroValue109
  t57 := Tryz.underlying113
  a57 := Tryz.isAgg113
  z57 := Tryz.sizeOf113
  v57 := Tryz.zeroValue113
  t63 := Tryz.underlying115
  a63 := Tryz.isAgg115
  z63 := Tryz.sizeOf115
  v63 := Tryz.zeroValue115
  t64 := Tryz.underlying116
  a64 := Tryz.isAgg116
  z64 := Tryz.sizeOf116
  v64 := Tryz.zeroValue116

theorem sort_ren : mSort_ren.f 5 = 67 := rfl
#print axioms mSort
end Go.Proofs.YtkbclcgdkbhgdaaGreat
namespace Go.Proofs.YtkbclcgdkbhgdaaGreat
open Go.RowKit Go.BigFrame Go.Shelf Go.Sort
set_option linter.unusedVariables false

attribute [local go_sem] Oper.semAt_some


set_option maxRecDepth 100000 in
set_option maxHeartbeats 2000000 in
theorem ordvals1_in (N l Bs n₀ : Nat) (A : Option Addr) (n c : Nat) (zs : List Int) (hA : ∀ ad, A = some ad → ad.block < n₀) (J Jx : List Int → World → Prop)
    (hY : ∀ pre x W, J pre W → pre.length < zs.length → YieldAt Fence.wide (N - 1) Tryz.prog l #[.int .i64 x] W fun e W' =>
      (e = .returned (.bool true) ∧ J (pre ++ [x]) W' ∧ Below n₀ W W') ∨ (e = .returned (.bool false) ∧ Jx (pre ++ [x]) W'))
    (W : World) (hBs : W.cell? ⟨Bs, 0, none⟩ = some (.slice A n c)) (hl : RInts W A n zs) (h0 : J [] W) :
    CallsIn Fence.wide N Tryz.prog 68 #[.func (.yield l) #[] #[], .pointer (some ⟨Bs, 0, none⟩)] W fun e W' => (∃ v, e = .returned v) ∧
      ((∃ ys, ys = zs ∧ J ys W') ∨ (∃ pre, pre <+: zs ∧ Jx pre W')) := by
  have hn := hl.2.1
  have HL := Lib.hid hl
  have HLEN := Lib.hid hl.1
  have HY := Lib.hid hY
  have HA := Lib.hid hA
  clear hl hY hA
  refine callsIn_of_wp Tryz.func68 rfl trivial ?_ rfl
  simp only [Tryz.ntmps68, List.size_toArray, List.length_cons, List.length_nil, Nat.reduceAdd, Nat.reduceSub, Array.replicate_succ, Array.replicate_zero, List.push_toArray, List.append_toArray, List.nil_append, List.cons_append]
  gi_wp2
  gi_loopw [7] (fun i wr => ∃ k : Nat, k ≤ n ∧ i = .int .i64 k ∧ J (zs.take k) wr ∧ Below n₀ W wr) (fun i _ => n - (intOf i).toNat)
  case atStart => exact ⟨0, Nat.zero_le _, rfl, by simpa using h0, Below.refl _ _⟩
  case round =>
    obtain ⟨k, hk, rfl, hJs, hnx⟩ := hrel
    have HJ := Lib.hid hJs
    have HNX := Lib.hid hnx
    clear hJs hnx
    by_cases hlt : k < n
    · obtain ⟨b, off, x, hAe, hbl, ho, c0⟩ := HL.out.at_ hlt
      have hb := HA.out _ hAe
      subst hAe
      have hcx := (HNX.out.cell (p := ⟨b, off + k, none⟩) hb).trans c0
      have HTS := Lib.hid (take_snoc ho)
      obtain ⟨fn, tmps, assign, body, hy, hR⟩ := HY.out _ x wr HJ.out (by simp [HLEN.out]; omega)
      have HR := Lib.hid hR
      have HPX : Hid (zs.take (k + 1) <+: zs) := List.take_prefix _ _
      clear hR c0 ho
      gi_wp2
      refine ⟨fun h => (by simp [Fence.wide] at h), ?_⟩
      refine HR.out.mono ?_
      rintro e W3 (⟨rfl, hJ3, hk3⟩ | ⟨rfl, hJx3⟩)
      · have HJ3 := Lib.hid hJ3
        have HK3 := Lib.hid hk3
        clear hJ3 hk3
        gi_wp2
        go_roundw
        case rel => exact ⟨k + 1, by omega, by go_num, by rw [HTS.out]; exact HJ3.out, HNX.out.trans HK3.out⟩
        case measure => simp [intOf]; omega
      · have HJ3 := Lib.hid hJx3
        clear hJx3
        gi_wp2
        refine bodyPost_ret (results_none rfl _ _ _) rfl ?_
        exact ⟨⟨_, rfl⟩, .inr ⟨_, HPX.out, by rw [HTS.out]; exact HJ3.out⟩⟩
    · obtain rfl : k = n := by omega
      gi_wp2
      go_end0
      exact ⟨⟨_, rfl⟩, .inl ⟨_, List.take_of_length_le (by rw [HLEN.out]; exact Nat.le_refl _), HJ.out⟩⟩

theorem ordvals_stops (N Bs n₀ : Nat) (A : Option Addr) (n c : Nat) (zs : List Int) (w : World) (hBs : Bs < w.heap.size) (hn₀ : n₀ ≤ w.heap.size) (hc : w.cell? ⟨Bs, 0, none⟩ = some (.slice A n c)) (hl : RInts w A n zs) (hA : ∀ ad, A = some ad → ad.block < n₀) :
    SeqStopsK Fence.wide N Tryz.prog 68 #[.pointer (some ⟨Bs, 0, none⟩)] (fun x : Int => #[Value.int .i64 x]) (Below n₀) (fun ys => ys = zs) (fun pre => pre <+: zs) zs.length w := fun l J Jx W hW _ _ hY h0 =>
  ordvals1_in N l Bs n₀ A n c zs hA J Jx hY W ((hW.cell (p := ⟨Bs, 0, none⟩) hBs).trans hc) (hl.below hW (Nat.le_refl _)) h0

set_option maxHeartbeats 1000000 in
theorem ordvalues_any (A : Option Addr) (n c : Nat) (w : World) :
    Calls Tryz.prog 34 #[.slice A n c] w fun e w' => e = .returned (.func (.func 68) #[] #[.pointer (some ⟨w.heap.size, 0, none⟩)]) ∧ w' = w.alloc (.cells #[.slice A n c] 32) := by
  go_enter Tryz.func34, Tryz.ntmps34
  go_wp2_with fail
  go_ret
  exact ⟨rfl, rfl⟩

set_option maxRecDepth 100000 in
set_option maxHeartbeats 2000000 in
theorem ordappendSeq_any (Bs : Nat) (A : Option Addr) (n c : Nat) (zs : List Int) (w : World) (hBs : Bs < w.heap.size) (hc : w.cell? ⟨Bs, 0, none⟩ = some (.slice A n c)) (hl : RInts w A n zs) (hA : ∀ ad, A = some ad → ad.block < w.heap.size) :
    Calls Tryz.prog 84 #[.slice none 0 0, .func (.func 68) #[] #[.pointer (some ⟨Bs, 0, none⟩)]] w fun e W' =>
      ∃ v, e = .returned v ∧ W'.ownsRow w.heap.size 3 1 v n (intCells zs) ∧ Below w.heap.size w W' := by
  obtain ⟨i0, hi, hz0, hz1, hz2⟩ := info_parts intInfo
  have hn := hl.2.1
  have HLEN := Lib.hid hl.1
  have HL := Lib.hid hl
  have HA := Lib.hid hA
  have HC := Lib.hid hc
  clear hl hA hc
  refine (callsIn_wide (n := 9)).1 ?_
  refine callsIn_of_wp_marks Tryz.func84 rfl trivial ?_ rfl
  simp only [Tryz.ntmps84, List.size_toArray, List.length_cons, List.length_nil, Nat.reduceAdd, Nat.reduceSub, Array.replicate_succ, Array.replicate_zero, List.push_toArray, List.append_toArray, List.nil_append, List.cons_append]
  gi_wp2
  have bO := Boxed.new w 32 (.slice none 0 0)
  have hB0 : Below w.heap.size w (w.alloc (.cells #[.slice none 0 0] 32)) := (Below.refl _ w).alloc (Nat.le_refl _) _
  refine wpIn_rangeFunc_ownG rfl (by omega) (gf := 68) (lb := #[.pointer (some ⟨Bs, 0, none⟩)]) rfl trivial (enters_of Tryz.func68 (by kernel_rfl) rfl)
    (ordvals_stops _ Bs w.heap.size A n c zs (w.alloc (.cells #[.slice none 0 0] 32)) (by simp; omega) (by simp) ((hB0.cell (p := ⟨Bs, 0, none⟩) hBs).trans HC.out) (HL.out.below hB0 (Nat.le_refl _)) HA.out) belowK_t (belowK_b (by simp)) (Below.refl _ _) (fun _ => rfl)
    (fun pre W => (∃ v, Boxed W w.heap.size 32 v ∧ W.ownsRow w.heap.size 3 1 v pre.length (intCells pre) ∧ True) ∧ Below w.heap.size w W)
    (fun _ _ _ => False)
    (OwnFrom.and (Own.from (holdsRow_own w.heap.size w.heap.size 32 3 1 (fun pre : List Int => pre.length) (fun pre => intCells pre) (fun _ _ => True)) _) (ownFrom_below (Nat.le_refl _) (by simp)))
    (fun _ _ _ _ _ hs _ _ => hs)
    ⟨⟨_, bO, World.ownsRow_nil _ _ _ _, trivial⟩, hB0⟩
    (fun x => { tmps := #[.slice none 0 0, .func (.func 68) #[] #[.pointer (some ⟨Bs, 0, none⟩)], .pointer (some ⟨w.heap.size, 0, none⟩), undef, .slice none 0 0, .int .i64 x, .func (.func 68) #[] #[.pointer (some ⟨Bs, 0, none⟩)], .int .i64 x, undef, undef, undef, undef, undef], defers := [] }) ?assign ?body ?done ?stop
  case assign =>
    intro l x W K hK
    gi_wp2
    exact hK
  case body =>
    rintro l pre x W ⟨⟨v, hv, hrow, _⟩, hB⟩ hlt
    have hc := hv.cell
    have hpl : pre.length < n := by have := HLEN.out; omega
    have hbs := hB.size
    gi_wp2_with (gi_at_builtin; refine wpListIn_append_own _ rfl _ _ 32 rfl w.heap.size 3 i0 (.int .i64 0) 1 8 Tryz.underlying32 hi hz0 hz1 hz2 rfl (by decide) _ _ _ rfl (hrow.alloc _) ⟨W.heap.size, 0, none⟩ 1 1 [.int .i64 x] rfl rfl (cell_one_new _ _ _) (by simp [Value.oneCell']) (by unfold maxLen; omega) (by omega) (by simp; omega) ?_; intro v' w1 hown' hgrow _; obtain ⟨g', cap', rfl⟩ := ownsRow_succ hown'; obtain ⟨hv1, hv2, hr2, hk2, hb2⟩ := hv.appended (by decide) hrow hB.size (Nat.le_refl _) hown' hgrow; have hc1 := hv1.cell; have hf1 := hv1.frozen)
    exact ⟨hk2.from _, hb2, ⟨_, hv2, by simpa [intCells] using hr2, trivial⟩, hB.trans hb2⟩
  case done =>
    rintro D ys W hD rfl ⟨⟨v, hv, hrow, _⟩, hB⟩ hK
    have hc := hv.cell
    gi_wp2
    refine ⟨by simp, .inl ⟨_, _, rfl, run_takeDeferred hK, ?_⟩⟩
    exact ⟨_, results_tmp rfl _ _ _, v, rfl, by rw [← HLEN.out]; exact ownsRow_putObj hrow _ hK rfl, hB.trans (belowK_b (w := w) (Nat.le_refl _) W D _ _ (by simp at hD; omega) hK rfl rfl)⟩
  case stop =>
    rintro D c pre W _ _ h _
    exact h.elim

set_option maxHeartbeats 1000000 in
theorem ordcollect_any (Bs : Nat) (A : Option Addr) (n c : Nat) (zs : List Int) (w : World) (hBs : Bs < w.heap.size) (hc : w.cell? ⟨Bs, 0, none⟩ = some (.slice A n c)) (hl : RInts w A n zs) (hA : ∀ ad, A = some ad → ad.block < w.heap.size) :
    Calls Tryz.prog 66 #[.func (.func 68) #[] #[.pointer (some ⟨Bs, 0, none⟩)]] w fun e W' =>
      ∃ v, e = .returned v ∧ W'.ownsRow w.heap.size 3 1 v n (intCells zs) ∧ Below w.heap.size w W' := by
  have HP := Lib.hid (ordappendSeq_any Bs A n c zs w hBs hc hl hA)
  clear hc hl hA
  go_enter Tryz.func66, Tryz.ntmps66
  go_wp2_with fail
  refine HP.out.mono ?_
  rintro e w1 ⟨v, rfl, hown, hb⟩
  obtain ⟨A1, c1, rfl, hc1⟩ := own_form2 hown
  have HO := Lib.hid hown
  clear hown
  go_wp2_with fail
  go_ret
  exact ⟨_, rfl, HO.out, hb⟩

set_option maxHeartbeats 1000000 in
/-- What is sorted: new memory. -/
theorem ordsorted_any (Bs : Nat) (A : Option Addr) (n c : Nat) (zs : List Int) (w : World) (hBs : Bs < w.heap.size) (hc : w.cell? ⟨Bs, 0, none⟩ = some (.slice A n c)) (hl : RInts w A n zs) (hA : ∀ ad, A = some ad → ad.block < w.heap.size) :
    Calls Tryz.prog 33 #[.func (.func 68) #[] #[.pointer (some ⟨Bs, 0, none⟩)]] w (RetInts w (zs.mergeSort fun x y => decide (x ≤ y))) := by
  have hn := hl.2.1
  have HLEN := Lib.hid hl.1
  have HP := Lib.hid (ordcollect_any Bs A n c zs w hBs hc hl hA)
  have HSL : Hid ((zs.mergeSort fun x y => decide (x ≤ y)).length = n) := by show _ = _; rw [List.length_mergeSort]; exact hl.1
  clear hc hl hA
  go_enter Tryz.func33, Tryz.ntmps33
  go_wp2_with fail
  refine HP.out.mono ?_
  rintro e w1 ⟨v, rfl, hown, hb⟩
  rcases hown.2 with ⟨rfl, hz⟩ | ⟨gb, cap, cur, rfl, hbase, hgb, r1, r2, r3, r4⟩
  · subst hz
    have hzs : zs = [] := List.eq_nil_of_length_eq_zero HLEN.out
    subst hzs
    have HO : Hid (RetInts w (([] : List Int).mergeSort fun x y => decide (x ≤ y)) (.returned (.slice none 0 0)) w1) := by show RetInts _ _ _ _; simpa using RetInts.nil hb
    have hS : Calls Tryz.prog 67 #[.slice none 0 0] w1 fun e w' => e = .returned (.tuple #[]) ∧ w' = w1 := AnyM.slices_Sort_int_none mSort none 0 w1
    have HS := Lib.hid hS
    clear hown hS HSL
    go_wp2_with fail
    refine HS.out.mono ?_
    rintro e w2 ⟨rfl, rfl⟩
    go_wp2_with fail
    go_ret
    exact HO.out
  · have hlen := HLEN.out
    have hH : Sort.Holds (Value.int .i64) w1 gb 0 zs.toArray := holds_of_blockI hgb (by rw [show n * 1 = zs.length by omega] at r4; simpa [intCells] using r4)
    have hgl : gb < w1.heap.size := lt_of_block hgb
    have hS : Calls Tryz.prog 67 #[.slice (some ⟨gb, 0, none⟩) n cap] w1 fun e w' => e = .returned (.tuple #[]) ∧ ∃ k os, w' = Sort.grow (Sort.putRow (Value.int .i64) (Sort.ahead w1 k) gb 0 (zs.mergeSort fun x y => decide (x ≤ y)).toArray) os := by
      have := AnyM.slices_Sort_int mSort gb 0 cap zs w1 hH hgl (by omega)
      rw [hlen] at this
      exact this
    have HO : Hid (∀ k os, RetInts w (zs.mergeSort fun x y => decide (x ≤ y)) (.returned (.slice (some ⟨gb, 0, none⟩) n cap)) (Sort.grow (Sort.putRow (Value.int .i64) (Sort.ahead w1 k) gb 0 (zs.mergeSort fun x y => decide (x ≤ y)).toArray) os)) := by
      intro k os
      have hrow := ownsRow_sortedI (n := k) (os := os) (ss := zs) (ts := zs.mergeSort fun x y => decide (x ≤ y)) (by simp) hbase hgb (by omega) r2 r3
      rw [hlen] at hrow
      have hgw := grownBy_sortedI (w := w1) (g := gb) (n := k) (os := os) (zs.mergeSort fun x y => decide (x ≤ y)).toArray
      exact RetInts.mk HSL.out r1 (FreshInts.of_own (by simpa [intCells] using hrow) (Nat.le_refl _) hn) (hb.grown hgw hb.size (fun j hj => by cases hj; exact hbase))
    have HS := Lib.hid hS
    clear hown hS HSL hH r1 r2 r3 r4 hgb
    go_wp2_with fail
    refine HS.out.mono ?_
    rintro e w2 ⟨rfl, k, os, rfl⟩
    have HOO := Lib.hid (HO.out k os)
    clear HO
    generalize Sort.grow (Sort.putRow (Value.int .i64) (Sort.ahead w1 k) gb 0 (zs.mergeSort fun x y => decide (x ≤ y)).toArray) os = w3 at *
    go_wp2_with fail
    go_ret
    exact HOO.out

end Go.Proofs.YtkbclcgdkbhgdaaGreat
namespace Go.Proofs.YtkbclcgdkbhgdaaGreat
open Go.RowKit Go.BigFrame
set_option linter.unusedVariables false


theorem FreshInts.blk {w0 w : World} {A : Option Addr} {n : Nat} {xs : List Int} (h : FreshInts w0 w A n xs) : ∀ ad, A = some ad → ad.block < w.heap.size := fun ad had => by
  obtain ⟨b, cur, e, _, h2, _⟩ := h.2 ad had
  rw [e]; exact lt_of_block h2
theorem asc_unique : ∀ {l1 l2 : List Int}, l1.Pairwise (fun a b => a < b) → l2.Pairwise (fun a b => a < b) → (∀ x, x ∈ l1 ↔ x ∈ l2) → l1 = l2 := by
  intro l1
  induction l1 with
  | nil =>
    intro l2 _ _ h
    cases l2 with
    | nil => rfl
    | cons y r => exact absurd ((h y).2 (by simp)) (by simp)
  | cons x r ih =>
    intro l2 h1 h2 h
    cases l2 with
    | nil => exact absurd ((h x).1 (by simp)) (by simp)
    | cons y q =>
      rw [List.pairwise_cons] at h1 h2
      have hxy : x = y := by
        rcases List.mem_cons.1 ((h x).1 (by simp)) with e | hx
        · exact e
        · rcases List.mem_cons.1 ((h y).2 (by simp)) with e | hy
          · exact e.symm
          · have := h2.1 x hx; have := h1.1 y hy; omega
      subst hxy
      rw [ih h1.2 h2.2 (fun z => ?_)]
      constructor
      · intro hz
        rcases List.mem_cons.1 ((h z).1 (by simp [hz])) with e | hq
        · have := h1.1 z hz; omega
        · exact hq
      · intro hz
        rcases List.mem_cons.1 ((h z).2 (by simp [hz])) with e | hq
        · have := h2.1 z hz; omega
        · exact hq
/-- The transactions of a list, ascending. -/
def ascOf (L : List Int) : List Int := [(0 : Int), 1, 2, 3].filter fun t => L.any fun y => y == t
theorem ascOf_asc (L : List Int) : (ascOf L).Pairwise (fun a b => a < b) := List.Pairwise.filter _ (by decide)
theorem ascOf_mem {L : List Int} (h : ∀ u ∈ L, 0 ≤ u ∧ u ≤ 3) (t : Int) : t ∈ ascOf L ↔ t ∈ L := by
  unfold ascOf
  rw [List.mem_filter, any_mem_iff]
  refine ⟨fun h => h.2, fun ht => ⟨?_, ht⟩⟩
  have := h t ht
  have : t = 0 ∨ t = 1 ∨ t = 2 ∨ t = 3 := by omega
  rcases this with rfl | rfl | rfl | rfl <;> simp
theorem ascOf_nodup (L : List Int) : (ascOf L).Nodup := (ascOf_asc L).imp (fun h => by omega)
theorem ascOf_rng (L : List Int) : ∀ t ∈ ascOf L, 0 ≤ t ∧ t ≤ 3 := by
  intro t ht
  have := (List.mem_filter.1 ht).1
  simp at this
  omega
theorem ascOf_len (L : List Int) : (ascOf L).length ≤ 4 := Nat.le_trans (List.length_filter_le _ _) (by simp)
theorem sort_asc {L : List Int} (hd : L.Nodup) (h : ∀ u ∈ L, 0 ≤ u ∧ u ≤ 3) : (L.mergeSort fun x y => decide (x ≤ y)) = ascOf L := by
  have hp : (L.mergeSort fun x y => decide (x ≤ y)).Perm L := List.mergeSort_perm _ _
  have hs : (L.mergeSort fun x y => decide (x ≤ y)).Pairwise (fun a b => decide (a ≤ b) = true) := List.pairwise_mergeSort (by intro a b c; simp; omega) (by intro a b; simp; omega) L
  have hn : (L.mergeSort fun x y => decide (x ≤ y)).Nodup := hp.nodup_iff.2 hd
  refine asc_unique ?_ (ascOf_asc L) (fun x => ?_)
  · refine (hs.and hn).imp ?_
    intro a b ⟨h1, h2⟩
    have : a ≤ b := by simpa using h1
    omega
  · rw [hp.mem_iff, ascOf_mem h]
end Go.Proofs.YtkbclcgdkbhgdaaGreat
namespace Go.Proofs.YtkbclcgdkbhgdaaGreat
open Go.RowKit Go.BigFrame
set_option linter.unusedVariables false

def serialI (s : List OpV) (ts : List Int) : List OpV := ts.flatMap (opsOf s)
theorem serialI_snoc {s : List OpV} {ts : List Int} {k : Nat} {t : Int} (h : ts[k]? = some t) : serialI s (ts.take (k + 1)) = serialI s (ts.take k) ++ opsOf s t := by
  unfold serialI
  rw [take_snoc h, List.flatMap_append]; simp
theorem opsOf_len (s : List OpV) (t : Int) : (opsOf s t).length ≤ s.length := List.length_filter_le _ _
def vordI (s : List OpV) (ts : List Int) : Bool := (ts.mergeSort fun x y => decide (x ≤ y)) == txsOf s
theorem txsOf_len (s : List OpV) : (txsOf s).length ≤ 4 := Nat.le_trans (List.length_filter_le _ _) (by simp)
theorem vordI_len {s : List OpV} {ts : List Int} (h : vordI s ts = true) : ts.length ≤ 4 := by
  unfold vordI at h
  have : (ts.mergeSort fun x y => decide (x ≤ y)) = txsOf s := by simpa using h
  rw [← List.length_mergeSort (le := fun x y : Int => decide (x ≤ y)) ts, this]
  exact txsOf_len s
theorem validS_len {s : List OpV} (h : validS s = true) : s.length ≤ 16 := by
  unfold validS at h
  simp only [Bool.and_eq_true, decide_eq_true_eq] at h
  exact h.1

set_option maxRecDepth 100000 in
set_option maxHeartbeats 1000000 in
theorem serialBy_any (A B : Option Addr) (n c m d : Nat) (s : List OpV) (ts : List Int) (w : World) (hx : ROps w A n s) (hy : RInts w B m ts) (hn16 : n ≤ 16) (hm16 : m ≤ 16) :
    Calls Tryz.prog 20 #[.slice A n c, .slice B m d] w (RetOps w (serialI s ts)) := by
  have hn := hx.2.1
  have hl := hx.1
  have hml := hy.1
  have HX := Lib.hid hx
  have HY := Lib.hid hy
  clear hx hy
  obtain ⟨i0, hi, hz0, hz1, hz2⟩ := info_parts opInfo
  go_enter Tryz.func20, Tryz.ntmps20
  go_wp2_with (at_make; refine wpList_make_own _ rfl _ _ 23 rfl w.heap.size 46 i0 _ 3 Tryz.underlying23 hi hz0 hz1 .i64 .i64 _ n rfl rfl rfl (by rw [hz2]; omega) (by unfold maxLen; omega) (Nat.le_refl _) ?_; intro w1 hown1 hg1)
  have hb1 : Below w.heap.size w w1 := ⟨hg1.os, hg1.tape, hg1.output, hg1.size, fun k hk => hg1.block k hk (by simp)⟩
  have HST := Lib.hid (And.intro hown1 hb1)
  clear hown1 hb1 hg1 hi hz0 hz1 hz2
  go_loopw [5, 13] (fun ov i wr => ∃ (k j : Nat), k ≤ m ∧ j ≤ k * 16 ∧ i = .int .i64 k ∧ Below w.heap.size w wr ∧ wr.ownsRow w.heap.size 46 3 ov j (opCells (serialI s (ts.take k)))) (fun _ i _ => m - (intOf i).toNat)
  case atStart => exact ⟨0, 0, Nat.zero_le _, by omega, rfl, HST.out.2, by simpa [opCells, serialI] using HST.out.1⟩
  case round =>
    clear HST
    obtain ⟨k, j, hk, hj, rfl, hb, hown⟩ := hrel
    obtain ⟨Ao, co, rfl, hjc⟩ := own_form2 hown
    by_cases hlt : k < m
    · obtain ⟨b, off, t, rfl, hbl, ht, c0⟩ := (HY.out.below hb (Nat.le_refl _)).at_ hlt
      have hs := hb.size
      have HT := Lib.hid (serialI_snoc (s := s) ht)
      have HC := Lib.hid (opsOf_any A n c s t wr (HX.out.below hb (Nat.le_refl _)))
      have hol : (opsOf s t).length ≤ n := by rw [← hl]; exact opsOf_len s t
      have HOWN := Lib.hid hown
      clear ht hown
      go_wp2_with fail
      refine HC.out.mono ?_
      rintro e w2 ⟨A', c', rfl, hc', ⟨hro, hfo⟩, hb2⟩
      have hown2 := own_below HOWN.out hb2
      clear hfo HC
      generalize opsOf s t = os at *
      have hsz2 := hb2.size
      go_wp2_with (at_builtin; refine app_ops (.tmp 17) (.tmp 20) hown2 (by omega) hro (by omega) rfl rfl rfl rfl ?_; intro v3 w3 hown3 hg3 hat3)
      have hb3 := Below.own (hb.trans (hb2.mono hs)) hown2 (Nat.le_refl _) hg3
      go_roundw
      case rel => exact ⟨k + 1, j + os.length, by omega, by omega, by go_num, hb3, by rw [HT.out]; exact hown3⟩
      case measure => simp [intOf]; omega
    · have e : ts.take k = ts := List.take_of_length_le (by omega)
      rw [e] at hown
      have HO := Lib.hid (RetOps.mk (c := j) (own_lenOps hown) (Nat.le_refl _) (FreshOps.of_own hown (Nat.le_refl _) (by omega)) hb)
      clear hown e
      go_wp2_with fail
      refine (ClipOps_any Ao j co _ (by omega) hjc).mono ?_
      rintro e w9 ⟨rfl, rfl⟩
      go_wp2_with fail
      go_ret
      exact HO.out

set_option maxRecDepth 100000 in
set_option maxHeartbeats 1000000 in
theorem SerialBy_any (A B : Option Addr) (n c m d : Nat) (s : List OpV) (ts : List Int) (w : World) (hx : ROps w A n s) (hnc : n ≤ c) (hy : RInts w B m ts) (hB : ∀ ad, B = some ad → ad.block < w.heap.size) :
    Calls Tryz.prog 11 #[.slice A n c, .slice B m d] w (RetOps w (orNil (validS s && vordI s ts) (serialI s ts))) := by
  have hl := hx.1
  have hn := hx.2.1
  have hm := hy.2.1
  have hml := hy.1
  have HX := Lib.hid hx
  have HY := Lib.hid hy
  have HB := Lib.hid hB
  clear hx hy hB
  cases hv : validS s
  · have HV := Lib.hid hv
    clear hv
    go_enter Tryz.func11, Tryz.ntmps11
    go_wp2_with fail
    refine (ValidSchedule_any A n c s w HX.out hnc).mono ?_
    rintro e w1 ⟨rfl, hb⟩
    rw [HV.out]
    go_wp2_with fail
    go_ret
    exact RetOps.nil hb
  · have HV := Lib.hid hv
    have hn16 := validS_len hv
    rw [hl] at hn16
    clear hv
    obtain ⟨vb, hvb⟩ : ∃ vb, vordI s ts = vb := ⟨_, rfl⟩
    have HVB := Lib.hid hvb
    go_enter Tryz.func11, Tryz.ntmps11
    go_wp2_with fail
    refine (ValidSchedule_any A n c s w HX.out hnc).mono ?_
    rintro e w1 ⟨rfl, hb⟩
    rw [HV.out]
    have hs1 := hb.size
    clear hvb
    go_wp2_with fail
    refine (ordvalues_any B m d w1).mono ?_
    rintro e w3 ⟨rfl, rfl⟩
    have ha3 : Below w1.heap.size w1 (w1.alloc (.cells #[.slice B m d] 32)) := (Below.refl _ _).alloc (Nat.le_refl _) _
    have hc3 : (w1.alloc (.cells #[.slice B m d] 32)).cell? ⟨w1.heap.size, 0, none⟩ = some (.slice B m d) := box_at _ _ _ _ _ (by simp)
    have hb3 := hb.trans (ha3.mono hs1)
    have HS := Lib.hid (ordsorted_any w1.heap.size B m d ts (w1.alloc (.cells #[.slice B m d] 32)) (by simp) hc3 (HY.out.below hb3 (Nat.le_refl _)) (fun ad h => by have := HB.out ad h; simp; omega))
    have HB3 := Lib.hid hb3
    clear hc3 hb3
    go_wp2_with fail
    refine HS.out.mono ?_
    rintro e w4 ⟨C, g, rfl, hg, ⟨hf4, _⟩, hb4⟩
    have hs3 := HB3.out.size
    have hb04 := HB3.out.trans (hb4.mono hs3)
    have HF4 := Lib.hid hf4
    have HXX := Lib.hid (HX.out.below hb04 (Nat.le_refl _))
    have HB04 := Lib.hid hb04
    have HVD : Hid (((ts.mergeSort fun x y => decide (x ≤ y)) == txsOf s) = vb) := HVB.out
    clear hf4 hb4 HS ha3 hb04
    generalize (ts.mergeSort fun x y => decide (x ≤ y)) = ss at *
    go_wp2_with fail
    refine (txsOf_any A n c s w4 HXX.out).mono ?_
    rintro e w5 ⟨D, g5, rfl, hg5, ⟨hf5, _⟩, hb5⟩
    have HE := Lib.hid (EqualS_any C D ss.length g (txsOf s).length g5 ss (txsOf s) w5 (HF4.out.below hb5 (Nat.le_refl _)) hf5)
    rw [HVD.out] at HE
    have HB05 := Lib.hid (HB04.out.trans (hb5.mono HB04.out.size))
    clear hf5 hb5
    generalize txsOf s = ls at *
    go_wp2_with fail
    refine HE.out.mono ?_
    rintro e w6 ⟨rfl, hb6⟩
    have HB06 := Lib.hid (HB05.out.trans (hb6.mono HB05.out.size))
    clear hb6
    cases vb
    · go_wp2_with fail
      go_ret
      rw [HVB.out]
      exact RetOps.nil HB06.out
    · have hm4 : m ≤ 4 := by have := vordI_len HVB.out; omega
      have HR := Lib.hid ((serialBy_any A B n c m d s ts w6 (HX.out.below HB06.out (Nat.le_refl _)) (HY.out.below HB06.out (Nat.le_refl _)) hn16 (by omega)).mono (fun e w' h => RetOps.later HB06.out h))
      go_wp2_with fail
      refine HR.out.mono ?_
      rintro e w7 ⟨A7, c7, rfl, hr⟩
      have HO : Hid (RetOps w (serialI s ts) (.returned (.slice A7 (serialI s ts).length c7)) w7) := ⟨A7, c7, rfl, hr⟩
      clear hr
      go_wp2_with fail
      go_ret
      rw [HVB.out]
      exact HO.out
end Go.Proofs.YtkbclcgdkbhgdaaGreat
namespace Go.Proofs.YtkbclcgdkbhgdaaGreat
open Go.RowKit Go.BigFrame
set_option linter.unusedVariables false

def vgood (L ts : List Int) (i : Nat) : Bool := match ts[i]? with | some t => (L.any fun y => y == t) && !((ts.take i).any fun y => y == t) | none => true
def vordS (s : List OpV) (ts : List Int) : Bool := (ts.length == (txsOf s).length) && (List.range ts.length).all (vgood (txsOf s) ts)
theorem all_range_false {p : Nat → Bool} {n k : Nat} (hk : k < n) (h : p k = false) : (List.range n).all p = false := by
  rw [List.all_eq_false]
  exact ⟨k, List.mem_range.2 hk, by rw [h]; simp⟩
theorem all_range_true {p : Nat → Bool} {n : Nat} (h : ∀ j, j < n → p j = true) : (List.range n).all p = true :=
  List.all_eq_true.2 fun j hj => h j (List.mem_range.1 hj)

def stSTo (s : List OpV) : Nat → List Int
  | 0 => []
  | k + 1 => match s[k]? with | some o => if stampN s o.tx = k then stSTo s k ++ [o.tx] else stSTo s k | none => stSTo s k
theorem stSTo_succ {s : List OpV} {k : Nat} {o : OpV} (h : s[k]? = some o) : stSTo s (k + 1) = if stampN s o.tx = k then stSTo s k ++ [o.tx] else stSTo s k := by simp only [stSTo, h]
theorem stamp_first {s : List OpV} {k : Nat} {o : OpV} (h : s[k]? = some o) : stampN s o.tx = k ↔ ((stTo s k).any fun y => y == o.tx) = false := by
  have hk : k < s.length := (List.getElem?_eq_some_iff.1 h).1
  have h1 := (stTo_known k (by omega : k ≤ s.length)).1 o.tx
  have hle := stampN_le h
  constructor
  · intro e
    cases hc : ((stTo s k).any fun y => y == o.tx)
    · rfl
    · exfalso
      obtain ⟨j, p, hj, hp, ht⟩ := h1.1 (any_eq_iff.1 hc)
      have := stampN_le hp
      rw [ht] at this
      omega
  · intro hc
    rcases Nat.lt_or_ge (stampN s o.tx) k with hlt | hge
    · exfalso
      obtain ⟨q, hq, hqt⟩ := stampN_at (List.mem_of_getElem? h)
      rw [any_eq_iff.2 (h1.2 ⟨_, q, hlt, hq, hqt⟩)] at hc
      cases hc
    · omega
theorem stSTo_eq (s : List OpV) (k : Nat) (hk : k ≤ s.length) : stSTo s k = stTo s k := by
  induction k with
  | zero => rfl
  | succ k ih =>
    have e : s[k]? = some (s[k]'(by omega)) := List.getElem?_eq_getElem (by omega)
    rw [stSTo_succ e, stTo_succ e, ih (by omega)]
    by_cases h : stampN s (s[k]'(by omega)).tx = k
    · rw [if_pos h, (stamp_first e).1 h, if_neg (by simp)]
    · rw [if_neg h]
      cases hc : ((stTo s k).any fun y => y == (s[k]'(by omega)).tx)
      · exact absurd ((stamp_first e).2 hc) h
      · rw [if_pos rfl]
end Go.Proofs.YtkbclcgdkbhgdaaGreat
namespace Go.Proofs.YtkbclcgdkbhgdaaGreat
open Go.RowKit Go.BigFrame
set_option linter.unusedVariables false


set_option maxHeartbeats 1000000 in
theorem svalidOp_any (o : OpV) (w : World) :
    Calls Tryz.prog 52 #[o.val] w fun e w' => e = .returned (.bool (validOp o)) ∧ Below w.heap.size w w' := by
  obtain ⟨t, k, x⟩ := o
  unfold OpV.val
  have hcase : inR t 0 3 = false ∨ (inR t 0 3 = true ∧ (k = 0 ∨ k = 1 ∨ (k = 2 ∧ x = 0) ∨ (k = 2 ∧ (x == 0) = false) ∨ (k = 3 ∧ x = 0) ∨ (k = 3 ∧ (x == 0) = false) ∨ ((k == 0) = false ∧ (k == 1) = false ∧ (k == 2) = false ∧ (k == 3) = false))) := by
    cases h1 : inR t 0 3
    · exact .inl rfl
    · refine .inr ⟨rfl, ?_⟩
      simp only [beq_eq_false_iff_ne]
      omega
  rcases hcase with h1 | ⟨h1, rfl | rfl | ⟨rfl, rfl⟩ | ⟨rfl, h5⟩ | ⟨rfl, rfl⟩ | ⟨rfl, h5⟩ | ⟨h2, h3, h4, h5⟩⟩
  all_goals
    go_enter Tryz.func52, Tryz.ntmps52
    go_wp2_with (go_at_call 81; refine (inRange_any _ _ _ _).mono ?_; rintro e w' ⟨rfl, rfl⟩)
    go_ret
    exact ⟨ret_bool (by simp [validOp, isAcc, isEnd, *]), by (repeat (first | exact Below.refl _ _ | assumption | refine B_alloc ?_ (Nat.le_refl _) _ | refine Below.drew ?_ | refine B_drewN ?_ _ | refine B_after (by assumption) ?_ | (refine B_set ?_ ?_; rotate_left; (first | exact Nat.le_refl _ | (simp; done) | (simp at *; omega)))))⟩


set_option maxRecDepth 100000 in
set_option maxHeartbeats 1000000 in
theorem svalid_any (A : Option Addr) (n c : Nat) (s : List OpV) (w : World) (hx : ROps w A n s) :
    Calls Tryz.prog 24 #[.slice A n c] w fun e w' => e = .returned (.bool (validS s)) ∧ Below w.heap.size w w' := by
  have hn := hx.2.1
  have hl := hx.1
  have HX := Lib.hid hx
  clear hx
  by_cases h16 : 16 < n
  · have HV : Hid (validS s = false) := by
      show _ = _
      unfold validS
      have : decide (s.length ≤ 16) = false := by simp; omega
      rw [this]; rfl
    go_enter Tryz.func24, Tryz.ntmps24
    go_wp2_with fail
    go_ret
    exact ⟨ret_bool HV.out.symm, Below.refl _ _⟩
  · go_enter Tryz.func24, Tryz.ntmps24
    go_wp2_with fail
    go_loopw [3] (fun i wr => ∃ k : Nat, k ≤ n ∧ i = .int .i64 k ∧ Below w.heap.size w wr ∧ (∀ j, j < k → goodAt s j = true)) (fun i _ => n - (intOf i).toNat)
    case atStart => exact ⟨0, Nat.zero_le _, rfl, Below.refl _ _, by omega⟩
    case round =>
      obtain ⟨wo, rfl⟩ : ∃ wo : World, wo = wr := ⟨_, rfl⟩
      obtain ⟨i, hi, rfl, hb, hno⟩ := hrel
      by_cases hlt : i < n
      · have hxr := HX.out.below hb (Nat.le_refl _)
        obtain ⟨b, off, o, rfl, hbl, ho, c0, c1, c2⟩ := hxr.at_ hlt
        have HX2 := Lib.hid hxr
        have hg : goodAt s i = (validOp o && noEnd (s.take i) o.tx) := by unfold goodAt; rw [ho]
        clear hxr ho
        cases hv : validOp o
        · have HB := Lib.hid (validS_bad (s := s) (k := i) (by omega) (by rw [hg, hv]; rfl))
          clear hg hno
          obtain ⟨tx, kd, it⟩ := o
          have hv' : ∀ W : World, Calls Tryz.prog 52 #[.agg #[.int .i64 tx, .int .i64 kd, .int .i64 it]] W fun e w' => e = .returned (.bool false) ∧ Below W.heap.size W w' := fun W => by
            have := svalidOp_any ⟨tx, kd, it⟩ W; rw [hv] at this; exact this
          have HV := Lib.hid hv'
          clear hv hv'
          go_wp2_with (go_at_call 52; refine (HV.out _).mono ?_; rintro e w1 ⟨rfl, hb1⟩)
          go_ret
          exact ⟨ret_bool HB.out.symm, hb.trans (hb1.mono hb.size)⟩
        · rw [hv, Bool.true_and] at hg
          have HG := Lib.hid hg
          have HN := Lib.hid hno
          obtain ⟨tx, kd, it⟩ := o
          have hv' : ∀ W : World, Calls Tryz.prog 52 #[.agg #[.int .i64 tx, .int .i64 kd, .int .i64 it]] W fun e w' => e = .returned (.bool true) ∧ Below W.heap.size W w' := fun W => by
            have := svalidOp_any ⟨tx, kd, it⟩ W; rw [hv] at this; exact this
          have HV := Lib.hid hv'
          clear hv hv' hg hno
          go_wp2_with (go_at_call 52; refine (HV.out _).mono ?_; rintro e w1 ⟨rfl, hb1⟩)
          go_loopw [4] (fun i' wr => ∃ k : Nat, k ≤ i ∧ i' = .int .i64 k ∧ Below wo.heap.size wo wr ∧ (∀ j, j < k → ∀ o, s[j]? = some o → (o.tx == tx && isEnd o) = false)) (fun i' _ => i - (intOf i').toNat)
          case atStart => exact ⟨0, Nat.zero_le _, rfl, hb1, by omega⟩
          case round =>
            clear hb1 w1
            obtain ⟨k, hk, rfl, hb1, hno⟩ := hrel
            by_cases hlt2 : k < i
            · have hxr := HX2.out.below hb1 (Nat.le_refl _)
              obtain ⟨b', off', q, hA, _, hq, d0, d1, d2⟩ := hxr.at_ (k := k) (by omega)
              injection hA with hA
              injection hA with e1 e2
              subst e1; subst e2
              have hc0 := (hb1.cell (p := ⟨b, off + i * 3, none⟩) (by simpa using hbl)).trans c0
              have L0 := Later.cell hc0
              have M0 := Later.cell d0
              have M1 := Later.cell d1
              have M2 := Later.cell d2
              have HN2 : Hid ((q.tx == tx && isEnd q) = false → ∀ j, j < k + 1 → ∀ o, s[j]? = some o → (o.tx == tx && isEnd o) = false) := fun h => no_snoc (p := fun o => o.tx == tx && isEnd o) hq hno h
              have HT : Hid ((q.tx == tx && isEnd q) = true → validS s = false) := fun h => validS_bad (k := i) (by omega) (by rw [HG.out]; exact noEnd_false hlt2 hq h)
              clear hno hq d0 d1 d2 hc0 hxr
              have hki : (k : Int) < (n : Int) := by omega
              have hii : (i : Int) < (n : Int) := by omega
              obtain ⟨qx, qk, qi⟩ := q
              simp only at M0 M1 M2 HN2 HT
              cases h1 : (qx == tx)
              · have hs := Lib.hid (HN2.out (by simp [h1]))
                go_wp2_with fail
                refine region_later (by kernel_rfl) (by kernel_rfl) ?_
                repeat (go_big_quiet_step (fail))
                refine wpQuiet_nil ?_
                rintro _ ⟨u, rfl⟩
                have hbu := hb1.trans (u.2.mono hb1.size)
                go_wp2_with fail
                go_roundw
                case rel => exact ⟨k + 1, by omega, by go_num, hbu, hs.out⟩
                case measure => simp [intOf]; omega
              · obtain ⟨be, hbe⟩ : ∃ be, isEnd ⟨qx, qk, qi⟩ = be := ⟨_, rfl⟩
                have he' : ∀ u : Later wr, Calls Tryz.prog 53 #[.agg #[.int .i64 qx, .int .i64 qk, .int .i64 qi]] u.1 fun e w' => e = .returned (.bool be) ∧ Below u.1.heap.size u.1 w' := fun u => by
                  have := sends_any ⟨qx, qk, qi⟩ u.1; rw [hbe] at this; exact this
                have HE := Lib.hid he'
                have HBE := Lib.hid hbe
                have H1 := Lib.hid h1
                clear he' hbe
                cases be
                · have hs := Lib.hid (HN2.out (by rw [HBE.out]; simp))
                  go_wp2_with fail
                  refine region_later (by kernel_rfl) (by kernel_rfl) ?_
                  repeat (go_big_quiet_step ((go_at_call 53; exact later_call _ (HE.out _))))
                  refine wpQuiet_nil ?_
                  rintro _ ⟨u, rfl⟩
                  have hbu := hb1.trans (u.2.mono hb1.size)
                  go_wp2_with fail
                  go_roundw
                  case rel => exact ⟨k + 1, by omega, by go_num, hbu, hs.out⟩
                  case measure => simp [intOf]; omega
                · have hs := Lib.hid (HT.out (by rw [HBE.out, H1.out]; rfl))
                  go_wp2_with fail
                  refine region_later (by kernel_rfl) (by kernel_rfl) ?_
                  repeat (go_big_quiet_step ((go_at_call 53; exact later_call _ (HE.out _))))
                  refine wpQuiet_nil ?_
                  rintro _ ⟨u, rfl⟩
                  have hbu := hb.trans ((hb1.trans (u.2.mono hb1.size)).mono hb.size)
                  go_wp2_with fail
                  go_ret
                  exact ⟨ret_bool hs.out.symm, hbu⟩
            · have hq := Lib.hid (all_snoc HN.out (by rw [HG.out]; exact noEnd_true (fun j hj => hno j (by omega))))
              clear hno
              go_wp2_with fail
              go_roundw
              case rel => exact ⟨i + 1, by omega, by go_num, hb.trans (hb1.mono hb.size), hq.out⟩
              case measure => simp [intOf]; omega
      · have HE := Lib.hid (validS_end (s := s) (fun j hj => hno j (by omega)))
        clear hno
        go_wp2_with fail
        go_ret
        exact ⟨ret_bool (by rw [HE.out, hl]; simp; omega), hb⟩

theorem svalid'_any (A : Option Addr) (n c : Nat) (s : List OpV) (w : World) (hx : ROps w A n s) (hnc : n ≤ c) :
    Calls Tryz.prog 24 #[.slice A n c] w fun e w' => e = .returned (.bool (validS s)) ∧ Below w.heap.size w w' := svalid_any A n c s w hx
end Go.Proofs.YtkbclcgdkbhgdaaGreat
namespace Go.Proofs.YtkbclcgdkbhgdaaGreat
open Go.RowKit Go.BigFrame
set_option linter.unusedVariables false

/-- The reference finds at i and k that a transaction comes again. -/
def sserBad (s : List OpV) (i k : Nat) : Bool := match s[i]?, s[k]?, s[i + 1]? with | some a, some b, some c => (a.tx == b.tx) && (a.tx != c.tx) | _, _, _ => false
def isSerS (s : List OpV) : Bool := (List.range s.length).all fun i => (List.range s.length).all fun k => !(decide (i + 2 ≤ k)) || !sserBad s i k

theorem isSerS_false {s : List OpV} {i k : Nat} (hk : k < s.length) (hik : i + 2 ≤ k) (h : sserBad s i k = true) : isSerS s = false := by
  unfold isSerS
  rw [List.all_eq_false]
  refine ⟨i, List.mem_range.2 (by omega), ?_⟩
  have : ((List.range s.length).all fun k => !(decide (i + 2 ≤ k)) || !sserBad s i k) = false := by
    rw [List.all_eq_false]
    exact ⟨k, List.mem_range.2 hk, by rw [h]; simp; omega⟩
  rw [this]; simp
theorem isSerS_true {s : List OpV} (h : ∀ i k, k < s.length → i + 2 ≤ k → sserBad s i k = false) : isSerS s = true := by
  unfold isSerS
  rw [List.all_eq_true]
  intro i hi
  rw [List.all_eq_true]
  intro k hk
  by_cases hik : i + 2 ≤ k
  · rw [h i k (List.mem_range.1 hk) hik]; simp
  · simp [hik]
theorem isSerS_at {s : List OpV} (h : isSerS s = true) {i k : Nat} (hk : k < s.length) (hik : i + 2 ≤ k) : sserBad s i k = false := by
  cases hb : sserBad s i k
  · rfl
  · rw [isSerS_false hk hik hb] at h; cases h
/-- The two say the same. -/
theorem isSerS_eq (s : List OpV) : isSerS s = isSer s := by
  cases h : isSer s
  · unfold isSer at h
    rw [List.all_eq_false] at h
    obtain ⟨i, hi, hb⟩ := h
    have hi := List.mem_range.1 hi
    simp only [Bool.or_eq_true, beq_iff_eq, Bool.not_eq_true', not_or, Bool.not_eq_false] at hb
    obtain ⟨h0, hb⟩ := hb
    have e : s[i]? = some s[i] := List.getElem?_eq_getElem hi
    have e1 : s[i - 1]? = some (s[i - 1]'(by omega)) := List.getElem?_eq_getElem (by omega)
    unfold serBad at hb
    rw [e, e1] at hb
    simp only [Bool.and_eq_true, bne_iff_ne] at hb
    obtain ⟨hne, hh⟩ := hb
    unfold hasTx at hh
    rw [List.any_eq_true] at hh
    obtain ⟨p, hp, hpt⟩ := hh
    obtain ⟨j, hj⟩ := List.mem_iff_getElem?.1 hp
    rw [List.getElem?_take] at hj
    split at hj
    · rename_i hji
      have hpt : p.tx = s[i].tx := by simpa using hpt
      -- going back from i, the last place of this transaction
      cases hS : isSerS s
      · rfl
      · exfalso
        have key : ∀ d j q, j + 1 + d = i → s[j]? = some q → q.tx ≠ s[i].tx := by
          intro d
          induction d with
          | zero =>
            intro j q hjd hq
            obtain rfl : j = i - 1 := by omega
            rw [e1] at hq; injection hq with hq
            rw [← hq]; exact fun e => hne e.symm
          | succ d ih =>
            intro j q hjd hq ht
            have e2 : s[j + 1]? = some (s[j + 1]'(by omega)) := List.getElem?_eq_getElem (by omega)
            have h2 := ih (j + 1) _ (by omega) e2
            have h3 := isSerS_at hS (i := j) (k := i) hi (by omega)
            unfold sserBad at h3
            rw [hq, e, e2] at h3
            simp only [Bool.and_eq_false_iff, beq_eq_false_iff_ne, bne_eq_false_iff_eq] at h3
            rcases h3 with h3 | h3
            · exact h3 ht
            · exact h2 (by rw [← h3, ht])
        exact key (i - 1 - j) j p (by omega) hj hpt
    · cases hj
  · refine isSerS_true fun i k hk hik => ?_
    cases hb : sserBad s i k
    · rfl
    · exfalso
      have e : s[i]? = some (s[i]'(by omega)) := List.getElem?_eq_getElem (by omega)
      have e1 : s[k]? = some s[k] := List.getElem?_eq_getElem hk
      have e2 : s[i + 1]? = some (s[i + 1]'(by omega)) := List.getElem?_eq_getElem (by omega)
      unfold sserBad at hb
      rw [e, e1, e2] at hb
      simp only [Bool.and_eq_true, beq_iff_eq, bne_iff_ne] at hb
      exact hb.2 (ser_between h e e1 hb.1 (i + 1) _ (by omega) (by omega) e2).symm

theorem serS_row {s : List OpV} {i : Nat} (h : ∀ k, i + 2 ≤ k → k < s.length → sserBad s i k = false) : ∀ k, k < s.length → i + 2 ≤ k → sserBad s i k = false := fun k h1 h2 => h k h2 h1

end Go.Proofs.YtkbclcgdkbhgdaaGreat
namespace Go.Proofs.YtkbclcgdkbhgdaaGreat
open Go.RowKit Go.BigFrame
set_option linter.unusedVariables false

theorem txsOf_asc (s : List OpV) : (txsOf s).Pairwise (fun a b => a < b) := List.Pairwise.filter _ (by decide)
theorem vordI_perm {s : List OpV} {ts : List Int} (h : vordI s ts = true) : ts.Perm (txsOf s) := by
  unfold vordI at h
  have h : (ts.mergeSort fun x y => decide (x ≤ y)) = txsOf s := by simpa using h
  rw [← h]
  exact (List.mergeSort_perm ts _).symm
theorem vordI_of {s : List OpV} {ts : List Int} (hd : ts.Nodup) (hm : ∀ t, t ∈ ts ↔ t ∈ txsOf s) : vordI s ts = true := by
  have hp : (ts.mergeSort fun x y => decide (x ≤ y)).Perm ts := List.mergeSort_perm _ _
  have hs : (ts.mergeSort fun x y => decide (x ≤ y)).Pairwise (fun a b => decide (a ≤ b) = true) := List.pairwise_mergeSort (by intro a b c; simp; omega) (by intro a b; simp; omega) ts
  have hn : (ts.mergeSort fun x y => decide (x ≤ y)).Nodup := hp.nodup_iff.2 hd
  unfold vordI
  rw [beq_iff_eq]
  refine asc_unique ?_ (txsOf_asc s) (fun x => by rw [hp.mem_iff, hm])
  refine (hs.and hn).imp ?_
  intro a b ⟨h1, h2⟩
  have : a ≤ b := by simpa using h1
  omega
theorem vordS_known {s : List OpV} {ts : List Int} (h : vordS s ts = true) : ts.Nodup ∧ ∀ t, t ∈ ts ↔ t ∈ txsOf s := by
  unfold vordS at h
  simp only [Bool.and_eq_true, beq_iff_eq] at h
  obtain ⟨hl, ha⟩ := h
  rw [List.all_eq_true] at ha
  have hat : ∀ i (hi : i < ts.length), ts[i] ∈ txsOf s ∧ ts[i] ∉ ts.take i := fun i hi => by
    have := ha i (List.mem_range.2 hi)
    unfold vgood at this
    rw [List.getElem?_eq_getElem hi] at this
    simp only [Bool.and_eq_true, Bool.not_eq_true'] at this
    refine ⟨any_eq_iff.1 this.1, fun hm => ?_⟩
    rw [any_eq_iff.2 hm] at this
    cases this.2
  have hd : ts.Nodup := by
    unfold List.Nodup
    rw [List.pairwise_iff_getElem]
    intro i j hi hj hij e
    refine (hat j hj).2 ?_
    rw [← e]
    exact List.mem_of_getElem? (i := i) (by rw [List.getElem?_take, if_pos hij]; exact List.getElem?_eq_getElem hi)
  have hsub : ∀ t ∈ ts, t ∈ txsOf s := fun t ht => by
    obtain ⟨i, hi, e⟩ := List.getElem_of_mem ht
    rw [← e]; exact (hat i hi).1
  refine ⟨hd, fun t => ⟨hsub t, fun ht => ?_⟩⟩
  by_cases hc : t ∈ ts
  · exact hc
  · exfalso
    have := nodup_len (l1 := t :: ts) (l2 := txsOf s) (List.nodup_cons.2 ⟨hc, hd⟩) (by
      intro x hx
      rcases List.mem_cons.1 hx with e | hx
      · rw [e]; exact ht
      · exact hsub x hx)
    simp at this
    omega
/-- The two ask the same of an order. -/
theorem vord_eq (s : List OpV) (ts : List Int) : vordS s ts = vordI s ts := by
  cases h : vordI s ts
  · cases h2 : vordS s ts
    · rfl
    · obtain ⟨h3, h4⟩ := vordS_known h2
      rw [vordI_of h3 h4] at h; cases h
  · have hp := vordI_perm h
    have hd : ts.Nodup := hp.nodup_iff.2 (nodup_txsOf s)
    unfold vordS
    rw [hp.length_eq, beq_self_eq_true, Bool.true_and, List.all_eq_true]
    intro i hi
    have hi : i < ts.length := by rw [hp.length_eq]; exact List.mem_range.1 hi
    unfold vgood
    rw [List.getElem?_eq_getElem hi]
    simp only [Bool.and_eq_true, Bool.not_eq_true']
    refine ⟨any_eq_iff.2 (hp.mem_iff.1 (List.getElem_mem hi)), ?_⟩
    cases hc : ((ts.take i).any fun y => y == ts[i])
    · rfl
    · exfalso
      obtain ⟨j, hj⟩ := List.mem_iff_getElem?.1 (any_eq_iff.1 hc)
      rw [List.getElem?_take] at hj
      split at hj
      · rename_i hji
        unfold List.Nodup at hd
        rw [List.pairwise_iff_getElem] at hd
        obtain ⟨hjl, he⟩ := List.getElem?_eq_some_iff.1 hj
        exact hd j i hjl hi hji he
      · cases hj
theorem serialBy_eq (s : List OpV) (ts : List Int) : orNil (validS s && vordS s ts) (serialI s ts) = orNil (validS s && vordI s ts) (serialI s ts) := by rw [vord_eq]

theorem mem_opsOf {s : List OpV} {t : Int} {o : OpV} : o ∈ opsOf s t ↔ o ∈ s ∧ o.tx = t := by
  unfold opsOf
  rw [List.mem_filter]; simp
theorem opsOf_twice (s : List OpV) (t u : Int) : opsOf (opsOf s t) u = if t = u then opsOf s t else [] := by
  by_cases h : t = u
  · subst h
    rw [if_pos rfl]
    unfold opsOf
    rw [List.filter_filter]
    simp
  · rw [if_neg h]
    unfold opsOf
    rw [List.filter_filter, List.filter_eq_nil_iff]
    intro o _ e
    simp only [Bool.and_eq_true, beq_iff_eq] at e
    exact h (by rw [← e.1, ← e.2])
theorem opsOf_append (a b : List OpV) (t : Int) : opsOf (a ++ b) t = opsOf a t ++ opsOf b t := by unfold opsOf; rw [List.filter_append]
theorem opsOf_serialI {s : List OpV} {t : Int} : ∀ {ts : List Int}, ts.Nodup → opsOf (serialI s ts) t = if t ∈ ts then opsOf s t else [] := by
  intro ts
  induction ts with
  | nil => intro _; simp [serialI, opsOf]
  | cons x r ih =>
    intro hd
    rw [List.nodup_cons] at hd
    have e : serialI s (x :: r) = opsOf s x ++ serialI s r := by unfold serialI; rw [List.flatMap_cons]
    rw [e, opsOf_append, ih hd.2, opsOf_twice]
    by_cases h : x = t
    · subst h
      rw [if_pos rfl, if_neg hd.1, if_pos (by simp), List.append_nil]
    · rw [if_neg h, List.nil_append]
      have : (t ∈ x :: r) ↔ t ∈ r := by simp [List.mem_cons, Ne.symm h]
      simp only [this]
theorem opsOf_serial {s : List OpV} (hv : validS s = true) {ts : List Int} (hd : ts.Nodup) (hm : ∀ t, t ∈ ts ↔ t ∈ txsOf s) (t : Int) : opsOf (serialI s ts) t = opsOf s t := by
  rw [opsOf_serialI hd]
  by_cases h : t ∈ ts
  · rw [if_pos h]
  · rw [if_neg h]
    symm
    rw [List.eq_nil_iff_forall_not_mem]
    intro o ho
    obtain ⟨h1, h2⟩ := mem_opsOf.1 ho
    exact h ((hm t).2 ((mem_txsOf hv).2 ⟨o, h1, h2⟩))
theorem mem_serialI {s : List OpV} {ts : List Int} {o : OpV} : o ∈ serialI s ts ↔ o ∈ s ∧ o.tx ∈ ts := by
  unfold serialI
  rw [List.mem_flatMap]
  constructor
  · rintro ⟨t, ht, ho⟩
    obtain ⟨h1, h2⟩ := mem_opsOf.1 ho
    exact ⟨h1, by rw [h2]; exact ht⟩
  · rintro ⟨h1, h2⟩
    exact ⟨o.tx, h2, mem_opsOf.2 ⟨h1, rfl⟩⟩
theorem serialI_cons_out {o : OpV} {s : List OpV} : ∀ {ts : List Int}, o.tx ∉ ts → serialI (o :: s) ts = serialI s ts := by
  intro ts
  induction ts with
  | nil => intro _; rfl
  | cons x r ih =>
    intro h
    rw [List.mem_cons, not_or] at h
    have e : ∀ l : List OpV, serialI l (x :: r) = opsOf l x ++ serialI l r := fun l => by unfold serialI; rw [List.flatMap_cons]
    rw [e, e, ih h.2]
    congr 1
    unfold opsOf
    rw [List.filter_cons_of_neg (by simpa using h.1)]
theorem serialI_cons_len {o : OpV} {s : List OpV} : ∀ {ts : List Int}, ts.Nodup → (serialI (o :: s) ts).length ≤ 1 + (serialI s ts).length := by
  intro ts
  induction ts with
  | nil => intro _; simp [serialI]
  | cons x r ih =>
    intro hd
    rw [List.nodup_cons] at hd
    have e : ∀ l : List OpV, serialI l (x :: r) = opsOf l x ++ serialI l r := fun l => by unfold serialI; rw [List.flatMap_cons]
    rw [e, e, List.length_append, List.length_append]
    by_cases hx : o.tx = x
    · subst hx
      rw [serialI_cons_out hd.1]
      unfold opsOf
      rw [List.filter_cons_of_pos (by simp)]
      simp; omega
    · have := ih hd.2
      unfold opsOf
      rw [List.filter_cons_of_neg (by simpa using hx)]
      omega
theorem serialI_len {ts : List Int} (hd : ts.Nodup) : ∀ s : List OpV, (serialI s ts).length ≤ s.length := by
  intro s
  induction s with
  | nil =>
    have : serialI [] ts = [] := by unfold serialI; rw [List.flatMap_eq_nil_iff]; intro x _; rfl
    rw [this]; exact Nat.le_refl _
  | cons o r ih =>
    have := serialI_cons_len (o := o) (s := r) hd
    simp; omega

theorem pairwise_serialI {s : List OpV} {ts : List Int} {R : OpV → OpV → Prop} (h1 : ∀ t ∈ ts, (opsOf s t).Pairwise R) (h2 : ts.Pairwise fun t u => ∀ a ∈ opsOf s t, ∀ b ∈ opsOf s u, R a b) : (serialI s ts).Pairwise R := by
  unfold serialI
  rw [List.pairwise_flatMap]
  exact ⟨h1, h2⟩
/-- What is serial by an order is a schedule. -/
theorem validS_serial {s : List OpV} (hv : validS s = true) {ts : List Int} (hd : ts.Nodup) : validS (serialI s ts) = true := by
  rw [validS_iff] at *
  refine ⟨Nat.le_trans (serialI_len hd s) hv.1, fun o ho => hv.2.1 o (mem_serialI.1 ho).1, pairwise_serialI (fun t _ => List.Pairwise.sublist List.filter_sublist hv.2.2) ?_⟩
  refine hd.imp ?_
  intro t u htu a ha b hb _ e
  have h1 := (mem_opsOf.1 ha).2
  have h2 := (mem_opsOf.1 hb).2
  exact htu (by rw [← h1, ← h2, e])
theorem serialI_sorted {s : List OpV} {ts : List Int} {f : Int → Nat} (h : ts.Pairwise (fun a b => f a < f b)) : (serialI s ts).Pairwise (fun a b => f a.tx ≤ f b.tx) := by
  refine pairwise_serialI (fun t _ => ?_) (h.imp ?_)
  · refine List.Pairwise.imp_of_mem (R := fun _ _ => True) ?_ (List.pairwise_of_forall (fun _ _ => trivial))
    intro a b ha hb _
    rw [(mem_opsOf.1 ha).2, (mem_opsOf.1 hb).2]
    exact Nat.le_refl _
  · intro t u htu a ha b hb
    rw [(mem_opsOf.1 ha).2, (mem_opsOf.1 hb).2]
    omega
theorem sorted_inj {f : Int → Nat} : ∀ {ts : List Int}, ts.Pairwise (fun a b => f a < f b) → ∀ a ∈ ts, ∀ b ∈ ts, f a = f b → a = b := by
  intro ts h a ha b hb e
  obtain ⟨i, hi, rfl⟩ := List.getElem_of_mem ha
  obtain ⟨j, hj, rfl⟩ := List.getElem_of_mem hb
  rw [List.pairwise_iff_getElem] at h
  rcases Nat.lt_trichotomy i j with hij | hij | hij
  · have := h i j hi hj hij; omega
  · subst hij; rfl
  · have := h j i hj hi hij; omega
theorem isSer_sorted {l : List OpV} {f : Int → Nat} (h : l.Pairwise (fun a b => f a.tx ≤ f b.tx)) (inj : ∀ a ∈ l, ∀ b ∈ l, f a.tx = f b.tx → a.tx = b.tx) : isSer l = true := by
  rw [← isSerS_eq]
  refine isSerS_true fun i k hk hik => ?_
  have e : l[i]? = some (l[i]'(by omega)) := List.getElem?_eq_getElem (by omega)
  have e1 : l[k]? = some l[k] := List.getElem?_eq_getElem hk
  have e2 : l[i + 1]? = some (l[i + 1]'(by omega)) := List.getElem?_eq_getElem (by omega)
  unfold sserBad
  rw [e, e1, e2]
  cases hb : ((l[i]'(by omega)).tx == l[k].tx) && ((l[i]'(by omega)).tx != (l[i + 1]'(by omega)).tx)
  · exact hb
  · exfalso
    simp only [Bool.and_eq_true, beq_iff_eq, bne_iff_ne] at hb
    rw [List.pairwise_iff_getElem] at h
    have h1 := h i (i + 1) (by omega) (by omega) (by omega)
    have h2 := h (i + 1) k (by omega) hk (by omega)
    rw [← hb.1] at h2
    exact hb.2 (inj _ (List.getElem_mem _) _ (List.getElem_mem _) (by omega))
/-- The place of a transaction in an order. -/
def posN (ts : List Int) (t : Int) : Nat := ts.findIdx fun y => y == t
theorem pos_sorted {ts : List Int} (hd : ts.Nodup) : ts.Pairwise (fun a b => posN ts a < posN ts b) := by
  have hat : ∀ i (hi : i < ts.length), posN ts ts[i] = i := fun i hi => by
    unfold posN
    rw [List.findIdx_eq hi]
    refine ⟨by simp, fun j hj => ?_⟩
    rw [beq_eq_false_iff_ne]
    unfold List.Nodup at hd
    rw [List.pairwise_iff_getElem] at hd
    exact hd j i (by omega) hi hj
  rw [List.pairwise_iff_getElem]
  intro i j hi hj hij
  rw [hat i hi, hat j hj]
  exact hij
theorem isSer_serialI {s : List OpV} {ts : List Int} (hd : ts.Nodup) : isSer (serialI s ts) = true :=
  isSer_sorted (serialI_sorted (pos_sorted hd)) (fun a ha b hb e => sorted_inj (pos_sorted hd) _ (mem_serialI.1 ha).2 _ (mem_serialI.1 hb).2 e)

theorem srt_unique {f : Int → Nat} : ∀ {l1 l2 : List Int}, l1.Pairwise (fun a b => f a < f b) → l2.Pairwise (fun a b => f a < f b) → (∀ x, x ∈ l1 ↔ x ∈ l2) → l1 = l2 := by
  intro l1
  induction l1 with
  | nil =>
    intro l2 _ _ h
    cases l2 with
    | nil => rfl
    | cons y r => exact absurd ((h y).2 (by simp)) (by simp)
  | cons x r ih =>
    intro l2 h1 h2 h
    cases l2 with
    | nil => exact absurd ((h x).1 (by simp)) (by simp)
    | cons y q =>
      rw [List.pairwise_cons] at h1 h2
      have hxy : x = y := by
        rcases List.mem_cons.1 ((h x).1 (by simp)) with e | hx
        · exact e
        · rcases List.mem_cons.1 ((h y).2 (by simp)) with e | hy
          · exact e.symm
          · have := h2.1 x hx; have := h1.1 y hy; omega
      subst hxy
      rw [ih h1.2 h2.2 (fun z => ?_)]
      constructor
      · intro hz
        rcases List.mem_cons.1 ((h z).1 (by simp [hz])) with e | hq
        · have := h1.1 z hz; rw [e] at this; omega
        · exact hq
      · intro hz
        rcases List.mem_cons.1 ((h z).2 (by simp [hz])) with e | hq
        · have := h2.1 z hz; rw [e] at this; omega
        · exact hq
/-- The stamps of what is serial by an order are the order. -/
theorem stI_serial {s : List OpV} (hv : validS s = true) {ts : List Int} (hd : ts.Nodup) (hm : ∀ t, t ∈ ts ↔ t ∈ txsOf s) : stI (serialI s ts) = ts := by
  have hmem : ∀ t, t ∈ stI (serialI s ts) ↔ t ∈ ts := fun t => by
    rw [mem_stI]
    constructor
    · rintro ⟨o, ho, rfl⟩; exact (mem_serialI.1 ho).2
    · intro ht
      obtain ⟨o, ho, e⟩ := (mem_txsOf hv).1 ((hm t).1 ht)
      exact ⟨o, mem_serialI.2 ⟨ho, by rw [e]; exact ht⟩, e⟩
  refine srt_unique (f := stampN (serialI s ts)) (stI_sorted _) ?_ hmem
  have hsrt := serialI_sorted (s := s) (pos_sorted hd)
  refine List.Pairwise.imp_of_mem ?_ (pos_sorted hd)
  intro a b ha hb hab
  obtain ⟨oa, hoa, ea⟩ := mem_stI.1 ((hmem a).2 ha)
  obtain ⟨ob, hob, eb⟩ := mem_stI.1 ((hmem b).2 hb)
  obtain ⟨qa, h1, e1⟩ := stampN_at hoa
  obtain ⟨qb, h2, e2⟩ := stampN_at hob
  rw [ea] at h1 e1
  rw [eb] at h2 e2
  rcases Nat.lt_or_ge (stampN (serialI s ts) a) (stampN (serialI s ts) b) with hlt | hge
  · exact hlt
  · exfalso
    obtain ⟨l1, g1⟩ := List.getElem?_eq_some_iff.1 h1
    obtain ⟨l2, g2⟩ := List.getElem?_eq_some_iff.1 h2
    rcases Nat.eq_or_lt_of_le hge with heq | hlt
    · have : qa = qb := by
        rw [← g1, ← g2]; simp only [heq]
      rw [← e1, ← e2, this] at hab
      omega
    · rw [List.pairwise_iff_getElem] at hsrt
      have := hsrt _ _ l2 l1 hlt
      rw [g1, g2, e1, e2] at this
      omega
/-- A serial schedule is sorted by the stamps. -/
theorem ser_sorted {s : List OpV} (h : isSer s = true) : s.Pairwise (fun a b => stampN s a.tx ≤ stampN s b.tx) := by
  rw [List.pairwise_iff_getElem]
  intro i j hi hj hij
  have ei : s[i]? = some s[i] := List.getElem?_eq_getElem hi
  have ej : s[j]? = some s[j] := List.getElem?_eq_getElem hj
  rcases Nat.lt_or_ge (stampN s s[j].tx) (stampN s s[i].tx) with hlt | hge
  · exfalso
    obtain ⟨q, hq, e⟩ := stampN_at (List.mem_of_getElem? ej)
    have hle := stampN_le ei
    have := ser_between h hq ej e i s[i] (by omega) (by omega) ei
    rw [this, e] at hlt
    omega
  · exact hge
theorem ops_unique {f : Int → Nat} : ∀ {l1 l2 : List OpV}, l1.Pairwise (fun a b => f a.tx ≤ f b.tx) → l2.Pairwise (fun a b => f a.tx ≤ f b.tx) → (∀ a ∈ l1, ∀ b ∈ l1, f a.tx = f b.tx → a.tx = b.tx) → (∀ t, opsOf l1 t = opsOf l2 t) → l1 = l2 := by
  intro l1
  induction l1 with
  | nil =>
    intro l2 _ _ _ h
    cases l2 with
    | nil => rfl
    | cons y r =>
      exfalso
      have := h y.tx
      unfold opsOf at this
      rw [List.filter_cons_of_pos (by simp)] at this
      simp at this
  | cons x r ih =>
    intro l2 h1 h2 inj h
    have mem : ∀ o, o ∈ x :: r ↔ o ∈ l2 := fun o => by
      have : o ∈ opsOf (x :: r) o.tx ↔ o ∈ opsOf l2 o.tx := by rw [h o.tx]
      rw [mem_opsOf, mem_opsOf] at this
      simpa using this
    cases l2 with
    | nil => exact absurd ((mem x).1 (by simp)) (by simp)
    | cons y q =>
      have hy := (mem y).2 (by simp)
      have hx := (mem x).1 (by simp)
      rw [List.pairwise_cons] at h1 h2
      have hxy : x.tx = y.tx := by
        refine inj x (by simp) y hy ?_
        rcases List.mem_cons.1 hy with e | hy
        · rw [e]
        · rcases List.mem_cons.1 hx with e | hx
          · rw [e]
          · have := h1.1 y hy; have := h2.1 x hx; omega
      have h3 := h x.tx
      have e3 : opsOf (x :: r) x.tx = x :: opsOf r x.tx := by unfold opsOf; rw [List.filter_cons_of_pos (by simp)]
      have e4 : opsOf (y :: q) x.tx = y :: opsOf q x.tx := by unfold opsOf; rw [List.filter_cons_of_pos (by simp [hxy])]
      rw [e3, e4] at h3
      injection h3 with h4 h5
      subst h4
      rw [ih h1.2 h2.2 (fun a ha b hb => inj a (by simp [ha]) b (by simp [hb])) (fun t => ?_)]
      by_cases ht : x.tx = t
      · subst ht; exact h5
      · have := h t
        unfold opsOf at this
        rw [List.filter_cons_of_neg (by simpa using ht), List.filter_cons_of_neg (by simpa using ht)] at this
        exact this
theorem stI_nodup (s : List OpV) : (stI s).Nodup := (stI_sorted s).imp (fun h e => by rw [e] at h; omega)
theorem mem_stI_txs {s : List OpV} (hv : validS s = true) (t : Int) : t ∈ stI s ↔ t ∈ txsOf s := by rw [mem_stI, mem_txsOf hv]
theorem vordI_stI {s : List OpV} (hv : validS s = true) : vordI s (stI s) = true := vordI_of (stI_nodup s) (mem_stI_txs hv)
theorem stI_len {s : List OpV} (hv : validS s = true) : (stI s).length = (txsOf s).length := (vordI_perm (vordI_stI hv)).length_eq
/-- A schedule is serial exactly if it is serial by its stamps. -/
theorem serial_stamps {s : List OpV} (hv : validS s = true) : (serialI s (stI s) == s) = isSer s := by
  cases h : isSer s
  · rw [beq_eq_false_iff_ne]
    intro e
    rw [← e, isSer_serialI (stI_nodup s)] at h
    cases h
  · rw [beq_iff_eq]
    refine ops_unique (f := stampN s) (serialI_sorted (stI_sorted s)) (ser_sorted h) (fun a ha b hb e => ?_) (fun t => opsOf_serial hv (stI_nodup s) (mem_stI_txs hv) t)
    exact sorted_inj (stI_sorted s) _ (mem_serialI.1 ha).2 _ (mem_serialI.1 hb).2 e
end Go.Proofs.YtkbclcgdkbhgdaaGreat
namespace Go.Proofs.YtkbclcgdkbhgdaaGreat
open Go.RowKit
set_option linter.unusedVariables false

/-- t stands ahead of u by a conflict. -/
def Cf (L : List OpV) (t u : Int) : Prop := ∃ (i k : Nat) (a b : OpV), i < k ∧ L[i]? = some a ∧ L[k]? = some b ∧ confB a b = true ∧ a.tx = t ∧ b.tx = u
def Tx4 (L : List OpV) : Prop := ∀ o ∈ L, 0 ≤ o.tx ∧ o.tx ≤ 3
theorem grRow_bit {L : List OpV} (hr : Tx4 L) {i : Nat} {a : OpV} (ha : 0 ≤ a.tx ∧ a.tx ≤ 3) {rows : List Nat} (h4 : Rows4 rows) (q : Nat) {t u : Nat} (hq : i + 1 + q ≤ L.length) :
    ((grRow L i a rows q).getD t 0).testBit u = true ↔ (rows.getD t 0).testBit u = true ∨ ∃ (d : Nat) (b : OpV), d < q ∧ L[i + 1 + d]? = some b ∧ confB a b = true ∧ a.tx = t ∧ b.tx = u := by
  induction q with
  | zero =>
    rw [grRow_zero]
    constructor
    · exact .inl
    · rintro (h | ⟨d, b, hd, _⟩)
      · exact h
      · omega
  | succ q ih =>
    have ih := ih (by omega)
    have e : L[i + 1 + q]? = some (L[i + 1 + q]'(by omega)) := List.getElem?_eq_getElem (by omega)
    generalize L[i + 1 + q]'(by omega) = b at e
    have hb := hr b (List.mem_of_getElem? e)
    rw [grRow_succ e]
    unfold grStep
    have h4' := grRow_ok hr (i := i) (a := a) h4 q
    obtain ⟨T, hT⟩ := Int.eq_ofNat_of_zero_le ha.1
    obtain ⟨U, hU⟩ := Int.eq_ofNat_of_zero_le hb.1
    constructor
    · intro h
      split at h
      · rename_i hc
        rw [hT, hU, rowSet_bit h4' (by omega), Bool.or_eq_true, ih] at h
        rcases h with (h | ⟨d, b', hd, r⟩) | h
        · exact .inl h
        · exact .inr ⟨d, b', by omega, r⟩
        · simp only [Bool.and_eq_true, decide_eq_true_eq] at h
          exact .inr ⟨q, b, by omega, e, hc, by omega, by omega⟩
      · rcases ih.1 h with h | ⟨d, b', hd, r⟩
        · exact .inl h
        · exact .inr ⟨d, b', by omega, r⟩
    · intro h
      have old : (rows.getD t 0).testBit u = true ∨ (∃ (d : Nat) (b : OpV), d < q ∧ L[i + 1 + d]? = some b ∧ confB a b = true ∧ a.tx = t ∧ b.tx = u) ∨ (confB a b = true ∧ a.tx = t ∧ b.tx = u) := by
        rcases h with h | ⟨d, b', hd, h1, r⟩
        · exact .inl h
        · by_cases hdq : d = q
          · subst hdq
            rw [e] at h1
            injection h1 with h1
            subst h1
            exact .inr (.inr r)
          · exact .inr (.inl ⟨d, b', by omega, h1, r⟩)
      split
      · rw [hT, hU, rowSet_bit h4' (by omega), Bool.or_eq_true, ih]
        rcases old with h | h | ⟨_, h1, h2⟩
        · exact .inl (.inl h)
        · exact .inl (.inr h)
        · right
          simp only [Bool.and_eq_true, decide_eq_true_eq]
          omega
      · rename_i hc
        rw [ih]
        rcases old with h | h | ⟨h1, _⟩
        · exact .inl h
        · exact .inr h
        · exact absurd h1 hc
theorem grTo_bit {L : List OpV} (hr : Tx4 L) (m : Nat) (hm : m ≤ L.length) {t u : Nat} :
    ((grTo L m).getD t 0).testBit u = true ↔ ∃ (i k : Nat) (a b : OpV), i < m ∧ i < k ∧ L[i]? = some a ∧ L[k]? = some b ∧ confB a b = true ∧ a.tx = t ∧ b.tx = u := by
  induction m with
  | zero =>
    constructor
    · intro h
      exfalso
      have : ∀ t : Nat, ([0, 0, 0, 0] : List Nat).getD t 0 = 0 := by
        intro t
        rcases (by omega : t = 0 ∨ t = 1 ∨ t = 2 ∨ t = 3 ∨ 4 ≤ t) with rfl | rfl | rfl | rfl | h
        · rfl
        · rfl
        · rfl
        · rfl
        · rw [List.getD_eq_getElem?_getD, List.getElem?_eq_none (by simpa using h)]; rfl
      simp only [grTo] at h
      rw [this] at h
      simp at h
    · rintro ⟨i, k, a, b, h, _⟩
      omega
  | succ m ih =>
    have ih := ih (by omega)
    have e : L[m]? = some (L[m]'(by omega)) := List.getElem?_eq_getElem (by omega)
    generalize L[m]'(by omega) = a at e
    rw [grTo_succ e, grRow_bit hr (hr a (List.mem_of_getElem? e)) (grTo_ok hr m) _ (by omega), ih]
    constructor
    · rintro (⟨i, k, a', b, h1, r⟩ | ⟨d, b, hd, hb, r⟩)
      · exact ⟨i, k, a', b, by omega, r⟩
      · exact ⟨m, m + 1 + d, a, b, by omega, by omega, e, hb, r⟩
    · rintro ⟨i, k, a', b, h1, h2, h3, h4, r⟩
      by_cases hi : i = m
      · subst hi
        rw [e] at h3
        injection h3 with h3
        subst h3
        have hk := (List.getElem?_eq_some_iff.1 h4).1
        exact .inr ⟨k - (i + 1), b, by omega, by rw [show i + 1 + (k - (i + 1)) = k by omega]; exact h4, r⟩
      · exact .inl ⟨i, k, a', b, by omega, h2, h3, h4, r⟩
theorem grI_bit {L : List OpV} (hr : Tx4 L) {t u : Nat} : ((grI L).getD t 0).testBit u = true ↔ Cf L t u := by
  unfold grI
  rw [grTo_bit hr _ (Nat.le_refl _)]
  constructor
  · rintro ⟨i, k, a, b, _, r⟩
    exact ⟨i, k, a, b, r⟩
  · rintro ⟨i, k, a, b, h, h2, r⟩
    exact ⟨i, k, a, b, (List.getElem?_eq_some_iff.1 h2).1, h, h2, r⟩
theorem Cf.ne {L : List OpV} {t u : Int} (h : Cf L t u) : t ≠ u := by
  obtain ⟨i, k, a, b, _, _, _, hc, rfl, rfl⟩ := h
  unfold confB at hc
  simp only [Bool.and_eq_true, bne_iff_ne] at hc
  exact hc.1.1.1.1
theorem Cf.mem {L : List OpV} {t u : Int} (h : Cf L t u) : (∃ o ∈ L, o.tx = t) ∧ ∃ o ∈ L, o.tx = u := by
  obtain ⟨i, k, a, b, _, h1, h2, hc, rfl, rfl⟩ := h
  exact ⟨⟨a, List.mem_of_getElem? h1, rfl⟩, b, List.mem_of_getElem? h2, rfl⟩
theorem gr_edge {L : List OpV} (hr : Tx4 L) {t u : Int} (ht : 0 ≤ t) (hu : 0 ≤ u) : edgeB (grI L) t u = true ↔ Cf L t u := by
  obtain ⟨T, rfl⟩ := Int.eq_ofNat_of_zero_le ht
  obtain ⟨U, rfl⟩ := Int.eq_ofNat_of_zero_le hu
  unfold edgeB
  rw [Int.toNat_natCast, Int.toNat_natCast]
  exact grI_bit hr
theorem gr_diag {L : List OpV} (hr : Tx4 L) {t : Int} (ht : 0 ≤ t) : edgeB (grI L) t t = false := by
  cases h : edgeB (grI L) t t
  · rfl
  · exact absurd rfl ((gr_edge hr ht ht).1 h).ne

/-- Each set has one that none of it is ahead of. -/
def Srcs (list : List Int) (rows : List Nat) : Prop := ∀ S : List Int, S ≠ [] → (∀ x ∈ S, x ∈ list) → ∃ t ∈ S, ∀ v ∈ S, edgeB rows v t = false
theorem accB_pair {rows : List Nat} {p : List Int} : ∀ {pre : List Int}, accB rows pre p = true → p.Pairwise (fun a b => edgeB rows b a = false) ∧ ∀ a ∈ pre, ∀ b ∈ p, edgeB rows b a = false := by
  induction p with
  | nil => intro pre _; exact ⟨List.Pairwise.nil, by simp⟩
  | cons t r ih =>
    intro pre h
    simp only [accB, Bool.and_eq_true, Bool.not_eq_true'] at h
    obtain ⟨h1, h2⟩ := h
    obtain ⟨h3, h4⟩ := ih h2
    rw [List.any_eq_false] at h1
    refine ⟨List.pairwise_cons.2 ⟨fun b hb => h4 t (by simp) b hb, h3⟩, fun a ha b hb => ?_⟩
    rcases List.mem_cons.1 hb with rfl | hb
    · simpa using h1 a ha
    · exact h4 a (by simp [ha]) b hb
theorem accB_of {rows : List Nat} {p : List Int} : ∀ {pre : List Int}, p.Pairwise (fun a b => edgeB rows b a = false) → (∀ a ∈ pre, ∀ b ∈ p, edgeB rows b a = false) → accB rows pre p = true := by
  induction p with
  | nil => intro pre _ _; rfl
  | cons t r ih =>
    intro pre h1 h2
    obtain ⟨h3, h4⟩ := List.pairwise_cons.1 h1
    simp only [accB, Bool.and_eq_true, Bool.not_eq_true']
    refine ⟨?_, ih h4 fun a ha b hb => ?_⟩
    · rw [List.any_eq_false]
      intro a ha
      rw [h2 a ha t (by simp)]; simp
    · rcases List.mem_append.1 ha with ha | ha
      · exact h2 a ha b (by simp [hb])
      · rw [List.mem_singleton] at ha
        subst ha
        exact h3 b hb
theorem accB_iff {rows : List Nat} {p : List Int} : accB rows [] p = true ↔ p.Pairwise (fun a b => edgeB rows b a = false) :=
  ⟨fun h => (accB_pair h).1, fun h => accB_of h (by simp)⟩
theorem topF_ne' {list : List Int} {rows : List Nat} (hd : list.Nodup) (src : Srcs list rows) (m : Nat) :
    ∀ pre : List Int, pre.length + m = list.length → topF list rows m pre ≠ [] := by
  induction m with
  | zero => intro pre _; simp [topF]
  | succ m ih =>
    intro pre hl
    have hne : list.filter (fun x => !(pre.any fun y => y == x)) ≠ [] := by
      intro he
      rw [List.filter_eq_nil_iff] at he
      have : list.length ≤ pre.length := nodup_len hd fun x hx => by
        have := he x hx
        simp only [Bool.not_eq_true', Bool.not_eq_false] at this
        exact any_mem_iff.1 this
      omega
    obtain ⟨t, ht, hs⟩ := src _ hne (fun x hx => (List.mem_filter.1 hx).1)
    obtain ⟨htl, htp⟩ := List.mem_filter.1 ht
    have hcond : (!(pre.any fun y => y == t) && list.all (fun v => !edgeB rows v t || pre.any fun y => y == v)) = true := by
      rw [Bool.and_eq_true]
      refine ⟨htp, List.all_eq_true.2 fun v hv => ?_⟩
      cases hp : (pre.any fun y => y == v)
      · rw [hs v (List.mem_filter.2 ⟨hv, by rw [hp]; rfl⟩)]; rfl
      · simp
    simp only [topF]
    intro he
    rw [List.flatMap_eq_nil_iff] at he
    have := he t htl
    rw [if_pos hcond] at this
    exact ih (pre ++ [t]) (by simp; omega) this
/-- An order is there just where there are sources. -/
theorem ord_src {list : List Int} {rows : List Nat} (hd : list.Nodup) (hs : ∀ t ∈ list, edgeB rows t t = false) : ordI list rows ≠ [] ↔ Srcs list rows := by
  constructor
  · intro h S hne hsub
    obtain ⟨p, hp⟩ := List.exists_mem_of_ne_nil _ h
    unfold ordI at hp
    obtain ⟨hp1, hp2⟩ := List.mem_filter.1 hp
    obtain ⟨_, hall⟩ := permF_mem hd list.length (pre := []) (by simp) (by simp) (by simp) p hp1
    have hpw := accB_iff.1 hp2
    -- the first of the order that is of S
    cases hf : p.find? (fun t => S.any fun y => y == t) with
    | none =>
      exfalso
      obtain ⟨x, hx⟩ := List.exists_mem_of_ne_nil _ hne
      have := List.find?_eq_none.1 hf x (hall x (hsub x hx))
      exact this (any_mem_iff.2 hx)
    | some t =>
      obtain ⟨htS, pa, pb, hpe, has⟩ := List.find?_eq_some_iff_append.1 hf
      have htS : t ∈ S := any_mem_iff.1 htS
      refine ⟨t, htS, fun v hv => ?_⟩
      have hvp := hall v (hsub v hv)
      rw [hpe] at hvp hpw
      rcases List.mem_append.1 hvp with hva | hvb
      · have := has v hva
        rw [any_mem_iff.2 hv] at this
        cases this
      · rcases List.mem_cons.1 hvb with rfl | hvb
        · exact hs v (hsub v hv)
        · have h2 := (List.pairwise_append.1 hpw).2.1
          exact (List.pairwise_cons.1 h2).1 v hvb
  · intro h
    rw [ord_eq hd hs]
    exact topF_ne' hd h list.length [] (by simp)

/-! ### the orders of a schedule -/
def ordO (s : List OpV) : List (List Int) := ordI (txsOf (committed s)) (grI (committed s))
def ordOS (s : List OpV) : List (List Int) := topF (txsOf (committed s)) (grI (committed s)) (txsOf (committed s)).length []
theorem comm_sub {s : List OpV} {o : OpV} (h : o ∈ committed s) : o ∈ s := (List.mem_filter.1 h).1
theorem comm_tx4 {s : List OpV} (h : validS s = true) : Tx4 (committed s) := fun o ho => validS_tx3 h (comm_sub ho)
theorem txsOf_rng0 (s : List OpV) : ∀ t ∈ txsOf s, 0 ≤ t ∧ t ≤ 3 := fun t ht => by
  unfold txsOf at ht
  have := (List.mem_filter.1 ht).1
  simp at this
  omega
theorem ordO_diag {s : List OpV} (h : validS s = true) : ∀ t ∈ txsOf (committed s), edgeB (grI (committed s)) t t = false := fun t ht => gr_diag (comm_tx4 h) (txsOf_rng0 _ t ht).1
theorem ordO_eq {s : List OpV} (h : validS s = true) : ordO s = ordOS s := ord_eq (nodup_txsOf _) (ordO_diag h)
theorem ordO_src {s : List OpV} (h : validS s = true) : ordO s ≠ [] ↔ Srcs (txsOf (committed s)) (grI (committed s)) := ord_src (nodup_txsOf _) (ordO_diag h)
end Go.Proofs.YtkbclcgdkbhgdaaGreat
namespace Go.Proofs.YtkbclcgdkbhgdaaGreat
open Go.RowKit Go.BigFrame
set_option linter.unusedVariables false

/-- What lies while the pairs are found. -/
structure GrInv (w : World) (bm : Nat) (C : Option Addr) (m : Nat) (L : List OpV) (R : List Nat) (N : Nat) (wr : World) : Prop where
  below : Below w.heap.size w wr
  map : ∃ D, wr.ownsMap Tryz.prog 88 (plainElem (H := Unit) Tryz.prog 4) bm N D ∧ MapIs D R
  list : ROps wr C m L
theorem ownsMap_block {w w' : World} {b n : Nat} {D : DataW Unit} (h : w.ownsMap Tryz.prog 88 (plainElem (H := Unit) Tryz.prog 4) b n D) (hk : w'.heap[b]? = w.heap[b]?) : w'.ownsMap Tryz.prog 88 (plainElem (H := Unit) Tryz.prog 4) b n D := by
  obtain ⟨es, clock, hb, F, hs, hD⟩ := h
  exact ⟨es, clock, hk.trans hb, F, hs, hD⟩
theorem GrInv.lt {w : World} {bm : Nat} {C : Option Addr} {m : Nat} {L : List OpV} {R : List Nat} {N : Nat} {wr : World} (h : GrInv w bm C m L R N wr) : bm < wr.heap.size := by
  obtain ⟨D, h1, _⟩ := h.map
  exact h1.lt
theorem GrInv.later {w : World} {bm : Nat} {C : Option Addr} {m : Nat} {L : List OpV} {R : List Nat} {N : Nat} {wr W : World} (h : GrInv w bm C m L R N wr) (hb : Below wr.heap.size wr W) : GrInv w bm C m L R N W := by
  obtain ⟨D, h1, h2⟩ := h.map
  exact ⟨h.below.trans (hb.mono h.below.size), ⟨D, ownsMap_block h1 (hb.block bm h1.lt), h2⟩, h.list.below hb (Nat.le_refl _)⟩
theorem GrInv.more {w : World} {bm : Nat} {C : Option Addr} {m : Nat} {L : List OpV} {R : List Nat} {N N' : Nat} {wr : World} (h : GrInv w bm C m L R N wr) (hn : N ≤ N') : GrInv w bm C m L R N' wr := by
  obtain ⟨D, h1, h2⟩ := h.map
  exact ⟨h.below, ⟨D, h1.mono hn, h2⟩, h.list⟩
theorem ROps.grown_ {w w' : World} {A : Option Addr} {n b : Nat} {xs : List OpV} (h : ROps w A n xs) (hg : w.grownBy w' (some b)) (hne : ∀ ad, A = some ad → ad.block ≠ b) : ROps w' A n xs := by
  obtain ⟨h1, h2, h3⟩ := h
  refine ⟨h1, h2, fun hn => ?_⟩
  obtain ⟨c, off, hA, hlt, hc⟩ := h3 hn
  have hk : w'.heap[c]? = w.heap[c]? := hg.block c hlt (fun e => hne _ hA (by injection e))
  have hs := World.grownBy.size hg
  have ce : ∀ o : Nat, w'.cell? ⟨c, o, none⟩ = w.cell? ⟨c, o, none⟩ := fun o => World.cell?_of_block (w := w) (a := ⟨c, o, none⟩) hk
  refine ⟨c, off, hA, by omega, fun i o ho => ?_⟩
  obtain ⟨c0, c1, c2⟩ := hc i o ho
  exact ⟨(ce _).trans c0, (ce _).trans c1, (ce _).trans c2⟩

/-- While the rows are filled: those pairs that have come stand in the rows. -/
structure GrFill (w : World) (bm r g N : Nat) (R : List Nat) (left : Lit → Bool) (cnt : Nat) (wr : World) : Prop where
  below : Below w.heap.size w wr
  rng : ∃ D, wr.ranges Tryz.prog 88 (plainElem (H := Unit) Tryz.prog 4) bm r N D left cnt ∧ MapIs D R ∧ ∀ kl, left kl = true → Maps.has D kl = true
  row : ∃ O, Rows4 O ∧ RowIs wr g 3 (intCells (rowsI O) ++ []) ∧ ∀ t u : Nat, t < 4 → u < 4 → (O.getD t 0).testBit u = ((R.getD t 0).testBit u && !left (gplit t u))
  ne : r ≠ g ∧ bm ≠ g ∧ w.heap.size ≤ g ∧ w.heap.size ≤ r
theorem GrFill.later {w : World} {bm r g N : Nat} {R : List Nat} {left : Lit → Bool} {cnt : Nat} {wr W : World} (h : GrFill w bm r g N R left cnt wr) (hb : Below wr.heap.size wr W) : GrFill w bm r g N R left cnt W := by
  obtain ⟨h1, ⟨D, h2, h3⟩, ⟨O, h5, h6, h7⟩, h8⟩ := h
  exact ⟨h1.trans (hb.mono h1.size), ⟨D, h2.kept (grown_below hb (row := none)) (by simp) (by simp), h3⟩, ⟨O, h5, h6.below hb (Nat.le_refl _), h7⟩, h8⟩
theorem sameKey_gp {t u t' u' : Nat} (ht : t < 4) (hu : u < 4) (ht' : t' < 4) (hu' : u' < 4) : (gplit t' u').sameKey (gplit t u) = (decide (t' = t) && decide (u' = u)) := by
  by_cases h : t' = t ∧ u' = u
  · obtain ⟨rfl, rfl⟩ := h
    rw [WideAt.sameKey_self (gplit_key _ _)]; simp
  · rw [Maps.sameKey_ne (fun e => h ?_)]
    · have : (decide (t' = t) && decide (u' = u)) = false := by simpa using h
      exact this.symm
    · obtain ⟨h1, h2⟩ := gplit_inj (wf_small (by omega)) (wf_small (by omega)) (wf_small (by omega)) (wf_small (by omega)) e
      exact ⟨by omega, by omega⟩

theorem GrFill.step {w wi w1 V : World} {bm r g N : Nat} {R O : List Nat} {left : Lit → Bool} {cnt1 : Nat} {D : DataW Unit} {T U : Nat} (hb : Below w.heap.size w wi) (hmi : MapIs D R) (hlh : ∀ kl, left kl = true → Maps.has D kl = true)
    (h4 : Rows4 O) (hrow : RowIs wi g 3 (intCells (rowsI O) ++ [])) (hbit : ∀ t u : Nat, t < 4 → u < 4 → (O.getD t 0).testBit u = ((R.getD t 0).testBit u && !left (gplit t u)))
    (hne : r ≠ g ∧ bm ≠ g ∧ w.heap.size ≤ g ∧ w.heap.size ≤ r) (hT : T < 4) (hU : U < 4) (hR : (R.getD T 0).testBit U = true)
    (hrg1 : w1.ranges Tryz.prog 88 (plainElem (H := Unit) Tryz.prog 4) bm r N D (fun z => left z && !z.sameKey (gplit T U)) cnt1) (hg1 : wi.grownBy w1 (some r)) (hV : Below w1.heap.size w1 V) (v : Int) (hv : v = ((O.getD T 0 ||| 1 <<< U : Nat) : Int)) :
    GrFill w bm r g N R (fun z => left z && !z.sameKey (gplit T U)) cnt1 (V.setCell ⟨g, T, none⟩ (.int .i64 v)) := by
  have hlt := hrow.lt
  have hz1 := World.grownBy.size hg1
  have hz2 := hV.size
  have hrow1 : RowIs w1 g 3 (intCells (rowsI O) ++ []) := (hg1.block g hlt (by intro e; injection e with e; exact hne.1 e.symm)).trans hrow
  have hrowV := hrow1.below hV (Nat.le_refl _)
  have hs := row_setInt (v := v) (k := T) hrowV (by simp [rowsI, h4.1]; omega)
  rw [hv, ← Int.toNat_natCast U, ← rowsI_set] at hs
  have hgs : V.grownBy (V.setCell ⟨g, T, none⟩ (.int .i64 v)) (some g) := grown_set
  refine ⟨?_, ⟨D, (hrg1.kept (grown_below hV (row := none)) (by simp) (by simp)).kept hgs (by intro e; injection e with e; exact hne.2.1 e) (by intro e; injection e with e; exact hne.1 e), hmi, fun kl hk => hlh kl (by simp only [Bool.and_eq_true] at hk; exact hk.1)⟩, ⟨rowSet O T U, rowSet_ok h4 (by omega), by rw [hv]; exact hs, fun t u ht hu => ?_⟩, hne⟩
  · have h1 : Below w.heap.size w w1 := hb.grown hg1 hb.size (fun k e => by cases e; exact hne.2.2.2)
    exact (h1.trans (hV.mono h1.size)).setCell (by simpa using hne.2.2.1) _
  · rw [rowSet_bit h4 (by omega), hbit t u ht hu, sameKey_gp hT hU ht hu]
    by_cases e : t = T ∧ u = U
    · obtain ⟨rfl, rfl⟩ := e
      rw [hR]; simp
    · have : (decide (t = T) && decide (u = U)) = false := by simpa using e
      rw [this]; simp

set_option maxRecDepth 100000 in
set_option maxHeartbeats 4000000 in
theorem graphOf_any (A : Option Addr) (n c : Nat) (s : List OpV) (w : World) (hx : ROps w A n s) (hv : validS s = true) :
    Calls Tryz.prog 70 #[.slice A n c] w (RetInts w (rowsI (grI (committed s)))) := by
  have hn := hx.2.1
  have hl := hx.1
  have hmm := @run_makeMap Tryz.prog
  obtain ⟨i0, hi, hz0, hz1, hz2⟩ := info_parts intInfo
  have HX := Lib.hid hx
  have HV := Lib.hid hv
  have hb0 : Below w.heap.size w (w.alloc (.map #[] 0)) := (Below.refl _ w).alloc (Nat.le_refl _) _
  have HM0 : Hid ((w.alloc (.map #[] 0)).ownsMap Tryz.prog 88 (plainElem (H := Unit) Tryz.prog 4) w.heap.size 0 (.map [])) := World.ownsMap_made w _ _ _
  have HC := Lib.hid (committedOf_any A n c s (w.alloc (.map #[] 0)) (hx.below hb0 (Nat.le_refl _)))
  have HB0 := Lib.hid hb0
  clear hx hv hb0
  go_enter Tryz.func70, Tryz.ntmps70
  go_wp2_with fail
  refine HC.out.mono ?_
  rintro e w1 ⟨C, cc, rfl, hcc, hfr, hb1⟩
  clear hmm
  obtain ⟨L, hL⟩ : ∃ L, committed s = L := ⟨_, rfl⟩
  have hCb : ∀ ad, C = some ad → ad.block ≠ w.heap.size := fun ad had => by
    obtain ⟨b, cur, e, h1, _, _⟩ := hfr.2 ad had
    simp at h1
    rw [e]; simp only; omega
  have hR3 : ∀ o ∈ L, 0 ≤ o.tx ∧ o.tx ≤ 3 := fun o ho => by
    rw [← hL] at ho
    exact validS_tx3 HV.out (List.mem_filter.1 ho).1
  have h16 : L.length ≤ 16 := by
    rw [← hL]
    refine Nat.le_trans (List.length_filter_le _ _) ?_
    have := HV.out
    unfold validS at this
    simp only [Bool.and_eq_true, decide_eq_true_eq] at this
    exact this.1
  have HST : Hid (GrInv w w.heap.size C L.length L (grTo L 0) 0 w1) := by
    refine ⟨HB0.out.trans (hb1.mono HB0.out.size), ⟨_, ownsMap_block HM0.out (hb1.block w.heap.size (by simp)), MapIs.empty⟩, ?_⟩
    rw [← hL]; exact hfr.1
  have HCB := Lib.hid hCb
  have HR3 := Lib.hid hR3
  have HGI : Hid (grI (committed s) = grTo L L.length) := by show _ = _; rw [hL]; rfl
  rw [hL] at hcc ⊢
  obtain ⟨m, hm⟩ : ∃ m, L.length = m := ⟨_, rfl⟩
  rw [hm] at HST HGI hcc h16 ⊢
  have HLEN := Lib.hid hm
  clear hfr hb1 hCb hR3 hL HC HM0 hm
  go_wp2_with fail
  go_loopw [16] (fun i wr => ∃ k : Nat, k ≤ m ∧ i = .int .i64 k ∧ GrInv w w.heap.size C m L (grTo L k) (16 * k) wr) (fun i _ => m - (intOf i).toNat)
  case atStart => exact ⟨0, Nat.zero_le _, rfl, HST.out⟩
  case round =>
    clear HST
    obtain ⟨wo, rfl⟩ : ∃ wo : World, wo = wr := ⟨_, rfl⟩
    obtain ⟨k, hk, rfl, hinv⟩ := hrel
    have HINV := Lib.hid hinv
    by_cases hlt : k < m
    · obtain ⟨b, off, a, hCe, hbl, ho, c0, c1, c2⟩ := HINV.out.list.at_ hlt
      subst hCe
      have har := HR3.out a (List.mem_of_getElem? ho)
      have HGS := Lib.hid (grTo_succ ho)
      obtain ⟨at_, ak, ai⟩ := a
      simp only at c0 c1 c2 har
      obtain ⟨M, hM⟩ : ∃ M : Nat, M = m - (k + 1) := ⟨_, rfl⟩
      have hMi : (m : Int) - ((k : Int) + 1) = (M : Int) := by omega
      have hjw : IntKind.i64.wrap ((k : Int) + 1) = (k : Int) + 1 := IntWalk.i64_in _ (by omega)
      have hjt : ((k : Int) + 1).toNat = k + 1 := by omega
      have HHO := Lib.hid ho
      have HHM := Lib.hid hM
      clear hinv ho hM
      by_cases hkc : k + 1 = cc
      · obtain rfl : m = k + 1 := by omega
        subst hkc
        have hfin : ∀ W, Below wo.heap.size wo W → GrInv w w.heap.size (some ⟨b, off, none⟩) (k + 1) L (grTo L (k + 1)) (16 * (k + 1)) W := fun W hW => by
          rw [HGS.out, HLEN.out, Nat.sub_self, grRow_zero]
          exact (HINV.out.later hW).more (by omega)
        have HN := Lib.hid hfin
        clear hfin
        go_wp2_with fail
        have hba : Below wo.heap.size wo (wo.alloc (.cells #[.int .i64 at_, .int .i64 ak, .int .i64 ai] 46)) := (Below.refl _ _).alloc (Nat.le_refl _) _
        go_loopw [26] (fun i wr2 => i = .int .i64 0 ∧ Below wo.heap.size wo wr2) (fun _ _ => 0)
        case atStart => exact ⟨rfl, hba⟩
        case round =>
          obtain ⟨rfl, hb2⟩ := hrel
          go_wp2_with fail
          go_roundw
          case rel => exact ⟨k + 1, by omega, by go_num, HN.out _ hb2⟩
          case measure => simp [intOf] <;> omega
      · have hjc2 : ¬ ((k : Int) + 1 = (cc : Int)) := by omega
        have hjc3 : ¬ (cc ≤ k + 1) := by omega
        have hjm : k + 1 ≤ m := by omega
        go_wp2_with fail
        have hwas : (wo.alloc (.cells #[.int .i64 at_, .int .i64 ak, .int .i64 ai] 46)).heap.size = wo.heap.size + 1 := by simp
        have hbox : ∀ i v, (#[Value.int .i64 at_, .int .i64 ak, .int .i64 ai] : Array Value)[i]? = some v → (wo.alloc (.cells #[.int .i64 at_, .int .i64 ak, .int .i64 ai] 46)).cell? ⟨wo.heap.size, i, none⟩ = some v := fun i v h => box_at _ _ _ _ _ h
        have hlt0 := HINV.out.lt
        have HW1 : Hid (GrInv w w.heap.size (some ⟨b, off, none⟩) m L (grTo L k) (16 * k) (wo.alloc (.cells #[.int .i64 at_, .int .i64 ak, .int .i64 ai] 46))) := HINV.out.later ((Below.refl _ _).alloc (Nat.le_refl _) _)
        obtain ⟨wa, hwa⟩ : ∃ wa, wo.alloc (.cells #[.int .i64 at_, .int .i64 ak, .int .i64 ai] 46) = wa := ⟨_, rfl⟩
        rw [hwa] at hwas hbox HW1 ⊢
        have a0 := hbox 0 _ rfl
        have a1 := hbox 1 _ rfl
        have a2 := hbox 2 _ rfl
        clear hbox hwa c0 c1 c2
        go_loopw [26] (fun i wr2 => ∃ q : Nat, q ≤ m - (k + 1) ∧ i = .int .i64 q ∧ wa.grownBy wr2 (some w.heap.size) ∧ GrInv w w.heap.size (some ⟨b, off, none⟩) m L (grRow L k ⟨at_, ak, ai⟩ (grTo L k) q) (16 * k + q) wr2) (fun i _ => m - (k + 1) - (intOf i).toNat)
        case atStart => exact ⟨0, Nat.zero_le _, rfl, World.grownBy.refl _ _, HW1.out⟩
        case round =>
          clear HW1
          obtain ⟨wi, rfl⟩ : ∃ wi : World, wi = wr := ⟨_, rfl⟩
          obtain ⟨q, hq, rfl, hgr, hinv2⟩ := hrel
          have HI2 := Lib.hid hinv2
          have HGR := Lib.hid hgr
          by_cases hlq : q < m - (k + 1)
          · obtain ⟨b', off', p, hCe, hbl2, hp, d0, d1, d2⟩ := hinv2.list.at_ (k := k + 1 + q) (by omega)
            injection hCe with hCe
            injection hCe with q1 q2 _
            subst q1; subst q2
            have hpr := HR3.out p (List.mem_of_getElem? hp)
            have HGR2 := Lib.hid (grRow_succ (a := ⟨at_, ak, ai⟩) (rows := grTo L k) hp)
            obtain ⟨pt, pk, pit⟩ := p
            simp only at d0 d1 d2 hpr
            have eo : off + (k + 1 + q) * 3 = off + (k + 1) * 3 + q * 3 := by omega
            rw [eo] at d0 d1 d2
            have e0 := (cell_grown hgr (p := ⟨wo.heap.size, 0, none⟩) (by simp; omega) (by simp; omega)).trans a0
            have e1 := (cell_grown hgr (p := ⟨wo.heap.size, 1, none⟩) (by simp; omega) (by simp; omega)).trans a1
            have e2 := (cell_grown hgr (p := ⟨wo.heap.size, 2, none⟩) (by simp; omega) (by simp; omega)).trans a2
            have hbI := hinv2.lt
            obtain ⟨wb, hwb⟩ : ∃ wb, wi.alloc (.cells #[.int .i64 pt, .int .i64 pk, .int .i64 pit] 46) = wb := ⟨_, rfl⟩
            have hbb : Below wi.heap.size wi wb := by rw [← hwb]; exact (Below.refl _ _).alloc (Nat.le_refl _) _
            have hb0x : ∀ i v, (#[Value.int .i64 pt, .int .i64 pk, .int .i64 pit] : Array Value)[i]? = some v → wb.cell? ⟨wi.heap.size, i, none⟩ = some v := fun i v h => by rw [← hwb]; exact box_at _ _ _ _ _ h
            have hwbs : wb.heap.size = wi.heap.size + 1 := by rw [← hwb]; simp
            have p0 := hb0x 0 _ rfl
            have p1 := hb0x 1 _ rfl
            have p2 := hb0x 2 _ rfl
            have hwoi : wo.heap.size < wi.heap.size := by have := World.grownBy.size hgr; omega
            have f0 := (hbb.cell (p := ⟨wo.heap.size, 0, none⟩) hwoi).trans e0
            have f1 := (hbb.cell (p := ⟨wo.heap.size, 1, none⟩) hwoi).trans e1
            have f2 := (hbb.cell (p := ⟨wo.heap.size, 2, none⟩) hwoi).trans e2
            obtain ⟨cb, hcb⟩ : ∃ cb, confB ⟨at_, ak, ai⟩ ⟨pt, pk, pit⟩ = cb := ⟨_, rfl⟩
            have hcf : Calls Tryz.prog 87 #[.agg #[.int .i64 at_, .int .i64 ak, .int .i64 ai], .agg #[.int .i64 pt, .int .i64 pk, .int .i64 pit]] wb fun e w' => e = .returned (.bool cb) ∧ Below wb.heap.size wb w' := by
              have := conflicts_any ⟨at_, ak, ai⟩ ⟨pt, pk, pit⟩ wb; rw [hcb] at this; exact this
            have HCF := Lib.hid hcf
            have hst : grRow L k ⟨at_, ak, ai⟩ (grTo L k) (q + 1) = if cb then rowSet (grRow L k ⟨at_, ak, ai⟩ (grTo L k) q) at_ pt else grRow L k ⟨at_, ak, ai⟩ (grTo L k) q := by
              rw [HGR2.out]; unfold grStep; rw [hcb]
            have HST := Lib.hid hst
            have HOK : Hid (Rows4 (grRow L k ⟨at_, ak, ai⟩ (grTo L k) q)) := grRow_ok HR3.out (grTo_ok HR3.out k) q
            have HWB := Lib.hid hwb
            have HBB := Lib.hid hbb
            clear hinv2 hgr hp hb0x hcb hcf hst HGR2 hwb eo
            have lq : (q : Int) < ((m - (k + 1) : Nat) : Int) := by omega
            go_wp2_with fail
            rw [HWB.out]
            clear d0 d1 d2 e0 e1 e2
            refine HCF.out.mono ?_
            rintro e w3 ⟨rfl, hb3⟩
            have hb03 : Below wi.heap.size wi w3 := HBB.out.trans (hb3.mono HBB.out.size)
            have HI3 := Lib.hid (HI2.out.later hb03)
            have HG3 : Hid (wa.grownBy w3 (some w.heap.size)) := HGR.out.trans (grown_below hb03)
            cases cb
            · clear f0 f1 f2 p0 p1 p2
              go_wp2_with fail
              go_roundw
              case rel => exact ⟨q + 1, by omega, by go_num, HG3.out, by rw [HST.out, if_neg (by simp)]; exact HI3.out.more (by omega)⟩
              case measure => simp [intOf]; omega
            · have g0 := (hb3.cell (p := ⟨wo.heap.size, 0, none⟩) (by simp; omega)).trans f0
              have g1 := (hb3.cell (p := ⟨wi.heap.size, 0, none⟩) (by simp; omega)).trans p0
              obtain ⟨D3, hown3, hmi3⟩ := HI3.out.map
              clear f0 f1 f2 p0 p1 p2
              go_wp2_with (at_mapUpdate; refine wpList_mapUpdate_own _ rfl _ _ _ 86 rfl 88 4 gpkeyed Tryz.underlying86 (plainElem (H := Unit) Tryz.prog 4) w.heap.size (16 * k + q) D3 rfl hown3 (by unfold maxLen; omega) _ _ (gplit at_ pt) rfl rfl (gpkey (wf_small har) (wf_small hpr)) (.lit (.bool true)) [] (plainElem_bool Tryz.underlying4 true) ?_; intro w4 hown4 hg4)
              have hn : GrInv w w.heap.size (some ⟨b, off, none⟩) m L (grRow L k ⟨at_, ak, ai⟩ (grTo L k) (q + 1)) (16 * k + (q + 1)) w4 := by
                refine ⟨HI3.out.below.grown hg4 HI3.out.below.size (fun k e => by cases e; exact Nat.le_refl _), ⟨_, hown4, ?_⟩, HI3.out.list.grown_ hg4 HCB.out⟩
                rw [HST.out, if_pos (by trivial)]
                exact hmi3.put HOK.out har hpr _
              have HN := Lib.hid hn
              have HG4 := Lib.hid (HG3.out.trans hg4)
              clear hn hown3 hmi3 hown4 hg4 g0 g1
              go_wp2_with fail
              go_roundw
              case rel => exact ⟨q + 1, by omega, by go_num, HG4.out, HN.out⟩
              case measure => simp [intOf]; omega
          · have hfin : GrInv w w.heap.size (some ⟨b, off, none⟩) m L (grTo L (k + 1)) (16 * (k + 1)) wi := by
              rw [HGS.out, HLEN.out]
              have : q = m - (k + 1) := by omega
              subst this
              exact HI2.out.more (by omega)
            have HN := Lib.hid hfin
            clear hfin hinv2 hgr
            go_wp2_with fail
            go_roundw
            case rel => exact ⟨k + 1, by omega, by go_num, HN.out⟩
            case measure => simp [intOf]; omega
    · obtain rfl : k = m := by omega
      obtain ⟨D, hown, hmi⟩ := HINV.out.map
      have HMI := Lib.hid hmi
      have hbs := HINV.out.below.size
      have hlt0 := HINV.out.lt
      go_wp2_with (first | (at_make; refine wpList_make_full _ rfl _ _ 32 rfl wo.heap.size 3 i0 _ 1 Tryz.underlying32 hi hz0 hz1 .i64 .i64 _ _ 4 rfl rfl rfl rfl (by rw [hz2]; omega) (by unfold maxLen; omega) (Nat.le_refl _) ?_; intro w2 hown2 hg2) | (at_range; refine wpList_range_own _ rfl _ 86 rfl 88 4 gpkeyed Tryz.underlying86 (plainElem (H := Unit) Tryz.prog 4) w.heap.size (16 * k) D rfl (ownsMap_block hown (hg2.block w.heap.size hlt0 (by simp))) ?_; intro w0 hrg0 hg0 hs0))
      have hbw2 : Below wo.heap.size wo w2 := ⟨hg2.os, hg2.tape, hg2.output, hg2.size, fun k hk => hg2.block k hk (by simp)⟩
      have hrow : RowIs w2 wo.heap.size 3 (intCells (rowsI [0, 0, 0, 0]) ++ []) := by
        rcases hown2.2 with ⟨h1, _⟩ | ⟨g, cap, cur, h1, h2, h3, h4, h5, h6, h7⟩
        · cases h1
        · injection h1 with ha hb hc
          injection ha with ha
          injection ha with ha
          subst ha; subst hc
          unfold RowIs
          rw [h3]
          congr 2
          apply Array.ext'
          rw [List.take_of_length_le (by simpa using Nat.le_of_eq h6)] at h7
          rw [h7, made_ints]
          rfl
      have hown2m := ownsMap_block hown (hbw2.block w.heap.size hlt0)
      have HROW := Lib.hid hrow
      have HB2 := Lib.hid (HINV.out.below.trans (hbw2.mono HINV.out.below.size))
      have hz2 := hbw2.size
      have hgl := hrow.lt
      clear hown2 hg2 hbw2 hrow hown HINV
      try go_frame
      have hb20 : Below w2.heap.size w2 w0 := ⟨hg0.os, hg0.tape, hg0.output, hg0.size, fun k hk => hg0.block k hk (by simp)⟩
      have HST : Hid (GrFill w w.heap.size w2.heap.size wo.heap.size (16 * k) (grTo L k) (Maps.has D) (Maps.size D) w0) := by
        refine ⟨HB2.out.trans (hb20.mono HB2.out.size), ⟨D, hrg0, HMI.out, fun _ h => h⟩, ⟨[0, 0, 0, 0], zero4, HROW.out.below hb20 (Nat.le_refl _), fun t u ht hu => ?_⟩, by omega, by omega, hbs, by omega⟩
        have h1 := HMI.out.has t u (wf_small (by omega)) (wf_small (by omega))
        rw [Int.toNat_natCast, Int.toNat_natCast] at h1
        have h0 : (([0, 0, 0, 0] : List Nat).getD t 0).testBit u = false := by
          rcases (by omega : t = 0 ∨ t = 1 ∨ t = 2 ∨ t = 3) with rfl | rfl | rfl | rfl <;> simp
        rw [h0]
        cases hbt : ((grTo L k).getD t 0).testBit u
        · rfl
        · rw [h1.2 ⟨by omega, by omega, by omega, by omega, hbt⟩]; rfl
      clear hrg0 hg0 hs0 hb20 HROW HB2 HMI
      go_loopw [10] (fun _ wr' => ∃ left cnt, GrFill w w.heap.size w2.heap.size wo.heap.size (16 * k) (grTo L k) left cnt wr') (fun _ wr' => wr'.rangeLeft w.heap.size w2.heap.size)
      case atStart => exact ⟨_, _, HST.out⟩
      case round =>
        obtain ⟨left, cnt, hF⟩ := hrel
        obtain ⟨wi, rfl⟩ : ∃ z : World, z = wr := ⟨_, rfl⟩
        have HF := Lib.hid hF
        obtain ⟨hbi, ⟨D', hrg, hmi, hlh⟩, ⟨O, h4O, hrow, hbit⟩, hne⟩ := hF
        have HRG := Lib.hid hrg
        have HMI := Lib.hid hmi
        have HLH := Lib.hid hlh
        have HROW := Lib.hid hrow
        have HBIT := Lib.hid hbit
        have H4O := Lib.hid h4O
        have hok := grTo_ok HR3.out k
        have HOK := Lib.hid hok
        clear hrg hmi hlh hrow hbit h4O hok HST
        go_wp2_with (at_next; refine gpbool_next rfl _ rfl _ _ _ D' left cnt rfl HRG.out (fun hc0 hl0 => ?_) (fun t u c w1 cnt1 hwt hwu hlx hat hrg1 hlt1 hg1 hs1 hen1 => ?_))
        · have hOR : O = grTo L k := rows_ext H4O.out HOK.out fun t u ht hu => by rw [HBIT.out t u ht hu, hl0]; simp
          have hrw := HROW.out
          rw [hOR] at hrw
          have hl4 : (rowsI (grTo L k)).length = 4 := by simp [rowsI, HOK.out.1]
          have HO : Hid (RetInts w (rowsI (grI (committed s))) (.returned (.slice (some ⟨wo.heap.size, 0, none⟩) 4 4)) wi) := by
            show RetInts _ _ _ _
            rw [HGI.out]
            refine RetInts.mk hl4 (Nat.le_refl _) ⟨hrw.ints hl4 (by omega), fun ad had => ?_⟩ hbi
            injection had with had
            subst had
            exact ⟨_, _, rfl, hne.2.2.1, hrw, by simp [intCells, hl4]⟩
          clear hOR hrw hl0 HF HRG
          go_ret
          exact HO.out
        · obtain ⟨ht0, ht3, hu0, hu3, hbt⟩ := (HMI.out.has t u hwt hwu).1 (HLH.out _ hlx)
          obtain ⟨T, rfl⟩ := Int.eq_ofNat_of_zero_le ht0
          obtain ⟨U, rfl⟩ := Int.eq_ofNat_of_zero_le hu0
          rw [Int.toNat_natCast, Int.toNat_natCast] at hbt
          have hT4 : T < 4 := by omega
          have hU4 : U < 4 := by omega
          obtain ⟨V, hV⟩ : ∃ V : World, V = w1.alloc (.cells #[.int .i64 (T : Int), .int .i64 (U : Int)] 88) := ⟨_, rfl⟩
          have hbV : Below w1.heap.size w1 V := by rw [hV]; exact (Below.refl _ _).alloc (Nat.le_refl _) _
          have HSET : Hid (∀ v : Int, v = ((O.getD T 0 ||| 1 <<< U : Nat) : Int) → GrFill w w.heap.size w2.heap.size wo.heap.size (16 * k) (grTo L k) (fun z => left z && !z.sameKey (gplit T U)) cnt1 (V.drew.setCell ⟨wo.heap.size, T, none⟩ (.int .i64 v))) := fun v hv =>
            GrFill.step hbi HMI.out HLH.out H4O.out HROW.out HBIT.out hne hT4 hU4 hbt hrg1 hg1 hbV.drew v hv
          have HMS : Hid (cnt1 < cnt ∧ wi.rangeLeft w.heap.size w2.heap.size = cnt) := ⟨hlt1, HRG.out.left_eq⟩
          have v0 : V.cell? ⟨w1.heap.size, 0, none⟩ = some (.int .i64 (T : Int)) := by rw [hV]; exact box_at _ _ _ _ _ rfl
          have v1 : V.cell? ⟨w1.heap.size, 1, none⟩ = some (.int .i64 (U : Int)) := by rw [hV]; exact box_at _ _ _ _ _ rfl
          have hrowV : RowIs V wo.heap.size 3 (intCells (rowsI O) ++ []) := RowIs.below ((hg1.block wo.heap.size HROW.out.lt (by intro e; injection e with e; exact hne.1 e.symm)).trans HROW.out) hbV (Nat.le_refl _)
          have hr16 := (rowsI_at H4O.out (T := T) (by omega)).2
          have hcr : V.cell? ⟨wo.heap.size, T, none⟩ = some (.int .i64 ((O.getD T 0 : Nat) : Int)) := by
            refine hrowV.cell ?_
            rw [List.append_nil]
            exact (rowsI_at H4O.out (T := T) (by omega)).1
          have hfz := hrowV.frozen T
          generalize O.getD T 0 = x at *
          have hVV := Lib.hid hV
          have e1 : bits .or .i64 (x : Int) 1 = ((x ||| 1 : Nat) : Int) := or_nat x 1 (by omega) (by omega)
          have e2 : bits .or .i64 (x : Int) 2 = ((x ||| 2 : Nat) : Int) := or_nat x 2 (by omega) (by omega)
          have e4 : bits .or .i64 (x : Int) 4 = ((x ||| 4 : Nat) : Int) := or_nat x 4 (by omega) (by omega)
          have e8 : bits .or .i64 (x : Int) 8 = ((x ||| 8 : Nat) : Int) := or_nat x 8 (by omega) (by omega)
          have l1 : (T : Int) < 4 := by omega
          have l2 : (0 : Int) ≤ (T : Int) := by omega
          rw [hs1] at v0 v1
          obtain ⟨wd, hwd⟩ : ∃ wd : World, wd = V.drew := ⟨_, rfl⟩
          rw [← hwd] at HSET
          have hcr2 : wd.cell? ⟨wo.heap.size, T, none⟩ = some (.int .i64 (x : Int)) := by rw [hwd]; exact hcr
          have hfz2 : wd.frozen? ⟨wo.heap.size, T, none⟩ = false := by rw [hwd]; exact hfz
          clear hrg1 hg1 hlx hat hV hbV hrowV hwt hwu hbt HF HRG
          rw [← hVV.out]
          rcases (by omega : U = 0 ∨ U = 1 ∨ U = 2 ∨ U = 3) with rfl | rfl | rfl | rfl
          all_goals
            refine wp_region_still_tail 10 (by kernel_rfl) (by kernel_rfl) ?_
            simp only [List.take_succ_cons, List.take_zero, List.drop_succ_cons, List.drop_zero]
            repeat (first | still_step | fail)
            refine wpStill_nil ?_
            change wpList _ _ _ _ _ V.drew
            rw [← hwd]
            go_wp2_with fail
            go_roundw
            case rel =>
              first | rw [e1] | rw [e2] | rw [e4] | rw [e8]
              have h := HSET.out _ rfl
              rw [hwd] at h
              exact ⟨_, _, h⟩
            case measure =>
              first | rw [e1] | rw [e2] | rw [e4] | rw [e8]
              have h := HSET.out _ rfl
              rw [hwd] at h
              obtain ⟨D9, hr9, _⟩ := h.rng
              have h1 := hr9.left_eq
              exact Nat.lt_of_lt_of_le (Nat.lt_of_le_of_lt (Nat.le_of_eq h1) HMS.out.1) (Nat.le_of_eq HMS.out.2.symm)
end Go.Proofs.YtkbclcgdkbhgdaaGreat
namespace Go.Proofs.YtkbclcgdkbhgdaaGreat
open Go.RowKit Go.BigFrame
set_option linter.unusedVariables false

end Go.Proofs.YtkbclcgdkbhgdaaGreat
namespace Go.Proofs.YtkbclcgdkbhgdaaGreat
open Go.RowKit Go.BigFrame
set_option linter.unusedVariables false


end Go.Proofs.YtkbclcgdkbhgdaaGreat
namespace Go.Proofs.YtkbclcgdkbhgdaaGreat
open Go.RowKit Go.BigFrame
set_option linter.unusedVariables false

theorem opsOf_snoc {s : List OpV} {k : Nat} {o : OpV} {t : Int} (h : s[k]? = some o) : opsOf (s.take (k + 1)) t = opsOf (s.take k) t ++ if o.tx = t then [o] else [] := by
  unfold opsOf
  rw [take_snoc h, List.filter_append]
  by_cases e : o.tx = t <;> simp [e]
theorem hasTx_snoc {s : List OpV} {k : Nat} {o : OpV} {t : Int} (h : s[k]? = some o) : hasTx (s.take (k + 1)) t = (hasTx (s.take k) t || o.tx == t) := by
  unfold hasTx
  rw [take_snoc h, List.any_append]; simp
theorem hasTx_of_take {s : List OpV} {k : Nat} {t : Int} (h : hasTx (s.take k) t = true) : hasTx s t = true := by
  unfold hasTx at *
  rw [List.any_eq_true] at *
  obtain ⟨o, ho, e⟩ := h
  exact ⟨o, List.mem_of_mem_take ho, e⟩

set_option maxRecDepth 100000 in
set_option maxHeartbeats 1000000 in
theorem sopsOf_any (A : Option Addr) (n c : Nat) (s : List OpV) (t : Int) (w : World) (hx : ROps w A n s) :
    Calls Tryz.prog 62 #[.slice A n c, .int .i64 t] w (RetOps w (opsOf s t)) := by
  have hn := hx.2.1
  have hl := hx.1
  have HX := Lib.hid hx
  clear hx
  have HST : Hid ((w.alloc (.cells #[] 46)).ownsRow w.heap.size 46 3 (.slice (some ⟨w.heap.size, 0, none⟩) 0 0) 0 (opCells (opsOf (s.take 0) t))) :=
    World.ownsRow_made w #[] 0 (Nat.le_refl _) (by decide) rfl
  go_enter Tryz.func62, Tryz.ntmps62
  go_wp2_with fail
  go_loopw [5, 6] (fun ov i wr => ∃ (k m : Nat), k ≤ n ∧ m ≤ k ∧ i = .int .i64 k ∧ Below w.heap.size w wr ∧ wr.ownsRow w.heap.size 46 3 ov m (opCells (opsOf (s.take k) t))) (fun _ i _ => n - (intOf i).toNat)
  case atStart => exact ⟨0, 0, Nat.zero_le _, Nat.le_refl _, rfl, (Below.refl _ _).alloc (Nat.le_refl _) _, HST.out⟩
  case round =>
    clear HST
    obtain ⟨k, m, hk, hmk, rfl, hb, hown⟩ := hrel
    obtain ⟨Ao, co, rfl, hmc⟩ := own_form2 hown
    by_cases hlt : k < n
    · obtain ⟨b, off, o, rfl, hbl, ho, c0, c1, c2⟩ := (HX.out.below hb (Nat.le_refl _)).at_ hlt
      have hs := hb.size
      have HT := Lib.hid (opsOf_snoc (t := t) ho)
      clear ho
      obtain ⟨tx, kd, it⟩ := o
      simp only at HT c0 c1 c2
      by_cases h1 : tx = t
      · rw [if_pos h1] at HT
        subst h1
        go_wp2_with (at_builtin; refine app_ops (.tmp 21) (.tmp 26) (hown.alloc _) (by simp; omega) (ROps.lit1 _ ⟨_, _, _⟩ _) (by omega) rfl rfl rfl rfl ?_; intro v3 w3 hown3 hg3 hat3)
        have hb3 := Below.own hb hown (Nat.le_refl _) (World.grownBy.trans (World.grownBy_alloc wr _ _) hg3)
        go_wp2_with fail
        go_roundw
        case rel => exact ⟨k + 1, m + 1, by omega, by omega, by go_num, hb3, by rw [HT.out]; simpa using hown3⟩
        case measure => simp [intOf]; omega
      · rw [if_neg h1, List.append_nil] at HT
        go_wp2_with fail
        go_roundw
        case rel => exact ⟨k + 1, m, by omega, by omega, by go_num, hb, by rw [HT.out]; exact hown⟩
        case measure => simp [intOf]; omega
    · have e : s.take k = s := List.take_of_length_le (by omega)
      rw [e] at hown
      have HO := Lib.hid (RetOps.mk (c := co) (own_lenOps hown) hmc (FreshOps.of_own hown (Nat.le_refl _) (by omega)) hb)
      clear hown e
      go_wp2_with fail
      go_ret
      exact HO.out

set_option maxRecDepth 100000 in
set_option maxHeartbeats 1000000 in
theorem stxs_any (A : Option Addr) (n c : Nat) (s : List OpV) (w : World) (hx : ROps w A n s) :
    Calls Tryz.prog 27 #[.slice A n c] w (RetInts w (txsOf s)) := by
  have hn := hx.2.1
  have hl := hx.1
  have HX := Lib.hid hx
  clear hx
  have HST : Hid ((w.alloc (.cells #[] 3)).ownsRow w.heap.size 3 1 (.slice (some ⟨w.heap.size, 0, none⟩) 0 0) 0 (intCells (txsTo s 0))) :=
    World.ownsRow_made w #[] 0 (Nat.le_refl _) (by decide) rfl
  go_enter Tryz.func27, Tryz.ntmps27
  go_wp2_with fail
  go_loopw [3, 4] (fun ov i wr => ∃ (k m : Nat), k ≤ 4 ∧ m ≤ k ∧ i = .int .i64 k ∧ Below w.heap.size w wr ∧ wr.ownsRow w.heap.size 3 1 ov m (intCells (txsTo s k))) (fun _ i _ => 4 - (intOf i).toNat)
  case atStart => exact ⟨0, 0, Nat.zero_le _, Nat.le_refl _, rfl, (Below.refl _ _).alloc (Nat.le_refl _) _, HST.out⟩
  case round =>
    clear HST
    obtain ⟨wo, rfl⟩ : ∃ wo : World, wo = wr := ⟨_, rfl⟩
    obtain ⟨k, m, hk, hmk, rfl, hb, hown⟩ := hrel
    obtain ⟨Ao, co, rfl, hmc⟩ := own_form2 hown
    by_cases hlt : k < 4
    · have HT := Lib.hid (txsTo_succ s k)
      have hk4 : (k : Int) < 4 := by omega
      go_wp2_with fail
      go_loopw [3, 5] (fun ov' i' wr' => ∃ j : Nat, j ≤ n ∧ i' = .int .i64 j ∧ hasTx (s.take j) (k : Int) = false ∧ Hid (wo = wr' ∧ Value.slice Ao m co = ov')) (fun _ i' _ => n - (intOf i').toNat)
      case atStart => exact ⟨0, Nat.zero_le _, rfl, rfl, Lib.hid (And.intro rfl rfl)⟩
      case round =>
        obtain ⟨j, hj, rfl, hno, hw⟩ := hrel
        obtain ⟨e1, e2⟩ := hw.out
        subst e1; subst e2
        clear hw
        by_cases hlt2 : j < n
        · obtain ⟨b, off, o, rfl, hbl, ho, c0, c1, c2⟩ := (HX.out.below hb (Nat.le_refl _)).at_ hlt2
          have HS := Lib.hid (hasTx_snoc (t := (k : Int)) ho)
          rw [hno, Bool.false_or] at HS
          clear ho hno
          obtain ⟨tx, kd, it⟩ := o
          simp only at HS c0 c1 c2
          have hs := hb.size
          by_cases h1 : tx = (k : Int)
          · have ht := hasTx_of_take (t := (k : Int)) (by rw [HS.out]; simpa using h1)
            rw [ht, if_pos rfl] at HT
            clear ht HS
            go_wp2_with (at_builtin; refine app_ints (.tmp 24) (.tmp 26) (hown.alloc _) (by simp; omega) (lit1 rfl _) (by omega) rfl rfl rfl rfl ?_; intro v5 w5 hown5 hg5 hat5)
            have hb5 := Below.own hb hown (Nat.le_refl _) (World.grownBy.trans (World.grownBy_alloc wo _ _) hg5)
            go_wp2_with fail
            go_roundw
            case rel => exact ⟨k + 1, m + 1, by omega, by omega, by go_num, hb5, by rw [HT.out]; exact hown5⟩
            case measure => simp [intOf]; omega
          · have h1' : (tx == (k : Int)) = false := by simpa using h1
            rw [h1'] at HS
            go_wp2_with fail
            go_roundw
            case rel => exact ⟨j + 1, by omega, by go_num, HS.out, by first | trivial | exact Lib.hid (And.intro rfl rfl) | exact Lib.hid (And.intro rfl trivial) | simp⟩
            case measure => simp [intOf]; omega
        · have e : s.take j = s := List.take_of_length_le (by omega)
          rw [e] at hno
          rw [hno, if_neg (by simp), List.append_nil] at HT
          clear hno e
          go_wp2_with fail
          go_roundw
          case rel => exact ⟨k + 1, m, by omega, by omega, by go_num, hb, by rw [HT.out]; exact hown⟩
          case measure => simp [intOf]; omega
    · obtain rfl : k = 4 := by omega
      rw [txsTo_four] at hown
      have HO := Lib.hid (RetInts.mk (c := co) (own_lenInts hown) hmc (FreshInts.of_own hown (Nat.le_refl _) (by omega)) hb)
      clear hown
      go_wp2_with fail
      go_ret
      exact HO.out

set_option maxRecDepth 100000 in
set_option maxHeartbeats 1000000 in
theorem sserial_any (A B : Option Addr) (n c m d : Nat) (s : List OpV) (ts : List Int) (w : World) (hx : ROps w A n s) (hy : RInts w B m ts) (hn16 : n ≤ 16) (hm16 : m ≤ 16) :
    Calls Tryz.prog 29 #[.slice A n c, .slice B m d] w (RetOps w (serialI s ts)) := by
  have hn := hx.2.1
  have hl := hx.1
  have hml := hy.1
  have HX := Lib.hid hx
  have HY := Lib.hid hy
  clear hx hy
  have HST : Hid ((w.alloc (.cells #[] 46)).ownsRow w.heap.size 46 3 (.slice (some ⟨w.heap.size, 0, none⟩) 0 0) 0 (opCells (serialI s (ts.take 0)))) :=
    World.ownsRow_made w #[] 0 (Nat.le_refl _) (by decide) rfl
  go_enter Tryz.func29, Tryz.ntmps29
  go_wp2_with fail
  go_loopw [5, 6] (fun ov i wr => ∃ (k j : Nat), k ≤ m ∧ j ≤ k * 16 ∧ i = .int .i64 k ∧ Below w.heap.size w wr ∧ wr.ownsRow w.heap.size 46 3 ov j (opCells (serialI s (ts.take k)))) (fun _ i _ => m - (intOf i).toNat)
  case atStart => exact ⟨0, 0, Nat.zero_le _, by omega, rfl, (Below.refl _ _).alloc (Nat.le_refl _) _, HST.out⟩
  case round =>
    clear HST
    obtain ⟨k, j, hk, hj, rfl, hb, hown⟩ := hrel
    obtain ⟨Ao, co, rfl, hjc⟩ := own_form2 hown
    by_cases hlt : k < m
    · obtain ⟨b, off, t, rfl, hbl, ht, c0⟩ := (HY.out.below hb (Nat.le_refl _)).at_ hlt
      have hs := hb.size
      have HT := Lib.hid (serialI_snoc (s := s) ht)
      have HC := Lib.hid (sopsOf_any A n c s t wr (HX.out.below hb (Nat.le_refl _)))
      have hol : (opsOf s t).length ≤ n := by rw [← hl]; exact opsOf_len s t
      have HOWN := Lib.hid hown
      clear ht hown
      go_wp2_with fail
      refine HC.out.mono ?_
      rintro e w2 ⟨A', c', rfl, hc', ⟨hro, hfo⟩, hb2⟩
      have hown2 := own_below HOWN.out hb2
      clear hfo HC
      generalize opsOf s t = os at *
      have hsz2 := hb2.size
      go_wp2_with (at_builtin; refine app_ops (.tmp 14) (.tmp 20) hown2 (by omega) hro (by omega) rfl rfl rfl rfl ?_; intro v3 w3 hown3 hg3 hat3)
      have hb3 := Below.own (hb.trans (hb2.mono hs)) hown2 (Nat.le_refl _) hg3
      go_roundw
      case rel => exact ⟨k + 1, j + os.length, by omega, by omega, by go_num, hb3, by rw [HT.out]; exact hown3⟩
      case measure => simp [intOf]; omega
    · have e : ts.take k = ts := List.take_of_length_le (by omega)
      rw [e] at hown
      have HO := Lib.hid (RetOps.mk (c := co) (own_lenOps hown) hjc (FreshOps.of_own hown (Nat.le_refl _) (by omega)) hb)
      clear hown e
      go_wp2_with fail
      go_ret
      exact HO.out
end Go.Proofs.YtkbclcgdkbhgdaaGreat
namespace Go.Proofs.YtkbclcgdkbhgdaaGreat
open Go.RowKit Go.BigFrame
set_option linter.unusedVariables false


/-- From whom a read of item x at place i reads, as far as the places below k go. -/
def rfB (s : List OpV) (i : Nat) (x : Int) (q : OpV) : Bool := q.kind == 1 && q.item == x && endOf (s.take i) q.tx != 3
def rfTo (s : List OpV) (i : Nat) (x : Int) : Nat → Int
  | 0 => -1
  | k + 1 => match s[k]? with | some q => if rfB s i x q then q.tx else rfTo s i x k | none => rfTo s i x k
theorem rfTo_succ {s : List OpV} {i : Nat} {x : Int} {k : Nat} {q : OpV} (h : s[k]? = some q) : rfTo s i x (k + 1) = if rfB s i x q then q.tx else rfTo s i x k := by simp only [rfTo, h]

set_option maxRecDepth 100000 in
set_option maxHeartbeats 2000000 in
theorem readFrom_any (A : Option Addr) (n c k : Nat) (s : List OpV) (o : OpV) (w : World) (hx : ROps w A n s) (ho : s[k]? = some o) (hnc : n ≤ c) :
    Calls Tryz.prog 79 #[.slice A n c, .int .i64 (k : Int)] w fun e w' => e = .returned (.int .i64 (rfTo s k o.item k)) ∧ Below w.heap.size w w' := by
  have hn := hx.2.1
  have hl := hx.1
  have hk : k < n := by have := (List.getElem?_eq_some_iff.1 ho).1; omega
  have HX := Lib.hid hx
  have HO := Lib.hid ho
  clear hx ho
  have hkc : (k : Int) ≤ (c : Int) := by omega
  have hkn : (k : Int) < (n : Int) := by omega
  have hk0 : (0 : Int) ≤ (k : Int) := by omega
  go_enter Tryz.func79, Tryz.ntmps79
  go_wp2_with fail
  go_loopw [5] (fun i wr => ∃ j : Nat, j ≤ k ∧ i = .int .i64 ((j : Int) - 1) ∧ Below w.heap.size w wr ∧ rfTo s k o.item k = rfTo s k o.item j) (fun i _ => (intOf i + 1).toNat)
  case atStart => exact ⟨k, Nat.le_refl _, by go_num, Below.refl _ _, rfl⟩
  case round =>
    obtain ⟨j, hj, rfl, hb, he⟩ := hrel
    by_cases hz : 0 < j
    · obtain ⟨q, rfl⟩ : ∃ q, j = q + 1 := ⟨j - 1, by omega⟩
      have e1 : (((q + 1 : Nat) : Int) - 1) = (q : Int) := by omega
      rw [e1]
      have hxr := HX.out.below hb (Nat.le_refl _)
      obtain ⟨b, off, p, hA, hbl, hp, c0, c1, c2⟩ := hxr.at_ (k := q) (by omega)
      obtain ⟨b', off', o', hA', _, ho', d0, d1, d2⟩ := hxr.at_ hk
      subst hA
      injection hA' with hA'; injection hA' with q1 q2 _; subst q1; subst q2
      rw [HO.out] at ho'
      injection ho' with ho'
      subst ho'
      obtain ⟨E, hE⟩ : ∃ E, endOf (s.take k) p.tx = E := ⟨_, rfl⟩
      have hC : ∀ u : Later wr, Calls Tryz.prog 31 #[.slice (some ⟨b, off, none⟩) k c, .int .i64 p.tx] u.1 fun e w' => e = .returned (.int .i64 E) ∧ Below u.1.heap.size u.1 w' := fun u => by
        have := endOf_any (some ⟨b, off, none⟩) k c (s.take k) p.tx u.1 ((hxr.take (by omega)).later u); rw [hE] at this; exact this
      have hrs := rfTo_succ (i := k) (x := o.item) hp
      unfold rfB at hrs
      rw [hE] at hrs
      obtain ⟨ptx, pk, pit⟩ := p
      simp only at c0 c1 c2 hC hrs
      obtain ⟨b1, hb1⟩ : ∃ z, (pk == 1) = z := ⟨_, rfl⟩
      obtain ⟨b2, hb2⟩ : ∃ z, (pit == o.item) = z := ⟨_, rfl⟩
      obtain ⟨b3, hb3⟩ : ∃ z, (E != 3) = z := ⟨_, rfl⟩
      rw [hb1, hb2, hb3] at hrs
      have HC := Lib.hid hC
      have HRS := Lib.hid hrs
      have HE := Lib.hid he
      have L0 := Later.cell c0
      have L1 := Later.cell c1
      have L2 := Later.cell c2
      have M2 := Later.cell d2
      have hqn : (q : Int) < (n : Int) := by omega
      have hq0 : (0 : Int) ≤ (q : Int) := by omega
      clear hC hrs he hp c0 c1 c2 d0 d1 d2 hxr e1 hE
      cases b1
      · go_wp2_with fail
        refine region_later (by kernel_rfl) (by kernel_rfl) ?_
        repeat (go_big_quiet_step ((go_at_call 31; exact later_call _ (HC.out _))))
        refine wpQuiet_nil ?_
        rintro _ ⟨u, rfl⟩
        have hbu := hb.trans (u.2.mono hb.size)
        go_wp2_with fail
        go_roundw
        case rel => exact ⟨q, by omega, by go_num, hbu, by rw [HE.out, HRS.out]; rfl⟩
        case measure => simp [intOf] <;> omega
      · cases b2
        · go_wp2_with fail
          refine region_later (by kernel_rfl) (by kernel_rfl) ?_
          repeat (go_big_quiet_step ((go_at_call 31; exact later_call _ (HC.out _))))
          refine wpQuiet_nil ?_
          rintro _ ⟨u, rfl⟩
          have hbu := hb.trans (u.2.mono hb.size)
          go_wp2_with fail
          go_roundw
          case rel => exact ⟨q, by omega, by go_num, hbu, by rw [HE.out, HRS.out]; rfl⟩
          case measure => simp [intOf] <;> omega
        · cases b3
          · go_wp2_with fail
            refine region_later (by kernel_rfl) (by kernel_rfl) ?_
            repeat (go_big_quiet_step ((go_at_call 31; exact later_call _ (HC.out _))))
            refine wpQuiet_nil ?_
            rintro _ ⟨u, rfl⟩
            have hbu := hb.trans (u.2.mono hb.size)
            go_wp2_with fail
            go_roundw
            case rel => exact ⟨q, by omega, by go_num, hbu, by rw [HE.out, HRS.out]; rfl⟩
            case measure => simp [intOf] <;> omega
          · go_wp2_with fail
            refine region_later (by kernel_rfl) (by kernel_rfl) ?_
            repeat (go_big_quiet_step ((go_at_call 31; exact later_call _ (HC.out _))))
            refine wpQuiet_nil ?_
            rintro _ ⟨u, rfl⟩
            have hbu := hb.trans (u.2.mono hb.size)
            have l0 := L0 u
            go_wp2_with fail
            go_ret
            exact ⟨ret_int (by rw [HE.out, HRS.out]; rfl), hbu⟩
    · obtain rfl : j = 0 := by omega
      have HE := Lib.hid he
      clear he
      go_wp2_with fail
      go_ret
      exact ⟨ret_int (by rw [HE.out]; rfl), hb⟩
end Go.Proofs.YtkbclcgdkbhgdaaGreat
namespace Go.Proofs.YtkbclcgdkbhgdaaGreat
open Go.RowKit Go.BigFrame
set_option linter.unusedVariables false

def abB (s : List OpV) (t : Int) (i : Nat) : Bool := (s.take i).any fun o => o.tx == t && o.kind == 3
theorem abB_snoc {s : List OpV} {t : Int} {k : Nat} {o : OpV} (h : s[k]? = some o) : abB s t (k + 1) = (abB s t k || (o.tx == t && o.kind == 3)) := by
  unfold abB
  rw [take_snoc h, List.any_append]; simp
theorem abB_le {s : List OpV} {t : Int} {k i : Nat} (hk : k ≤ i) (h : abB s t k = true) : abB s t i = true := by
  unfold abB at *
  rw [List.any_eq_true] at *
  obtain ⟨o, ho, e⟩ := h
  refine ⟨o, ?_, e⟩
  have : s.take k = (s.take i).take k := by rw [List.take_take, Nat.min_eq_left hk]
  rw [this] at ho
  exact List.mem_of_mem_take ho

set_option maxHeartbeats 1000000 in
theorem abortedAt_any (A : Option Addr) (n c : Nat) (s : List OpV) (t : Int) (i : Nat) (w : World) (hx : ROps w A n s) (hi : i ≤ n) :
    Calls Tryz.prog 83 #[.slice A n c, .int .i64 t, .int .i64 (i : Int)] w fun e w' => e = .returned (.bool (abB s t i)) ∧ Below w.heap.size w w' := by
  have hn := hx.2.1
  have hl := hx.1
  have HX := Lib.hid hx
  clear hx
  go_enter Tryz.func83, Tryz.ntmps83
  go_wp2_with fail
  go_loopw [7] (fun x wr => ∃ k : Nat, k ≤ i ∧ x = .int .i64 k ∧ abB s t k = false ∧ Below w.heap.size w wr) (fun x _ => i - (intOf x).toNat)
  case atStart => exact ⟨0, Nat.zero_le _, rfl, by simp [abB], Below.refl _ _⟩
  case round =>
    obtain ⟨k, hk, rfl, hno, hb⟩ := hrel
    by_cases hlt : k < i
    · obtain ⟨b, off, o, rfl, hbl, ho, c0, c1, c2⟩ := (HX.out.below hb (Nat.le_refl _)).at_ (k := k) (by omega)
      have HS := Lib.hid (abB_snoc (t := t) ho)
      rw [hno, Bool.false_or] at HS
      have HT : Hid (abB s t (k + 1) = true → abB s t i = true) := fun h => abB_le (by omega) h
      clear hno ho
      obtain ⟨tx, kd, it⟩ := o
      simp only at HS c0 c1 c2
      have hki : (k : Int) < (i : Int) := by omega
      have hkn : (k : Int) < (n : Int) := by omega
      have L0 := Later.cell c0
      have L1 := Later.cell c1
      by_cases h1 : tx = t
      · by_cases h2 : kd = 3
        · have hs := Lib.hid (HT.out (by rw [HS.out]; simp [h1, h2]))
          subst h1
          subst h2
          go_wp2_with fail
          go_ret
          exact ⟨ret_bool hs.out.symm, hb⟩
        · have h2' : (kd == 3) = false := by simpa using h2
          rw [h2', Bool.and_false] at HS
          subst h1
          go_wp2_with fail
          go_roundw
          case rel => exact ⟨k + 1, by omega, by go_num, HS.out, hb⟩
          case measure => simp [intOf]; omega
      · have h1' : (tx == t) = false := by simpa using h1
        rw [h1', Bool.false_and] at HS
        go_wp2_with fail
        go_roundw
        case rel => exact ⟨k + 1, by omega, by go_num, HS.out, hb⟩
        case measure => simp [intOf]; omega
    · obtain rfl : k = i := by omega
      have HN := Lib.hid hno
      clear hno
      go_wp2_with fail
      go_ret
      exact ⟨ret_bool HN.out.symm, hb⟩
end Go.Proofs.YtkbclcgdkbhgdaaGreat
namespace Go.Proofs.YtkbclcgdkbhgdaaGreat
open Go.RowKit Go.BigFrame
set_option linter.unusedVariables false

def sfB (s : List OpV) (i : Nat) (x : Int) (q : OpV) : Bool := q.kind == 1 && q.item == x && !abB s q.tx i
def sfTo (s : List OpV) (i : Nat) (x : Int) : Nat → Int
  | 0 => -1
  | k + 1 => match s[k]? with | some q => if sfB s i x q then q.tx else sfTo s i x k | none => sfTo s i x k
theorem sfTo_succ {s : List OpV} {i : Nat} {x : Int} {k : Nat} {q : OpV} (h : s[k]? = some q) : sfTo s i x (k + 1) = if sfB s i x q then q.tx else sfTo s i x k := by simp only [sfTo, h]
/-- In a schedule one aborts exactly if one ends with an abort. -/
theorem abB_end {s : List OpV} (hv : validS s = true) (t : Int) (i : Nat) : abB s t i = (endOf (s.take i) t == 3) := by
  have hvt : validS (s.take i) = true := validS_sub hv (List.take_sublist i s)
  cases h : abB s t i
  · symm
    rw [beq_eq_false_iff_ne]
    intro he
    unfold endOf at he
    cases hf : (s.take i).find? (fun o => o.tx == t && isEnd o) with
    | none => rw [hf] at he; simp at he
    | some o =>
      rw [hf] at he
      have h1 := List.find?_some hf
      simp only [Bool.and_eq_true, beq_iff_eq] at h1
      unfold abB at h
      rw [List.any_eq_false] at h
      refine h o (List.mem_of_find?_eq_some hf) ?_
      simp only [Bool.and_eq_true, beq_iff_eq]
      exact ⟨h1.1, by simpa using he⟩
  · symm
    unfold abB at h
    rw [List.any_eq_true] at h
    obtain ⟨o, ho, h⟩ := h
    simp only [Bool.and_eq_true, beq_iff_eq] at h
    obtain ⟨k, hk⟩ := List.mem_iff_getElem?.1 ho
    rw [← h.1]
    have := endOf_hit (s.take i) o.tx k o hk (fun j hj q hq => by
      cases hq2 : (q.tx == o.tx && isEnd q)
      · rfl
      · simp only [Bool.and_eq_true, beq_iff_eq] at hq2
        have := validS_after hvt hq hk hq2.2 hq2.1
        omega) (by simp [isEnd, h.2])
    rw [this, h.2]; rfl
theorem sf_eq {s : List OpV} (hv : validS s = true) (i : Nat) (x : Int) (k : Nat) : sfTo s i x k = rfTo s i x k := by
  induction k with
  | zero => rfl
  | succ k ih =>
    cases e : s[k]? with
    | none => simp only [sfTo, rfTo, e]; exact ih
    | some q =>
      rw [sfTo_succ e, rfTo_succ e, ih]
      unfold sfB rfB
      rw [abB_end hv]
      rfl

set_option maxRecDepth 100000 in
set_option maxHeartbeats 2000000 in
theorem source_any (A : Option Addr) (n c k : Nat) (s : List OpV) (o : OpV) (w : World) (hx : ROps w A n s) (ho : s[k]? = some o) :
    Calls Tryz.prog 58 #[.slice A n c, .int .i64 (k : Int)] w fun e w' => e = .returned (.int .i64 (sfTo s k o.item k)) ∧ Below w.heap.size w w' := by
  have hn := hx.2.1
  have hl := hx.1
  have hk : k < n := by have := (List.getElem?_eq_some_iff.1 ho).1; omega
  have HX := Lib.hid hx
  have HO := Lib.hid ho
  clear hx ho
  have hkn : (k : Int) < (n : Int) := by omega
  have hk0 : (0 : Int) ≤ (k : Int) := by omega
  go_enter Tryz.func58, Tryz.ntmps58
  go_wp2_with fail
  go_loopw [5] (fun i wr => ∃ j : Nat, j ≤ k ∧ i = .int .i64 ((j : Int) - 1) ∧ Below w.heap.size w wr ∧ sfTo s k o.item k = sfTo s k o.item j) (fun i _ => (intOf i + 1).toNat)
  case atStart => exact ⟨k, Nat.le_refl _, by go_num, Below.refl _ _, rfl⟩
  case round =>
    obtain ⟨j, hj, rfl, hb, he⟩ := hrel
    by_cases hz : 0 < j
    · obtain ⟨q, rfl⟩ : ∃ q, j = q + 1 := ⟨j - 1, by omega⟩
      have e1 : (((q + 1 : Nat) : Int) - 1) = (q : Int) := by omega
      rw [e1]
      have hxr := HX.out.below hb (Nat.le_refl _)
      obtain ⟨b, off, p, hA, hbl, hp, c0, c1, c2⟩ := hxr.at_ (k := q) (by omega)
      obtain ⟨b', off', o', hA', _, ho', d0, d1, d2⟩ := hxr.at_ hk
      subst hA
      injection hA' with hA'; injection hA' with q1 q2 _; subst q1; subst q2
      rw [HO.out] at ho'
      injection ho' with ho'
      subst ho'
      obtain ⟨E, hE⟩ : ∃ E, abB s p.tx k = E := ⟨_, rfl⟩
      have hC : ∀ u : Later wr, Calls Tryz.prog 83 #[.slice (some ⟨b, off, none⟩) n c, .int .i64 p.tx, .int .i64 (k : Int)] u.1 fun e w' => e = .returned (.bool E) ∧ Below u.1.heap.size u.1 w' := fun u => by
        have := abortedAt_any (some ⟨b, off, none⟩) n c s p.tx k u.1 (hxr.later u) (by omega); rw [hE] at this; exact this
      have hrs := sfTo_succ (i := k) (x := o.item) hp
      unfold sfB at hrs
      rw [hE] at hrs
      obtain ⟨ptx, pk, pit⟩ := p
      simp only at c0 c1 c2 hC hrs
      obtain ⟨b1, hb1⟩ : ∃ z, (pk == 1) = z := ⟨_, rfl⟩
      obtain ⟨b2, hb2⟩ : ∃ z, (pit == o.item) = z := ⟨_, rfl⟩
      obtain ⟨b3, rfl⟩ : ∃ z, E = z := ⟨_, rfl⟩
      rw [hb1, hb2] at hrs
      have HC := Lib.hid hC
      have HRS := Lib.hid hrs
      have HE := Lib.hid he
      have L0 := Later.cell c0
      have L1 := Later.cell c1
      have L2 := Later.cell c2
      have M2 := Later.cell d2
      have hqn : (q : Int) < (n : Int) := by omega
      have hq0 : (0 : Int) ≤ (q : Int) := by omega
      clear hC hrs he hp c0 c1 c2 d0 d1 d2 hxr e1 hE
      cases b1
      · go_wp2_with fail
        refine region_later (by kernel_rfl) (by kernel_rfl) ?_
        repeat (go_big_quiet_step ((go_at_call 83; exact later_call _ (HC.out _))))
        refine wpQuiet_nil ?_
        rintro _ ⟨u, rfl⟩
        have hbu := hb.trans (u.2.mono hb.size)
        go_wp2_with fail
        go_roundw
        case rel => exact ⟨q, by omega, by go_num, hbu, by rw [HE.out, HRS.out]; rfl⟩
        case measure => simp [intOf] <;> omega
      · cases b2
        · go_wp2_with fail
          refine region_later (by kernel_rfl) (by kernel_rfl) ?_
          repeat (go_big_quiet_step ((go_at_call 83; exact later_call _ (HC.out _))))
          refine wpQuiet_nil ?_
          rintro _ ⟨u, rfl⟩
          have hbu := hb.trans (u.2.mono hb.size)
          go_wp2_with fail
          go_roundw
          case rel => exact ⟨q, by omega, by go_num, hbu, by rw [HE.out, HRS.out]; rfl⟩
          case measure => simp [intOf] <;> omega
        · cases E
          · go_wp2_with fail
            refine region_later (by kernel_rfl) (by kernel_rfl) ?_
            repeat (go_big_quiet_step ((go_at_call 83; exact later_call _ (HC.out _))))
            refine wpQuiet_nil ?_
            rintro _ ⟨u, rfl⟩
            have hbu := hb.trans (u.2.mono hb.size)
            have l0 := L0 u
            go_wp2_with fail
            go_ret
            exact ⟨ret_int (by rw [HE.out, HRS.out]; rfl), hbu⟩
          · go_wp2_with fail
            refine region_later (by kernel_rfl) (by kernel_rfl) ?_
            repeat (go_big_quiet_step ((go_at_call 83; exact later_call _ (HC.out _))))
            refine wpQuiet_nil ?_
            rintro _ ⟨u, rfl⟩
            have hbu := hb.trans (u.2.mono hb.size)
            go_wp2_with fail
            go_roundw
            case rel => exact ⟨q, by omega, by go_num, hbu, by rw [HE.out, HRS.out]; rfl⟩
            case measure => simp [intOf] <;> omega
    · obtain rfl : j = 0 := by omega
      have HE := Lib.hid he
      clear he
      go_wp2_with fail
      go_ret
      exact ⟨ret_int (by rw [HE.out]; rfl), hb⟩

set_option maxHeartbeats 1000000 in
theorem sendOf_any (A : Option Addr) (n c : Nat) (s : List OpV) (t : Int) (w : World) (hx : ROps w A n s) :
    Calls Tryz.prog 54 #[.slice A n c, .int .i64 t] w fun e w' => e = .returned (.int .i64 (endOf s t)) ∧ Below w.heap.size w w' := by
  have hn := hx.2.1
  have hl := hx.1
  have HX := Lib.hid hx
  clear hx
  go_enter Tryz.func54, Tryz.ntmps54
  go_wp2_with fail
  go_loopw [5] (fun x wr => ∃ k : Nat, k ≤ n ∧ x = .int .i64 k ∧ (∀ j, j < k → ∀ o, s[j]? = some o → (o.tx == t && isEnd o) = false) ∧ Below w.heap.size w wr) (fun x _ => n - (intOf x).toNat)
  case atStart => exact ⟨0, Nat.zero_le _, rfl, by omega, Below.refl _ _⟩
  case round =>
    obtain ⟨k, hk, rfl, hno, hb⟩ := hrel
    by_cases hlt : k < n
    · obtain ⟨b, off, o, rfl, hbl, ho, c0, c1, c2⟩ := (HX.out.below hb (Nat.le_refl _)).at_ hlt
      have HN : Hid ((o.tx == t && isEnd o) = false → ∀ j, j < k + 1 → ∀ o, s[j]? = some o → (o.tx == t && isEnd o) = false) := fun h => no_snoc (p := fun o => o.tx == t && isEnd o) ho hno h
      have HT : Hid ((o.tx == t && isEnd o) = true → endOf s t = o.kind) := fun h => endOf_hit s t k o ho hno h
      clear hno ho
      obtain ⟨be, hbe⟩ : ∃ be, isEnd o = be := ⟨_, rfl⟩
      have hC : ∀ W : World, Calls Tryz.prog 53 #[o.val] W fun e w' => e = .returned (.bool be) ∧ Below W.heap.size W w' := fun W => by
        have := sends_any o W; rw [hbe] at this; exact this
      rw [hbe] at HN HT
      clear hbe
      obtain ⟨tx, kd, it⟩ := o
      unfold OpV.val at hC
      have HC := Lib.hid hC
      clear hC
      simp only at HN HT c0 c1 c2
      have L1 := Later.cell c1
      have hs := hb.size
      by_cases h1 : tx = t
      · subst h1
        rw [beq_self_eq_true, Bool.true_and] at HN HT
        go_wp2_with fail
        refine (HC.out _).mono ?_
        rintro e w2 ⟨rfl, hb2⟩
        have hbw := hb.trans (hb2.mono hs)
        have l1 := L1 ⟨w2, hb2⟩
        simp only at l1
        clear hb2
        cases be
        · have hz := Lib.hid (HN.out (by first | rfl | trivial))
          go_wp2_with fail
          go_roundw
          case rel => exact ⟨k + 1, by omega, by go_num, hz.out, hbw⟩
          case measure => simp [intOf]; omega
        · have hz := Lib.hid (HT.out (by first | rfl | trivial))
          go_wp2_with fail
          go_ret
          exact ⟨ret_int (by rw [hz.out]), hbw⟩
      · have h1' : (tx == t) = false := by simpa using h1
        have hz := Lib.hid (HN.out (by rw [h1']; rfl))
        go_wp2_with fail
        go_roundw
        case rel => exact ⟨k + 1, by omega, by go_num, hz.out, hb⟩
        case measure => simp [intOf]; omega
    · have hz : Hid (endOf s t = -1) := endOf_none s t (fun j hj => hno j (by omega))
      clear hno
      go_wp2_with fail
      go_ret
      exact ⟨ret_int (by rw [hz.out]), hb⟩
end Go.Proofs.YtkbclcgdkbhgdaaGreat
namespace Go.Proofs.YtkbclcgdkbhgdaaGreat
open Go.RowKit Go.BigFrame
set_option linter.unusedVariables false

def sconfB (a b : OpV) : Bool := a.tx != b.tx && !isEnd a && !isEnd b && a.item == b.item && (a.kind == 1 || b.kind == 1)
theorem acc_end {o : OpV} (h : validOp o = true) : (!isEnd o) = isAcc o := by
  unfold validOp at h
  simp only [Bool.and_eq_true, Bool.or_eq_true] at h
  unfold isEnd isAcc at *
  rcases h.2 with ⟨h1, _⟩ | ⟨h1, _⟩
  · simp only [Bool.or_eq_true, beq_iff_eq] at h1
    rcases h1 with h1 | h1 <;> rw [h1] <;> rfl
  · simp only [Bool.or_eq_true, beq_iff_eq] at h1
    rcases h1 with h1 | h1 <;> rw [h1] <;> rfl
theorem sconf_eq {a b : OpV} (ha : validOp a = true) (hb : validOp b = true) : sconfB a b = confB a b := by
  unfold sconfB confB
  rw [acc_end ha, acc_end hb]

theorem committedTo_snoc {s : List OpV} {k : Nat} {o : OpV} (h : s[k]? = some o) : (s.take (k + 1)).filter (fun o => endOf s o.tx == 2) = (s.take k).filter (fun o => endOf s o.tx == 2) ++ if endOf s o.tx = 2 then [o] else [] := by
  rw [take_snoc h, List.filter_append]
  by_cases e : endOf s o.tx = 2 <;> simp [e]
set_option maxRecDepth 100000 in
set_option maxHeartbeats 1000000 in
theorem scommitted_any (A : Option Addr) (n c : Nat) (s : List OpV) (w : World) (hx : ROps w A n s) :
    Calls Tryz.prog 25 #[.slice A n c] w (RetOps w (committed s)) := by
  have hn := hx.2.1
  have hl := hx.1
  have HX := Lib.hid hx
  clear hx
  have HST : Hid ((w.alloc (.cells #[] 46)).ownsRow w.heap.size 46 3 (.slice (some ⟨w.heap.size, 0, none⟩) 0 0) 0 (opCells ((s.take 0).filter (fun o => endOf s o.tx == 2)))) :=
    World.ownsRow_made w #[] 0 (Nat.le_refl _) (by decide) rfl
  go_enter Tryz.func25, Tryz.ntmps25
  go_wp2_with fail
  go_loopw [3, 4] (fun ov i wr => ∃ (k m : Nat), k ≤ n ∧ m ≤ k ∧ i = .int .i64 k ∧ Below w.heap.size w wr ∧ wr.ownsRow w.heap.size 46 3 ov m (opCells ((s.take k).filter (fun o => endOf s o.tx == 2)))) (fun _ i _ => n - (intOf i).toNat)
  case atStart => exact ⟨0, 0, Nat.zero_le _, Nat.le_refl _, rfl, (Below.refl _ _).alloc (Nat.le_refl _) _, HST.out⟩
  case round =>
    clear HST
    obtain ⟨k, m, hk, hmk, rfl, hb, hown⟩ := hrel
    obtain ⟨Ao, co, rfl, hmc⟩ := own_form2 hown
    by_cases hlt : k < n
    · have hxr := HX.out.below hb (Nat.le_refl _)
      obtain ⟨b, off, o, rfl, hbl, ho, c0, c1, c2⟩ := hxr.at_ hlt
      have hs := hb.size
      have HT := Lib.hid (committedTo_snoc ho)
      have hE := sendOf_any (some ⟨b, off, none⟩) n c s o.tx wr hxr
      obtain ⟨E, hEE⟩ : ∃ E, endOf s o.tx = E := ⟨_, rfl⟩
      rw [hEE] at hE HT
      have HE := Lib.hid hE
      have HOWN := Lib.hid hown
      clear ho hE hEE hxr hown
      obtain ⟨tx, kd, it⟩ := o
      simp only at HT c0 c1 c2 HE
      have L0 := Later.cell c0
      have L1 := Later.cell c1
      have L2 := Later.cell c2
      have hki : (k : Int) < (n : Int) := by omega
      go_wp2_with fail
      refine HE.out.mono ?_
      rintro e w2 ⟨rfl, hb2⟩
      have hown2 := own_below HOWN.out hb2
      have hbw2 := hb.trans (hb2.mono hs)
      have x0 := L0 ⟨w2, hb2⟩
      have x1 := L1 ⟨w2, hb2⟩
      have x2 := L2 ⟨w2, hb2⟩
      simp only at x0 x1 x2
      have hs2 := hbw2.size
      by_cases h1 : E = 2
      · rw [if_pos h1] at HT
        subst h1
        go_wp2_with (at_builtin; refine app_ops (.tmp 20) (.tmp 25) (hown2.alloc _) (by simp; omega) (ROps.lit1 _ ⟨_, _, _⟩ _) (by omega) rfl rfl rfl rfl ?_; intro v3 w3 hown3 hg3 hat3)
        have hb3 := Below.own hbw2 hown2 (Nat.le_refl _) (World.grownBy.trans (World.grownBy_alloc w2 _ _) hg3)
        go_wp2_with fail
        go_roundw
        case rel => exact ⟨k + 1, m + 1, by omega, by omega, by go_num, hb3, by rw [HT.out]; simpa using hown3⟩
        case measure => simp [intOf]; omega
      · rw [if_neg h1, List.append_nil] at HT
        go_wp2_with fail
        go_roundw
        case rel => exact ⟨k + 1, m, by omega, by omega, by go_num, hbw2, by rw [HT.out]; exact hown2⟩
        case measure => simp [intOf]; omega
    · have e : s.take k = s := List.take_of_length_le (by omega)
      rw [e] at hown
      have HO : Hid (RetOps w (committed s) (.returned (.slice Ao m co)) wr) := RetOps.mk (c := co) (own_lenOps hown) hmc (FreshOps.of_own hown (Nat.le_refl _) (by omega)) hb
      clear hown e
      go_wp2_with fail
      go_ret
      exact HO.out
end Go.Proofs.YtkbclcgdkbhgdaaGreat
namespace Go.Proofs.YtkbclcgdkbhgdaaGreat
open Go.RowKit Go.BigFrame
set_option linter.unusedVariables false

structure SgInv (w : World) (g : Nat) (rows : List Nat) (wr : World) : Prop where
  below : Below w.heap.size w wr
  row : RowIs wr g 3 (intCells (rowsI rows) ++ [])
theorem SgInv.later {w wr W : World} {g : Nat} {rows : List Nat} (h : SgInv w g rows wr) (hb : Below wr.heap.size wr W) : SgInv w g rows W :=
  ⟨h.below.trans (hb.mono h.below.size), h.row.below hb (Nat.le_refl _)⟩
theorem SgInv.drew {w wr : World} {g : Nat} {rows : List Nat} (h : SgInv w g rows wr) : SgInv w g rows wr.drew := ⟨h.below.drew, h.row⟩
theorem SgInv.set {w wr : World} {g : Nat} {rows : List Nat} {T : Nat} {u : Int} (h : SgInv w g rows wr) (hge : w.heap.size ≤ g) (hT : T ≤ 3) (h4 : Rows4 rows) {v : Int}
    (hv : v = ((rows.getD T 0 ||| (1 <<< u.toNat) : Nat) : Int)) : SgInv w g (rowSet rows T u) (wr.setCell ⟨g, T, none⟩ (.int .i64 v)) := by
  subst hv
  refine ⟨h.below.setCell (by simpa using hge) _, ?_⟩
  rw [rowsI_set]
  exact row_setInt h.row (by simp [rowsI, h4.1]; omega)
theorem SgInv.at_ {w wr : World} {g : Nat} {rows : List Nat} (h : SgInv w g rows wr) (h4 : Rows4 rows) {T : Nat} (hT : T ≤ 3) : wr.cell? ⟨g, T, none⟩ = some (.int .i64 ((rows.getD T 0 : Nat) : Int)) ∧ wr.frozen? ⟨g, T, none⟩ = false ∧ rows.getD T 0 < 16 := by
  obtain ⟨h1, h2⟩ := rowsI_at h4 hT
  refine ⟨h.row.cell ?_, h.row.frozen T, h2⟩
  rw [List.append_nil]
  exact h1

end Go.Proofs.YtkbclcgdkbhgdaaGreat
namespace Go.Proofs.YtkbclcgdkbhgdaaGreat
open Go.RowKit Go.BigFrame
set_option linter.unusedVariables false

/-- The literal slice of one number and the empty one, as they lie when the orders begin. -/
theorem lit1_own (w : World) : (w.alloc (.cells #[] 3)).ownsRow w.heap.size 3 1 (.slice (some ⟨w.heap.size, 0, none⟩) 0 0) 0 (intCells []) := World.ownsRow_made w #[] 0 (Nat.le_refl _) (by decide) rfl
theorem RInts.grownAt {w w' : World} {g n : Nat} {xs : List Int} {row : Option Nat} (h : RInts w (some ⟨g, 0, none⟩) n xs) (hg : w.grownBy w' row) (hlt : g < w.heap.size) (hne : row ≠ some g) : RInts w' (some ⟨g, 0, none⟩) n xs := by
  have hk := hg.block g hlt hne.symm
  refine ⟨h.1, h.2.1, fun hn => ?_⟩
  obtain ⟨b, off, hA, hl, hc⟩ := h.2.2 hn
  injection hA with hA
  injection hA with e1 e2 _
  subst e1; subst e2
  have hs := World.grownBy.size hg
  exact ⟨g, 0, rfl, by omega, fun i x hx => (World.cell?_of_block (w := w) (a := ⟨g, 0 + i, none⟩) hk).trans (hc i x hx)⟩
/-- The first append of a call's argument, however the region draws. -/
structure Arg1 (wi Wa : World) (ob lb : Nat) (t : Int) : Prop where
  row : Wa.ownsRow wi.heap.size 3 1 (.slice (some ⟨ob, 0, none⟩) 0 0) 0 (intCells [])
  lit : RInts Wa (some ⟨lb, 0, none⟩) 1 [t]
  ne : some ob ≠ some lb
  lt : lb < Wa.heap.size
  below : Below wi.heap.size wi Wa
theorem arg1_b (wi : World) (t : Int) : Arg1 wi ((wi.alloc (.cells #[] 3)).alloc (.cells #[.int .i64 t] 3)).drew wi.heap.size (wi.heap.size + 1) t := by
  refine ⟨((lit1_own wi).alloc _).drew, ?_, by simp, by simp, (((Below.refl _ wi).alloc (Nat.le_refl _) _).alloc (by simp) _).drew⟩
  have h := lit1 (w := wi.alloc (.cells #[] 3)) (H := wi.heap.size + 1) (by simp) t
  exact h
theorem arg1_c (wi : World) (t : Int) : Arg1 wi ((wi.alloc (.cells #[.int .i64 t] 3)).alloc (.cells #[] 3)).drew (wi.heap.size + 1) wi.heap.size t := by
  refine ⟨?_, ?_, by simp, by simp; omega, (((Below.refl _ wi).alloc (Nat.le_refl _) _).alloc (by simp) _).drew⟩
  · have h := World.ownsRow_made (base := wi.heap.size) (e := 3) (size := 1) (wi.alloc (.cells #[.int .i64 t] 3)) #[] 0 (by simp) (by decide) rfl
    rw [World.size_alloc] at h
    exact h.drew
  · have h := (lit1 (w := wi) rfl t).below ((Below.refl _ (wi.alloc (.cells #[.int .i64 t] 3))).alloc (Nat.le_refl _) (.cells #[] 3)) (Nat.le_refl _)
    exact h
end Go.Proofs.YtkbclcgdkbhgdaaGreat
namespace Go.Proofs.YtkbclcgdkbhgdaaGreat
open Go.RowKit Go.BigFrame
set_option linter.unusedVariables false

theorem topF_len {list : List Int} {rows : List Nat} (h4 : list.length ≤ 4) (m : Nat) : ∀ pre, (topF list rows m pre).length ≤ 4 ^ m := by
  induction m with
  | zero => intro pre; simp [topF]
  | succ m ih =>
    intro pre
    simp only [topF]
    have : ∀ (l : List Int) (f : Int → List (List Int)), (∀ t, (f t).length ≤ 4 ^ m) → (l.flatMap f).length ≤ l.length * 4 ^ m := by
      intro l f hf
      induction l with
      | nil => simp
      | cons x r ihl =>
        rw [List.flatMap_cons, List.length_append, List.length_cons, Nat.add_mul, Nat.one_mul]
        have := hf x
        omega
    refine Nat.le_trans (this list _ fun t => ?_) ?_
    · split
      · exact ih _
      · simp
    · rw [Nat.pow_succ, Nat.mul_comm]
      exact Nat.mul_le_mul_left _ h4
theorem flat_len {f : Int → List (List Int)} {M : Nat} (hf : ∀ t, (f t).length ≤ M) (l : List Int) : (l.flatMap f).length ≤ l.length * M := by
  induction l with
  | nil => simp
  | cons x r ihl =>
    rw [List.flatMap_cons, List.length_append, List.length_cons, Nat.add_mul, Nat.one_mul]
    have := hf x
    omega
theorem flat_snoc {f : Int → List (List Int)} {list : List Int} {k : Nat} {t : Int} (h : list[k]? = some t) : (list.take (k + 1)).flatMap f = (list.take k).flatMap f ++ f t := by
  rw [take_snoc h, List.flatMap_append]; simp
/-- Whether t may come next, as far as the first q of the list tell. -/
def topOk (list : List Int) (rows : List Nat) (pre : List Int) (t : Int) (q : Nat) : Bool := !(pre.any fun y => y == t) && (list.take q).all (fun v => !edgeB rows v t || pre.any fun y => y == v)
theorem topOk_succ {list : List Int} {rows : List Nat} {pre : List Int} {t v : Int} {q : Nat} (h : list[q]? = some v) : topOk list rows pre t (q + 1) = (topOk list rows pre t q && (!edgeB rows v t || pre.any fun y => y == v)) := by
  unfold topOk
  rw [take_snoc h, List.all_append]
  simp [Bool.and_assoc]
theorem topOk_le {list : List Int} {rows : List Nat} {pre : List Int} {t : Int} {q : Nat} (h : topOk list rows pre t q = false) : topOk list rows pre t list.length = false := by
  cases h' : topOk list rows pre t list.length
  · rfl
  · exfalso
    have h2 : topOk list rows pre t q = true := by
      unfold topOk at h' ⊢
      rw [Bool.and_eq_true] at h' ⊢
      refine ⟨h'.1, List.all_eq_true.2 fun x hx => ?_⟩
      exact (List.all_eq_true.1 h'.2) x (by rw [List.take_length]; exact List.mem_of_mem_take hx)
    rw [h] at h2
    cases h2
/-- What the orders that go on with t are. -/
def topN (list : List Int) (rows : List Nat) (m : Nat) (pre : List Int) (t : Int) : List (List Int) := if topOk list rows pre t list.length then topF list rows m (pre ++ [t]) else []
theorem topF_succ {list : List Int} {rows : List Nat} {m : Nat} {pre : List Int} : topF list rows (m + 1) pre = list.flatMap (topN list rows m pre) := by
  simp only [topF]
  refine flat_congr fun t _ => ?_
  unfold topN topOk
  rw [List.take_length]
theorem topN_len {list : List Int} {rows : List Nat} (h4 : list.length ≤ 4) {m : Nat} (hm : m ≤ 4) {pre : List Int} (t : Int) : (topN list rows m pre t).length ≤ 256 := by
  have h1 : (4:Nat) ^ m ≤ 4 ^ 4 := Nat.pow_le_pow_right (by omega) hm
  unfold topN
  split
  · exact Nat.le_trans (topF_len h4 m _) (by simpa using h1)
  · simp

/-- What the inner loop knows. -/
structure TopAt (A B R : Option Addr) (n h : Nat) (list pre : List Int) (rows : List Nat) (w : World) : Prop where
  list : RInts w A n list
  pre : RInts w B h pre
  rows : RInts w R 4 (rowsI rows)
theorem TopAt.below {A B R : Option Addr} {n h : Nat} {list pre : List Int} {rows : List Nat} {w w' : World} (t : TopAt A B R n h list pre rows w) (hb : Below w.heap.size w w') : TopAt A B R n h list pre rows w' :=
  ⟨t.list.below hb (Nat.le_refl _), t.pre.below hb (Nat.le_refl _), t.rows.below hb (Nat.le_refl _)⟩

/-- What the recursive call is handed. -/
def Arg2 (wi w2 : World) (v2 : Value) (h : Nat) (xs : List Int) : Prop := ∃ B2 c2, v2 = .slice B2 h c2 ∧ RInts w2 B2 h xs ∧ Below wi.heap.size wi w2
theorem Arg2.of {wi Wa w2 : World} {v v2 : Value} {n h : Nat} {xs ys : List Int} (hb : Below wi.heap.size wi Wa) (hown : Wa.ownsRow wi.heap.size 3 1 v n (intCells xs)) (hg : Wa.grownBy w2 v.ownBlock) (h2 : w2.ownsRow wi.heap.size 3 1 v2 h (intCells ys)) (hh : h ≤ 100) : Arg2 wi w2 v2 h ys := by
  obtain ⟨B2, c2, rfl, hc2⟩ := own_form2 h2
  exact ⟨B2, c2, rfl, RInts.of_own h2 (by omega), Below.own hb hown (Nat.le_refl _) hg⟩

set_option maxRecDepth 100000 in
set_option maxHeartbeats 4000000 in
theorem top_any (m : Nat) : ∀ (A B R : Option Addr) (n c h ch rc : Nat) (list pre : List Int) (rows : List Nat) (w : World), TopAt A B R n h list pre rows w → Rows4 rows → (∀ t ∈ list, 0 ≤ t ∧ t ≤ 3) → n ≤ 4 → h + m = n →
    Calls Tryz.prog 26 #[.slice A n c, .slice R 4 rc, .slice B h ch] w (RetLists w (topF list rows m pre)) := by
  induction m with
  | zero =>
    intro A B R n c h ch rc list pre rows w ht h4 hr hn4 hh
    have hl := ht.list.1
    have hp := ht.pre.1
    obtain rfl : h = n := by omega
    have HP := Lib.hid ht.pre
    have HST : Hid ((w.alloc (.cells #[] 3)).ownsRow w.heap.size 3 1 (.slice (some ⟨w.heap.size, 0, none⟩) 0 0) 0 (intCells [])) :=
      World.ownsRow_made w #[] 0 (Nat.le_refl _) (by decide) rfl
    have HP1 : Hid (RInts (w.alloc (.cells #[] 3)) B h pre) := ht.pre.below ((Below.refl _ w).alloc (Nat.le_refl _) _) (Nat.le_refl _)
    have hT : Hid (topF list rows 0 pre = [pre]) := rfl
    clear ht h4 hr
    go_enter Tryz.func26, Tryz.ntmps26
    go_wp2_with (at_builtin; refine app_ints (.tmp 16) (.tmp 17) HST.out (by simp) HP1.out (by omega) rfl rfl rfl rfl ?_; intro v1 w1 hown1 hg1 hat1; rw [List.nil_append, Nat.zero_add] at hown1; obtain ⟨A1, c1, rfl, hc1⟩ := own_form2 hown1)
    have hb1 : Below w.heap.size w w1 := Below.own ((Below.refl _ w).alloc (Nat.le_refl _) _) HST.out (Nat.le_refl _) hg1
    have hri := FreshInts.of_own (w0 := w) hown1 (Nat.le_refl _) (by omega)
    have hs1 := hb1.size
    have HO : Hid (RetLists w [pre] (.returned (.slice (some ⟨w1.heap.size, 0, none⟩) 1 1)) (w1.alloc (.cells #[.slice A1 h c1] 32))) :=
      RetLists.lit1 hp hc1 hri hb1
    clear hown1 hg1 hat1 hri HST HP1
    go_ret
    rw [hT.out]
    exact HO.out
  | succ m ih =>
    intro A B R n c h ch rc list pre rows w ht h4 hr hn4 hh
    have hl := ht.list.1
    have hp := ht.pre.1
    have HT0 := Lib.hid ht
    have H4 := Lib.hid h4
    have HR := Lib.hid hr
    have HIH := Lib.hid ih
    have hhn : ¬ h = n := by omega
    have hdn : ((h : Int) == (n : Int)) = false := by simp; omega
    have HSUC : Hid (topF list rows (m + 1) pre = list.flatMap (topN list rows m pre)) := topF_succ
    have HLEN : Hid (∀ k, ((list.take k).flatMap (topN list rows m pre)).length ≤ 1024) := by
      intro k
      have h1 := flat_len (f := topN list rows m pre) (M := 256) (fun t => topN_len (by omega) (by omega) t) (list.take k)
      have : (list.take k).length ≤ 4 := by simp; omega
      have : (list.take k).length * 256 ≤ 4 * 256 := Nat.mul_le_mul_right _ this
      omega
    clear ht h4 hr ih
    generalize hF : topN list rows m pre = F at *
    have HF : Hid (∀ t, F t = if topOk list rows pre t list.length then topF list rows m (pre ++ [t]) else []) := by
      intro t; rw [← hF]; rfl
    clear hF
    have HST : Hid ((w.alloc (.cells #[] 32)).ownsRow w.heap.size 32 1 (.slice (some ⟨w.heap.size, 0, none⟩) 0 0) 0 []) :=
      World.ownsRow_made w #[] 0 (Nat.le_refl _) (by decide) rfl
    go_enter Tryz.func26, Tryz.ntmps26
    go_wp2_with fail
    go_loopw [7, 8] (fun ov i wr => ∃ (k : Nat), k ≤ n ∧ i = .int .i64 k ∧ RowsInv w wr ov ((list.take k).flatMap F)) (fun _ i _ => n - (intOf i).toNat)
    case atStart => exact ⟨0, Nat.zero_le _, rfl, 0, [], by omega, rfl, (Below.refl _ w).alloc (Nat.le_refl _) _, HST.out, by simpa using RowsR.nil⟩
    case round =>
      clear HST
      obtain ⟨k, hk, rfl, hinv⟩ := hrel
      have HINV := Lib.hid hinv
      obtain ⟨N, rv, hN, hNl, hb, hown, hrows⟩ := hinv
      obtain ⟨Ao, co, rfl, hco⟩ := own_form2 hown
      have HNL := Lib.hid hNl
      clear hNl
      by_cases hlt : k < n
      · have HT := Lib.hid (HT0.out.below hb)
        obtain ⟨b, off, t, rfl, hbl, ho, c0⟩ := HT.out.list.at_ hlt
        have htr := HR.out t (List.mem_of_getElem? ho)
        have HS := Lib.hid (flat_snoc (f := F) ho)
        have hcH : ∀ (W : World) (x : Int), Below wr.heap.size wr W → Calls Tryz.prog 55 #[.slice B h ch, .int .i64 x] W fun e w' => e = .returned (.bool (pre.any fun y => y == x)) ∧ Below W.heap.size W w' := fun W x hW =>
          hasInt_any B h ch pre x W (HT.out.pre.below hW (Nat.le_refl _))
        have HH := Lib.hid hcH
        have HOWN := Lib.hid hown
        have HROWS := Lib.hid hrows
        have HO := Lib.hid ho
        clear hcH hown hrows ho
        go_wp2_with fail
        refine (HH.out _ _ (Below.refl _ _)).mono ?_
        rintro e w1 ⟨rfl, hb1⟩
        go_wp2_with fail
        have HB1 : Hid (Below w.heap.size w w1) := hb.trans (hb1.mono hb.size)
        go_loopw [9, 10] (fun ok i wi => ∃ q : Nat, q ≤ n ∧ i = .int .i64 q ∧ ok = .bool (topOk list rows pre t q) ∧ Below wr.heap.size wr wi) (fun _ i _ => n - (intOf i).toNat)
        case atStart => exact ⟨0, Nat.zero_le _, rfl, by simp [topOk], hb1⟩
        case round =>
          clear hb1 HB1
          obtain ⟨wi, rfl⟩ : ∃ wi : World, wi = wr := ⟨_, rfl⟩
          obtain ⟨q, hq, rfl, rfl, hbi⟩ := hrel
          by_cases hlt2 : q < n
          · have HS2 : Hid (∀ v, list[q]? = some v → topOk list rows pre t (q + 1) = (topOk list rows pre t q && (!edgeB rows v t || pre.any fun y => y == v))) := fun v hv => topOk_succ hv
            have HFL : Hid (topOk list rows pre t q = false → F t = []) := fun h => by rw [HF.out, topOk_le h]; rfl
            generalize topOk list rows pre t q = ok at *
            have Hbi := Lib.hid hbi
            clear hbi
            cases ok
            · go_wp2_with fail
              go_roundw
              case rel => exact ⟨k + 1, by omega, by go_num, by rw [HS.out, HFL.out (by first | rfl | trivial), List.append_nil]; exact HINV.out.later Hbi.out⟩
              case measure => simp [intOf]; omega
            · have HTi := HT.out.below Hbi.out
              obtain ⟨b', off', v, hbo, hbl2, ho2, c2⟩ := HTi.list.at_ hlt2
              injection hbo with hbo
              injection hbo with e1 e2 _
              subst e1; subst e2
              have hvr := HR.out v (List.mem_of_getElem? ho2)
              obtain ⟨vn, rfl⟩ := Int.eq_ofNat_of_zero_le hvr.1
              obtain ⟨tn, rfl⟩ := Int.eq_ofNat_of_zero_le htr.1
              have hvn : vn < 4 := by omega
              have htn : tn < 4 := by omega
              obtain ⟨br, offr, rfl, hblr, c3, h16⟩ := rowsI_at3 H4.out HTi.rows hvn
              have hst := HS2.out _ ho2
              have hed : edgeB rows (vn : Int) (tn : Int) = (rows.getD vn 0).testBit tn := rfl
              rw [hed] at hst
              obtain ⟨eb, heb⟩ : ∃ eb, (rows.getD vn 0).testBit tn = eb := ⟨_, rfl⟩
              rw [heb] at hst
              have hcB : ∀ W : World, Calls Tryz.prog 56 #[.int .i64 ((rows.getD vn 0 : Nat) : Int), .int .i64 (tn : Int)] W fun e w' => e = .returned (.int .i64 (if eb then 1 else 0)) ∧ W = w' := fun W => by
                have := sbit_any (rows.getD vn 0) tn W (by omega) (by omega); rw [heb] at this; exact this
              have HCB := Lib.hid hcB
              have HST2 := Lib.hid hst
              have L1 := Later.cell c2
              have L2 := Later.cell c3
              have L3 := Later.cell ((Hbi.out.cell (p := ⟨b, off + k, none⟩) hbl).trans c0)
              have l1 : (vn : Int) < 4 := by omega
              have l2 : (0 : Int) ≤ (vn : Int) := by omega
              have l3 : (q : Int) < n := by omega
              have l4 : (k : Int) < n := by omega
              have l5 : (0 : Int) ≤ (q : Int) := by omega
              have l6 : (0 : Int) ≤ (k : Int) := by omega
              have hsi := Hbi.out.size
              clear HTi ho2 c2 c3 hst heb hcB hed HS2 HFL
              generalize rows.getD vn 0 = rk at *
              cases eb
              · go_wp2_with fail
                refine region_later (by kernel_rfl) (by kernel_rfl) ?_
                repeat (go_big_quiet_step ((go_at_call 56; exact later_same _ (HCB.out _))))
                refine wpQuiet_nil ?_
                rintro _ ⟨u, rfl⟩
                go_wp2_with fail
                go_roundw
                case rel => exact ⟨q + 1, by omega, by go_num, by rw [HST2.out]; rfl, Hbi.out.trans (u.2.mono hsi)⟩
                case measure => simp [intOf]; omega
              · obtain ⟨bc, hbc⟩ : ∃ bc, (pre.any fun y => y == (vn : Int)) = bc := ⟨_, rfl⟩
                have hcI : ∀ u : Later wi, Calls Tryz.prog 55 #[.slice B h ch, .int .i64 (vn : Int)] u.1 fun e w' => e = .returned (.bool bc) ∧ Below u.1.heap.size u.1 w' := fun u => by
                  have := HH.out u.1 (vn : Int) (Hbi.out.trans (u.2.mono hsi)); rw [hbc] at this; exact this
                have HCI := Lib.hid hcI
                have HST3 : Hid (topOk list rows pre (tn : Int) (q + 1) = bc) := by
                  show _ = _
                  rw [HST2.out, hbc]; simp
                clear hcI hbc HST2
                go_wp2_with fail
                refine region_later (by kernel_rfl) (by kernel_rfl) ?_
                repeat (go_big_quiet_step ((first | (go_at_call 56; exact later_same _ (HCB.out _)) | (go_at_call 55; exact later_call _ (HCI.out _)))))
                refine wpQuiet_nil ?_
                rintro _ ⟨u, rfl⟩
                go_wp2_with fail
                go_roundw
                case rel => exact ⟨q + 1, by omega, by go_num, by rw [HST3.out], Hbi.out.trans (u.2.mono hsi)⟩
                case measure => simp [intOf]; omega
          · have hqn : n = q := by omega
            subst hqn
            have HFT : Hid (F t = if topOk list rows pre t n = true then topF list rows m (pre ++ [t]) else []) := by
              have := HF.out t; rw [hl] at this; exact this
            obtain ⟨ok, hok⟩ : ∃ ok, topOk list rows pre t n = ok := ⟨_, rfl⟩
            rw [hok] at HFT ⊢
            have Hbi := Lib.hid hbi
            clear hbi hok
            cases ok
            · go_wp2_with fail
              go_roundw
              case rel => exact ⟨k + 1, by omega, by go_num, by rw [HS.out, HFT.out, if_neg (by simp), List.append_nil]; exact HINV.out.later Hbi.out⟩
              case measure => simp [intOf]; omega
            · have c0i := (Hbi.out.cell (p := ⟨b, off + k, none⟩) hbl).trans c0
              have HT2 := Lib.hid (HT.out.below Hbi.out)
              have HO2 := Lib.hid (own_below HOWN.out Hbi.out)
              have HR2 := Lib.hid (HROWS.out.below Hbi.out)
              have hbwi := hb.trans (Hbi.out.mono hb.size)
              have l4 : (k : Int) < n := by omega
              have l6 : (0 : Int) ≤ (k : Int) := by omega
              have HP2 : Hid (∀ W, Below wi.heap.size wi W → RInts W B h pre) := fun W hW => HT2.out.pre.below hW (Nat.le_refl _)
              have HBA : Hid (Below wi.heap.size wi (wi.alloc (.cells #[] 3)).drew) := ((Below.refl _ wi).alloc (Nat.le_refl _) _).drew
              have HEA : Hid ((wi.alloc (.cells #[] 3)).drew.ownsRow wi.heap.size 3 1 (.slice (some ⟨wi.heap.size, 0, none⟩) 0 0) 0 (intCells [])) := (lit1_own wi).drew
              have c0a : (wi.alloc (.cells #[] 3)).drew.cell? ⟨b, off + k, none⟩ = some (.int .i64 t) := (HBA.out.cell (p := ⟨b, off + k, none⟩) (Nat.lt_of_lt_of_le hbl Hbi.out.size)).trans c0i
              have HEB := Lib.hid (arg1_b wi t)
              have HEC := Lib.hid (arg1_c wi t)
              go_wp2_with fail
              have HFP : Hid (F t = topF list rows m (pre ++ [t])) := by
                show _ = _
                rw [HFT.out]; simp
              have HNM : Hid (∀ M, (topF list rows m (pre ++ [t])).length = M → N + M ≤ 1024) := by
                intro M hM
                have h1 := HLEN.out (k + 1)
                rw [HS.out, HFP.out, List.length_append, HNL.out, hM] at h1
                exact h1
              go_region_law (first
                | (refine step_ints (.tmp 68) (.tmp 69) (c := ch) (HEA.out) (HBA.out.size) (HP2.out _ HBA.out) ?_ ?_ ?_ ?_ ?_ ?_; (· omega); (· rfl); (· rfl); (· rfl); (· rfl); intro v1 w1' hown1 hg1 hat1; have hb1' := Below.own HBA.out HEA.out (Nat.le_refl _) hg1; have hcw := (hb1'.cell (p := ⟨b, off + k, none⟩) (Nat.lt_of_lt_of_le hbl Hbi.out.size)).trans c0i; have ha1' := hb1'.alloc hb1'.size (.cells #[.int .i64 t] 3 (0, 0)))
                | (refine step_ints (.tmp 68) (.tmp 69) (c := ch) (HEB.out.row) (HEB.out.below.size) (HP2.out _ HEB.out.below) ?_ ?_ ?_ ?_ ?_ ?_; (· omega); (· rfl); (· rfl); (· rfl); (· rfl); intro v1 w1' hown1 hg1 hat1; have hl1 := HEB.out.lit.grownAt hg1 HEB.out.lt HEB.out.ne; have hb1' := Below.own HEB.out.below HEB.out.row (Nat.le_refl _) hg1)
                | (refine step_ints (.tmp 68) (.tmp 69) (c := ch) (HEC.out.row) (HEC.out.below.size) (HP2.out _ HEC.out.below) ?_ ?_ ?_ ?_ ?_ ?_; (· omega); (· rfl); (· rfl); (· rfl); (· rfl); intro v1 w1' hown1 hg1 hat1; have hl1 := HEC.out.lit.grownAt hg1 HEC.out.lt HEC.out.ne; have hb1' := Below.own HEC.out.below HEC.out.row (Nat.le_refl _) hg1)
                | (refine step_ints (.tmp 70) (.tmp 75) (c := 1) (hown1.alloc _) (ha1'.size) (lit1 rfl t) ?_ ?_ ?_ ?_ ?_ ?_; (· omega); (· rfl); (· rfl); (· rfl); (· rfl); intro v2 w2' hown2 hg2 hat2; rw [List.nil_append, Nat.zero_add] at hown2; obtain ⟨B2, c2, rfl, hr2, hb2'⟩ := Arg2.of ha1' (hown1.alloc _) hg2 hown2 (by omega))
                | (refine step_ints (.tmp 70) (.tmp 75) (c := 1) (hown1) (hb1'.size) (hl1) ?_ ?_ ?_ ?_ ?_ ?_; (· omega); (· rfl); (· rfl); (· rfl); (· rfl); intro v2 w2' hown2 hg2 hat2; rw [List.nil_append, Nat.zero_add] at hown2; obtain ⟨B2, c2, rfl, hr2, hb2'⟩ := Arg2.of hb1' hown1 hg2 hown2 (by omega))
                | (go_simp; go_at_call 26; refine (HIH.out _ B2 R n c (h + 1) c2 rc list (pre ++ [t]) rows w2' ⟨HT2.out.list.below hb2' (Nat.le_refl _), hr2, HT2.out.rows.below hb2' (Nat.le_refl _)⟩ H4.out HR.out hn4 (by omega)).mono ?_; rintro e w3' hret; obtain ⟨A3, c3, M, rs, rfl, HM3, hc3, ho3, hr3, hb3'⟩ := hret.form; have hb23 := hb2'.trans (hb3'.mono hb2'.size); have hM := HNM.out M HM3.out; have own3 := own_below HO2.out hb23; have hbw3 := hbwi.trans (hb23.mono hbwi.size))
                | (refine step_rows (.tmp 65) (.tmp 77) (c := c3) (own3) (hbw3.size) (ho3.1) ?_ ?_ ?_ ?_ ?_ ?_; (· omega); (· rfl); (· rfl); (· rfl); (· rfl); intro v4 w4' hown4 hg4 hat4))
              all_goals
                have hinv : RowsInv w w4' v4 ((list.take (k + 1)).flatMap F) := by
                  rw [HS.out, HFP.out]
                  exact ⟨N + M, rv ++ rs, hM, by rw [List.length_append, HNL.out, HM3.out], Below.own hbw3 own3 (Nat.le_refl _) hg4, hown4,
                    ((HR2.out.below hb23).grown hg4 (own_noInt own3)).append ((hr3.since (Nat.le_trans hbwi.size hb2'.size)).grown hg4 (own_noInt own3))⟩
                have HINV4 := Lib.hid hinv
                clear hinv hown4 hg4 hat4 own3 hr3 ho3 hown2 hg2 hat2 hown1 hg1 hat1
                go_wp2_with fail
                go_roundw
                case rel => exact ⟨k + 1, by omega, by go_num, HINV4.out⟩
                case measure => simp [intOf]; omega
      · have e : list.take k = list := List.take_of_length_le (by omega)
        have hNl := HNL.out
        rw [e] at hrows hNl
        have HO : Hid (RetLists w (topF list rows (m + 1) pre) (.returned (.slice Ao N co)) wr) := by
          rw [HSUC.out]
          exact RetLists.of_own hNl hco hown (Nat.le_refl _) hrows hb
        clear hown hrows e hNl
        go_wp2_with fail
        go_ret
        exact HO.out
end Go.Proofs.YtkbclcgdkbhgdaaGreat
namespace Go.Proofs.YtkbclcgdkbhgdaaGreat
open Go.RowKit Go.BigFrame Go.Shelf
set_option linter.unusedVariables false

def goneN (pre : List Int) : Nat := pre.foldl (fun g t => g ||| 1 <<< t.toNat) 0
theorem goneN_snoc (pre : List Int) (t : Int) : goneN (pre ++ [t]) = goneN pre ||| 1 <<< t.toNat := by simp [goneN]
theorem gone_fold (i : Nat) : ∀ (pre : List Int) (g : Nat), (pre.foldl (fun g t => g ||| 1 <<< t.toNat) g).testBit i = (g.testBit i || pre.any fun u => u.toNat == i) := by
  intro pre
  induction pre with
  | nil => intro g; simp
  | cons t r ih =>
    intro g
    rw [List.foldl_cons, ih, List.any_cons, Nat.testBit_or, Bool.or_assoc]
    congr 1
    congr 1
    rw [Nat.one_shiftLeft, Nat.testBit_two_pow]
    by_cases h : t.toNat = i <;> simp [h]
theorem goneN_bit (pre : List Int) (i : Nat) : (goneN pre).testBit i = pre.any fun u => u.toNat == i := by
  unfold goneN; rw [gone_fold]; simp
theorem goneN_lt {pre : List Int} (h : ∀ t ∈ pre, 0 ≤ t ∧ t ≤ 3) : goneN pre < 16 := by
  refine Nat.lt_pow_two_of_testBit (n := 4) _ fun i hi => ?_
  rw [goneN_bit, List.any_eq_false]
  intro u hu
  have := h u hu
  simp
  omega
theorem gone_and {R : List Nat} {pre : List Int} {t : Int} : (R.getD t.toNat 0 &&& goneN pre = 0) ↔ (pre.any fun u => edgeB R t u) = false := by
  constructor
  · intro h
    rw [List.any_eq_false]
    intro u hu he
    have h1 : (R.getD t.toNat 0 &&& goneN pre).testBit u.toNat = false := by rw [h]; simp
    rw [Nat.testBit_and, goneN_bit] at h1
    unfold edgeB at he
    rw [he, Bool.true_and, List.any_eq_false] at h1
    exact h1 u hu (by simp)
  · intro h
    refine Nat.eq_of_testBit_eq fun i => ?_
    rw [Nat.testBit_and, goneN_bit, Nat.zero_testBit]
    cases hb : (pre.any fun u => u.toNat == i)
    · simp
    · rw [List.any_eq_true] at hb
      obtain ⟨u, hu, hui⟩ := hb
      have hui' : u.toNat = i := by simpa using hui
      rw [List.any_eq_false] at h
      have := h u hu
      unfold edgeB at this
      rw [hui'] at this
      simpa using this
/-- One more of an order that goes so far. -/
theorem acc_go {R : List Nat} {x : List Int} {k : Nat} {t : Int} (ht : x[k]? = some t) (ha : accB R [] (x.take k) = true) (h : R.getD t.toNat 0 &&& goneN (x.take k) = 0) : accB R [] (x.take (k + 1)) = true := by
  rw [take_snoc ht, accB_append, ha]
  simp only [accB, List.nil_append, Bool.true_and, Bool.and_true]
  rw [gone_and.1 h]; rfl
theorem acc_no {R : List Nat} {x : List Int} {k : Nat} {t : Int} (ht : x[k]? = some t) (h : ¬ (R.getD t.toNat 0 &&& goneN (x.take k) = 0)) : accB R [] x = false := by
  have e : x = x.take k ++ (t :: x.drop (k + 1)) := by
    rw [List.getElem?_eq_some_iff] at ht
    obtain ⟨hlt, hx⟩ := ht
    conv => lhs; rw [← List.take_append_drop k x]
    rw [List.drop_eq_getElem_cons hlt, hx]
  rw [e, accB_append]
  simp only [accB, List.nil_append]
  have : ((x.take k).any fun u => edgeB R t u) = true := by
    cases hb : ((x.take k).any fun u => edgeB R t u)
    · exact absurd (gone_and.2 hb) h
    · rfl
  rw [this]; simp
theorem gone_take {x : List Int} {k : Nat} {t : Int} (ht : x[k]? = some t) : goneN (x.take (k + 1)) = goneN (x.take k) ||| 1 <<< t.toNat := by
  rw [take_snoc ht, goneN_snoc]
theorem permF_len {list : List Int} (h4 : list.length ≤ 4) (m : Nat) : ∀ pre, (permF list m pre).length ≤ 4 ^ m := by
  induction m with
  | zero => intro pre; simp [permF]
  | succ m ih =>
    intro pre
    rw [permF_succ]
    refine Nat.le_trans (flat_len (M := 4 ^ m) (fun t => ?_) _) ?_
    · unfold permN
      split
      · simp
      · exact ih _
    · rw [Nat.pow_succ, Nat.mul_comm]; exact Nat.mul_le_mul_left _ h4
/-- What an order is made of. -/
theorem permF_sub {list : List Int} (m : Nat) : ∀ pre p, p ∈ permF list m pre → ∀ t ∈ p, t ∈ pre ∨ t ∈ list := by
  induction m with
  | zero => intro pre p hp t ht; simp only [permF, List.mem_singleton] at hp; subst hp; exact .inl ht
  | succ m ih =>
    intro pre p hp t ht
    rw [permF_succ, List.mem_flatMap] at hp
    obtain ⟨u, hu, hp⟩ := hp
    unfold permN at hp
    split at hp
    · cases hp
    · rcases ih _ _ hp t ht with h | h
      · rcases List.mem_append.1 h with h | h
        · exact .inl h
        · rw [List.mem_singleton] at h; subst h; exact .inr hu
      · exact .inr h
theorem permF_length {list : List Int} (m : Nat) : ∀ pre p, p ∈ permF list m pre → p.length = pre.length + m := by
  induction m with
  | zero => intro pre p hp; simp only [permF, List.mem_singleton] at hp; subst hp; simp
  | succ m ih =>
    intro pre p hp
    rw [permF_succ, List.mem_flatMap] at hp
    obtain ⟨u, hu, hp⟩ := hp
    unfold permN at hp
    split at hp
    · cases hp
    · have := ih _ _ hp; simp at this; omega

/-- No two of these slices lie in one block. -/
def ApartR (rv : List Value) : Prop := ∀ (i j : Nat) (a b : Addr) (n m c d : Nat), i ≠ j → rv[i]? = some (Value.slice (some a) n c) → rv[j]? = some (Value.slice (some b) m d) → a.block ≠ b.block
theorem ApartR.nil : ApartR [] := fun i j a b n m c d _ h => by simp at h
theorem ApartR.snoc {rv : List Value} {A : Option Addr} {n c : Nat} (h : ApartR rv) (hA : ∀ (i : Nat) (a : Addr) (m d : Nat) (b : Addr), A = some b → rv[i]? = some (Value.slice (some a) m d) → a.block ≠ b.block) : ApartR (rv ++ [Value.slice A n c]) := by
  intro i j a b n' m' c' d' hij hi hj
  have at2 : ∀ k a n'' c'', (rv ++ [Value.slice A n c])[k]? = some (.slice (some a) n'' c'') → rv[k]? = some (.slice (some a) n'' c'') ∨ (k = rv.length ∧ A = some a) := by
    intro k a n'' c'' hk
    rcases Nat.lt_or_ge k rv.length with h1 | h1
    · rw [List.getElem?_append_left h1] at hk; exact .inl hk
    · rw [List.getElem?_append_right h1] at hk
      rcases Nat.eq_zero_or_pos (k - rv.length) with h0 | h0
      · rw [h0] at hk
        simp only [List.getElem?_cons_zero, Option.some.injEq] at hk
        injection hk with e1 _ _
        exact .inr ⟨by omega, e1⟩
      · rw [List.getElem?_eq_none (by simp; omega)] at hk; cases hk
  rcases at2 i a _ _ hi with h1 | ⟨e1, h1⟩
  · rcases at2 j b _ _ hj with h2 | ⟨e2, h2⟩
    · exact h i j a b _ _ _ _ hij h1 h2
    · exact hA i a _ _ b h2 h1
  · rcases at2 j b _ _ hj with h2 | ⟨e2, h2⟩
    · exact fun e => hA j b _ _ a h1 h2 e.symm
    · omega
/-- The rows' blocks are there. -/
theorem RowsR.blocks {w0 w : World} {rv : List Value} {xss : List (List Int)} (h : RowsR w0 w rv xss) : ∀ (i : Nat) (a : Addr) (m d : Nat), rv[i]? = some (Value.slice (some a) m d) → a.block < w.heap.size := by
  intro i a m d hi
  have hl := (List.getElem?_eq_some_iff.1 hi).1
  obtain ⟨C, c, e, _, hr⟩ := h.2 i _ (List.getElem?_eq_getElem (by rw [← h.1]; exact hl))
  rw [hi] at e
  injection e with e
  injection e with e1 _ _
  obtain ⟨b, cur, e2, _, h2, _⟩ := hr.2 a e1.symm
  rw [e2]
  exact lt_of_block h2
/-- The call hands back these lists in new memory, each in a block of its own. -/
def RetListsA (w0 : World) (xss : List (List Int)) (e : Ending) (w : World) : Prop :=
  ∃ A c rv, e = .returned (.slice A xss.length c) ∧ xss.length ≤ c ∧ OuterR w0 w A xss.length rv ∧ RowsR w0 w rv xss ∧ ApartR rv ∧ Below w0.heap.size w0 w
theorem RetListsA.nil {w0 w : World} (h : Below w0.heap.size w0 w) : RetListsA w0 [] (.returned (.slice none 0 0)) w :=
  ⟨none, 0, [], rfl, Nat.le_refl _, ⟨⟨rfl, by simp, fun h => absurd h (by simp)⟩, fun ad h => by cases h⟩, RowsR.nil, ApartR.nil, h⟩
theorem RetListsA.lists {w0 w : World} {xss : List (List Int)} {e : Ending} (h : RetListsA w0 xss e w) : RetLists w0 xss e w := by
  obtain ⟨A, c, rv, h1, h2, h3, h4, _, h5⟩ := h
  exact ⟨A, c, rv, h1, h2, h3, h4, h5⟩

/-- What a loop over all orders has gathered in 'out', whose box lies at bo. -/
structure OutInv (w0 w : World) (bo q : Nat) (xss : List (List Int)) (V : World) : Prop where
  below : Below w0.heap.size w0 V
  frozen : V.frozen? ⟨bo, 0, none⟩ = false
  out : ∃ ov rv, V.cell? ⟨bo, 0, none⟩ = some ov ∧ V.ownsRow w0.heap.size 32 1 ov xss.length rv ∧ RowsR (six w) V rv xss ∧ ApartR rv ∧ ∀ g, ov.ownBlock = some g → g = q ∨ w.heap.size + 6 ≤ g
theorem own_turned {V W : World} {base : Nat} {e : TypeId} {size n : Nat} {v : Value} {xs : List Value} (h : V.ownsRow base e size v n xs) (hk : ∀ g, v.ownBlock = some g → W.heap[g]? = V.heap[g]?) : W.ownsRow base e size v n xs := by
  refine ⟨h.1, ?_⟩
  rcases h.2 with h1 | ⟨g, cap, cur, e1, h2, h3, h4⟩
  · exact .inl h1
  · exact .inr ⟨g, cap, cur, e1, h2, (hk g (by rw [e1]; simp [Value.ownBlock])).trans h3, h4⟩
theorem FreshInts.turned {w0 V W : World} {A : Option Addr} {n : Nat} {xs : List Int} (h : FreshInts w0 V A n xs) (hs : V.heap.size ≤ W.heap.size) (hk : ∀ g, w0.heap.size ≤ g → g < V.heap.size → (∃ cur, V.heap[g]? = some (.cells cur 3 (0, 0))) → W.heap[g]? = V.heap[g]?) : FreshInts w0 W A n xs := by
  have hblk : ∀ ad, A = some ad → ∃ b cur, ad = ⟨b, 0, none⟩ ∧ w0.heap.size ≤ b ∧ V.heap[b]? = some (.cells cur 3 (0, 0)) ∧ n ≤ cur.size ∧ W.heap[b]? = V.heap[b]? := fun ad had => by
    obtain ⟨b, cur, e, h1, h2, h3⟩ := h.2 ad had
    exact ⟨b, cur, e, h1, h2, h3, hk b h1 (lt_of_block h2) ⟨cur, h2⟩⟩
  refine ⟨⟨h.1.1, h.1.2.1, fun hn => ?_⟩, fun ad had => ?_⟩
  · obtain ⟨b, off, hA, hlt, hc⟩ := h.1.2.2 hn
    obtain ⟨b', cur, e, _, _, _, hkb⟩ := hblk _ hA
    injection e with e1 e2 _
    subst e1
    exact ⟨b, off, hA, by omega, fun i x hx => (World.cell?_of_block (w := V) (a := ⟨b, off + i, none⟩) hkb).trans (hc i x hx)⟩
  · obtain ⟨b, cur, e, h1, h2, h3, hkb⟩ := hblk ad had
    exact ⟨b, cur, e, h1, hkb.trans h2, h3⟩
theorem RowsR.turned {w0 V W : World} {rv : List Value} {xss : List (List Int)} (h : RowsR w0 V rv xss) (hs : V.heap.size ≤ W.heap.size) (hk : ∀ g, w0.heap.size ≤ g → g < V.heap.size → (∃ cur, V.heap[g]? = some (.cells cur 3 (0, 0))) → W.heap[g]? = V.heap[g]?) : RowsR w0 W rv xss :=
  ⟨h.1, fun i xs hi => by obtain ⟨C, c, e, hmc, hr⟩ := h.2 i xs hi; exact ⟨C, c, e, hmc, hr.turned hs hk⟩⟩
theorem OutInv.open_ {w0 w : World} {bo q : Nat} {xss : List (List Int)} {V W : World} (h : OutInv w0 w bo q xss V) (hq : q < w.heap.size) (hw : w0.heap.size ≤ w.heap.size) (hbo : bo < w.heap.size) (hst : LpStep w.heap.size V W) :
    Below w0.heap.size w0 W ∧ W.frozen? ⟨bo, 0, none⟩ = false ∧ ∃ ov rv, W.cell? ⟨bo, 0, none⟩ = some ov ∧ W.ownsRow w0.heap.size 32 1 ov xss.length rv ∧ RowsR (six w) W rv xss ∧ ApartR rv ∧ (∀ g, ov.ownBlock = some g → g = q ∨ w.heap.size + 6 ≤ g) ∧
      ∀ (i : Nat) (a : Addr) (m d : Nat), rv[i]? = some (Value.slice (some a) m d) → a.block < V.heap.size := by
  obtain ⟨hb, hf, ov, rv, hc, hown, hr, hap, hg⟩ := h
  have hbV : bo < V.heap.size := block_lt_of_cell hc
  have kb : W.heap[bo]? = V.heap[bo]? := hst.block bo hbV (by omega)
  refine ⟨⟨hst.os.trans hb.os, hst.tape.trans hb.tape, hst.output.trans hb.output, Nat.le_trans hb.size hst.size, fun k hk => (hst.block k (Nat.lt_of_lt_of_le hk hb.size) (by omega)).trans (hb.block k hk)⟩, ?_, ov, rv, (World.cell?_of_block (w := V) (a := ⟨bo, 0, none⟩) kb).trans hc, ?_, ?_, hap, hg, hr.blocks⟩
  · rw [World.frozen?_of_block (w := V) (a := ⟨bo, 0, none⟩) kb]; exact hf
  · refine own_turned hown fun g hge => hst.block g ?_ (by have := hg g hge; omega)
    rcases hown.2 with ⟨h1, _⟩ | ⟨g', cap, cur, e1, _, h3, _⟩
    · rw [h1] at hge; cases hge
    · rw [e1] at hge
      have : g' = g := by simpa [Value.ownBlock] using hge
      subst this
      exact lt_of_block h3
  · exact hr.turned hst.size fun g h6 hgV _ => hst.block g hgV (by rw [six_size] at h6; omega)
theorem OutInv.step {w0 w : World} {bo q : Nat} {xss : List (List Int)} {V W : World} (h : OutInv w0 w bo q xss V) (hq : q < w.heap.size) (hw : w0.heap.size ≤ w.heap.size) (hbo : bo < w.heap.size) (hst : LpStep w.heap.size V W) : OutInv w0 w bo q xss W := by
  obtain ⟨h1, h2, ov, rv, h3, h4, h5, h6, h7, _⟩ := h.open_ hq hw hbo hst
  exact ⟨h1, h2, ov, rv, h3, h4, h5, h6, h7⟩
theorem OutInv.start {w0 w : World} {bo q : Nat} (hb : Below w0.heap.size w0 w) (hc : w.cell? ⟨bo, 0, none⟩ = some (.slice (some ⟨q, 0, none⟩) 0 0)) (hf : w.frozen? ⟨bo, 0, none⟩ = false) (hown : w.ownsRow w0.heap.size 32 1 (.slice (some ⟨q, 0, none⟩) 0 0) 0 []) : OutInv w0 w bo q [] w :=
  ⟨hb, hf, _, [], hc, hown, RowsR.nil, ApartR.nil, fun g hg => .inl (by simpa [Value.ownBlock, eq_comm] using hg)⟩
/-- One order more in 'out': a list of the call's own, appended; the box of 'out' turned. -/
theorem OutInv.push {w0 w : World} {bo q : Nat} {xss : List (List Int)} {V V1 W : World} {ov ov' : Value} {rv : List Value} {A : Option Addr} {n : Nat} {x : List Int} (hw : w0.heap.size ≤ w.heap.size) (hbo : bo < w.heap.size) (hbo0 : w0.heap.size ≤ bo) (hq : q ≠ bo ∧ q < w.heap.size)
    (hb : Below w0.heap.size w0 V) (hf : V.frozen? ⟨bo, 0, none⟩ = false) (hc : V.cell? ⟨bo, 0, none⟩ = some ov) (hown : V.ownsRow w0.heap.size 32 1 ov xss.length rv) (hr : RowsR (six w) V rv xss) (hap : ApartR (rv ++ [.slice A n n])) (hg : ∀ g, ov.ownBlock = some g → g = q ∨ w.heap.size + 6 ≤ g)
    (hx : FreshInts (six w) V A n x) (hxl : x.length = n) (hb1 : Below V.heap.size V V1) (hlo : w.heap.size + 6 ≤ V.heap.size)
    (hown' : W.ownsRow w0.heap.size 32 1 ov' (xss.length + 1) (rv ++ [.slice A n n])) (hgr : V1.grownBy W ov.ownBlock) (hnew : ov'.ownBlock = ov.ownBlock ∨ ov'.ownBlock = some V1.heap.size) :
    OutInv w0 w bo q (xss ++ [x]) (W.setCell ⟨bo, 0, none⟩ ov') := by
  have hs1 := hb1.size
  have hgs := World.grownBy.size hgr
  have hboV : bo < V.heap.size := block_lt_of_cell hc
  have hown1 : V1.ownsRow w0.heap.size 32 1 ov xss.length rv := own_below hown hb1
  have hne : ov.ownBlock ≠ some bo := fun e => by have := hg bo e; omega
  have hWbo : W.heap[bo]? = V.heap[bo]? := (hgr.block bo (by omega) (fun e => hne e.symm)).trans (hb1.block bo hboV)
  have hbW : Below w0.heap.size w0 W := Below.own (hb.trans (hb1.mono hb.size)) hown1 (Nat.le_refl _) hgr
  have hint : ∀ g, ov.ownBlock = some g → ∀ cur, V1.heap[g]? ≠ some (.cells cur 3 (0, 0)) := own_noInt hown1
  have turn : ∀ g, V.heap.size > g → (∃ cur, V.heap[g]? = some (.cells cur 3 (0, 0))) → g ≠ bo → (W.setCell ⟨bo, 0, none⟩ ov').heap[g]? = V.heap[g]? := by
    intro g hgV ⟨cur, hcur⟩ hgb
    refine (Below.heap_setCell W _ _ g (by simpa using hgb)).trans ?_
    refine (hgr.block g (by omega) ?_).trans (hb1.block g hgV)
    intro e
    exact hint g e.symm cur ((hb1.block g hgV).trans hcur)
  refine ⟨hbW.setCell (by simpa using hbo0) _, ?_, ov', rv ++ [.slice A n n], World.cell?_setCell_same' _ _ _ ?_, ?_, ?_, hap, ?_⟩
  · rw [World.frozen?_setCell, World.frozen?_of_block (w := V) (a := ⟨bo, 0, none⟩) hWbo]; exact hf
  · rw [World.cell?_of_block (w := V) (a := ⟨bo, 0, none⟩) hWbo, hc]; rfl
  · rw [List.length_append, List.length_singleton]
    refine own_turned hown' fun g hge => Below.heap_setCell W _ _ g ?_
    intro e
    simp only at e
    subst e
    rcases hnew with h | h
    · rw [h] at hge; have := hg _ hge; omega
    · rw [h] at hge; injection hge with hge; omega
  · refine RowsR.append (hr.turned (by simp [World.setCell]; omega) fun g h6 hgV hcur => turn g hgV hcur (by rw [six_size] at h6; omega)) ?_
    exact RowsR.lit hxl (Nat.le_refl _) (hx.turned (by simp [World.setCell]; omega) fun g h6 hgV hcur => turn g hgV hcur (by rw [six_size] at h6; omega))
  · intro g hge
    rcases hnew with h | h
    · rw [h] at hge; exact hg g hge
    · rw [h] at hge; injection hge with hge; exact .inr (by omega)
/-- What such a push keeps of all else. -/
theorem push_keep {w : World} {bo q bx n0 : Nat} {V V1 W : World} {ov ov' : Value} (hbo : bo < w.heap.size) (hn0 : n0 ≤ bo ∧ n0 ≤ q) (hne : bx ≠ bo ∧ bx ≠ q ∧ bx < w.heap.size) (hq : q < w.heap.size)
    (hg : ∀ g, ov.ownBlock = some g → g = q ∨ w.heap.size + 6 ≤ g) (hn0w : n0 ≤ w.heap.size) (hb1 : Below V.heap.size V V1) (hgr : V1.grownBy W ov.ownBlock) :
    BdKeep w.heap.size bx n0 V (W.setCell ⟨bo, 0, none⟩ ov') := by
  have hs1 := hb1.size
  have hgs := World.grownBy.size hgr
  refine ⟨by simp [World.setCell]; omega, fun k hk hc => ?_⟩
  refine (Below.heap_setCell W _ _ k ?_).trans ((hgr.block k (by omega) ?_).trans (hb1.block k hk))
  · simp only; omega
  · intro e
    have := hg k e.symm
    omega
theorem push_cell {w : World} {bo q p : Nat} {V V1 W : World} {ov ov' v : Value} (hg : ∀ g, ov.ownBlock = some g → g = q ∨ w.heap.size + 6 ≤ g) (hp : p < w.heap.size) (hpq : p ≠ q) (hpb : p ≠ bo) (hb1 : Below V.heap.size V V1) (hgr : V1.grownBy W ov.ownBlock)
    (hc : V.cell? ⟨p, 0, none⟩ = some v) : (W.setCell ⟨bo, 0, none⟩ ov').cell? ⟨p, 0, none⟩ = some v := by
  have hpV : p < V.heap.size := block_lt_of_cell hc
  have hs1 := hb1.size
  refine (World.cell?_of_block (w := V) (a := ⟨p, 0, none⟩) ?_).trans hc
  refine (Below.heap_setCell W _ _ p (by simpa using hpb)).trans ((hgr.block p (by omega) ?_).trans (hb1.block p hpV))
  intro e
  have := hg p e.symm
  omega
end Go.Proofs.YtkbclcgdkbhgdaaGreat
