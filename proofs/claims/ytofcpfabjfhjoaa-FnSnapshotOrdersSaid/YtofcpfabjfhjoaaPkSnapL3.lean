/-
  The texts that the proof rests on, joined: part 3.
-/
import Derived.Deep.RegionLaw
import Derived.IntWalk
import Derived.Scope
import Derived.WalkMore
import Derived.Test.YtofcpfabjfhjoaaRows
import Derived.Shelf.SortM.Plain
import Derived.Shelf.SortM.SortNone
import Derived.Sort.OwnSortedInts
import Derived.RangeFuncBox
import Derived.RangeFuncWrites
import Derived.Maps.AppendAt
import Derived.StillTailTactics
import Derived.Test.YtofcpfabjfhjoaaPkSnapL2
namespace Go.Proofs.Ytofcpfabjfhjoaa
open Go.RowKit Go.BigFrame
set_option linter.unusedVariables false

theorem topF_len {list : List Int} {rows : List Nat} (h4 : list.length ≤ 4) (m : Nat) : ∀ pre, (topF list rows m pre).length ≤ 4 ^ m := by
  induction m with
  | zero => intro pre; simp [topF]
  | succ m ih =>
    intro pre
    simp only [topF]
    have : ∀ (l : List Int) (f : Int → List (List Int)), (∀ t, (f t).length ≤ 4 ^ m) → (l.flatMap f).length ≤ l.length * 4 ^ m := by
      intro l f hf
      induction l with
      | nil => simp
      | cons x r ihl =>
        rw [List.flatMap_cons, List.length_append, List.length_cons, Nat.add_mul, Nat.one_mul]
        have := hf x
        omega
    refine Nat.le_trans (this list _ fun t => ?_) ?_
    · split
      · exact ih _
      · simp
    · rw [Nat.pow_succ, Nat.mul_comm]
      exact Nat.mul_le_mul_left _ h4
theorem flat_len {f : Int → List (List Int)} {M : Nat} (hf : ∀ t, (f t).length ≤ M) (l : List Int) : (l.flatMap f).length ≤ l.length * M := by
  induction l with
  | nil => simp
  | cons x r ihl =>
    rw [List.flatMap_cons, List.length_append, List.length_cons, Nat.add_mul, Nat.one_mul]
    have := hf x
    omega
theorem flat_snoc {f : Int → List (List Int)} {list : List Int} {k : Nat} {t : Int} (h : list[k]? = some t) : (list.take (k + 1)).flatMap f = (list.take k).flatMap f ++ f t := by
  rw [take_snoc h, List.flatMap_append]; simp
/-- Whether t may come next, as far as the first q of the list tell. -/
def topOk (list : List Int) (rows : List Nat) (pre : List Int) (t : Int) (q : Nat) : Bool := !(pre.any fun y => y == t) && (list.take q).all (fun v => !edgeB rows v t || pre.any fun y => y == v)
theorem topOk_succ {list : List Int} {rows : List Nat} {pre : List Int} {t v : Int} {q : Nat} (h : list[q]? = some v) : topOk list rows pre t (q + 1) = (topOk list rows pre t q && (!edgeB rows v t || pre.any fun y => y == v)) := by
  unfold topOk
  rw [take_snoc h, List.all_append]
  simp [Bool.and_assoc]
theorem topOk_le {list : List Int} {rows : List Nat} {pre : List Int} {t : Int} {q : Nat} (h : topOk list rows pre t q = false) : topOk list rows pre t list.length = false := by
  cases h' : topOk list rows pre t list.length
  · rfl
  · exfalso
    have h2 : topOk list rows pre t q = true := by
      unfold topOk at h' ⊢
      rw [Bool.and_eq_true] at h' ⊢
      refine ⟨h'.1, List.all_eq_true.2 fun x hx => ?_⟩
      exact (List.all_eq_true.1 h'.2) x (by rw [List.take_length]; exact List.mem_of_mem_take hx)
    rw [h] at h2
    cases h2
/-- What the orders that go on with t are. -/
def topN (list : List Int) (rows : List Nat) (m : Nat) (pre : List Int) (t : Int) : List (List Int) := if topOk list rows pre t list.length then topF list rows m (pre ++ [t]) else []
theorem topF_succ {list : List Int} {rows : List Nat} {m : Nat} {pre : List Int} : topF list rows (m + 1) pre = list.flatMap (topN list rows m pre) := by
  simp only [topF]
  refine flat_congr fun t _ => ?_
  unfold topN topOk
  rw [List.take_length]
theorem topN_len {list : List Int} {rows : List Nat} (h4 : list.length ≤ 4) {m : Nat} (hm : m ≤ 4) {pre : List Int} (t : Int) : (topN list rows m pre t).length ≤ 256 := by
  have h1 : (4:Nat) ^ m ≤ 4 ^ 4 := Nat.pow_le_pow_right (by omega) hm
  unfold topN
  split
  · exact Nat.le_trans (topF_len h4 m _) (by simpa using h1)
  · simp

/-- What the inner loop knows. -/
structure TopAt (A B R : Option Addr) (n h : Nat) (list pre : List Int) (rows : List Nat) (w : World) : Prop where
  list : RInts w A n list
  pre : RInts w B h pre
  rows : RInts w R 4 (rowsI rows)
theorem TopAt.below {A B R : Option Addr} {n h : Nat} {list pre : List Int} {rows : List Nat} {w w' : World} (t : TopAt A B R n h list pre rows w) (hb : Below w.heap.size w w') : TopAt A B R n h list pre rows w' :=
  ⟨t.list.below hb (Nat.le_refl _), t.pre.below hb (Nat.le_refl _), t.rows.below hb (Nat.le_refl _)⟩

/-- The literal slice of one number and the empty one, as they lie when the orders begin. -/
theorem lit1_own (w : World) : (w.alloc (.cells #[] 3)).ownsRow w.heap.size 3 1 (.slice (some ⟨w.heap.size, 0, none⟩) 0 0) 0 (intCells []) := World.ownsRow_made w #[] 0 (Nat.le_refl _) (by decide) rfl
theorem RInts.grownAt {w w' : World} {g n : Nat} {xs : List Int} {row : Option Nat} (h : RInts w (some ⟨g, 0, none⟩) n xs) (hg : w.grownBy w' row) (hlt : g < w.heap.size) (hne : row ≠ some g) : RInts w' (some ⟨g, 0, none⟩) n xs := by
  have hk := hg.block g hlt hne.symm
  refine ⟨h.1, h.2.1, fun hn => ?_⟩
  obtain ⟨b, off, hA, hl, hc⟩ := h.2.2 hn
  injection hA with hA
  injection hA with e1 e2 _
  subst e1; subst e2
  have hs := World.grownBy.size hg
  exact ⟨g, 0, rfl, by omega, fun i x hx => (World.cell?_of_block (w := w) (a := ⟨g, 0 + i, none⟩) hk).trans (hc i x hx)⟩
/-- The first append of a call's argument, however the region draws. -/
structure Arg1 (wi Wa : World) (ob lb : Nat) (t : Int) : Prop where
  row : Wa.ownsRow wi.heap.size 3 1 (.slice (some ⟨ob, 0, none⟩) 0 0) 0 (intCells [])
  lit : RInts Wa (some ⟨lb, 0, none⟩) 1 [t]
  ne : some ob ≠ some lb
  lt : lb < Wa.heap.size
  below : Below wi.heap.size wi Wa
theorem arg1_b (wi : World) (t : Int) : Arg1 wi ((wi.alloc (.cells #[] 3)).alloc (.cells #[.int .i64 t] 3)).drew wi.heap.size (wi.heap.size + 1) t := by
  refine ⟨((lit1_own wi).alloc _).drew, ?_, by simp, by simp, (((Below.refl _ wi).alloc (Nat.le_refl _) _).alloc (by simp) _).drew⟩
  have h := lit1 (w := wi.alloc (.cells #[] 3)) (H := wi.heap.size + 1) (by simp) t
  exact h
theorem arg1_c (wi : World) (t : Int) : Arg1 wi ((wi.alloc (.cells #[.int .i64 t] 3)).alloc (.cells #[] 3)).drew (wi.heap.size + 1) wi.heap.size t := by
  refine ⟨?_, ?_, by simp, by simp; omega, (((Below.refl _ wi).alloc (Nat.le_refl _) _).alloc (by simp) _).drew⟩
  · have h := World.ownsRow_made (base := wi.heap.size) (e := 3) (size := 1) (wi.alloc (.cells #[.int .i64 t] 3)) #[] 0 (by simp) (by decide) rfl
    rw [World.size_alloc] at h
    exact h.drew
  · have h := (lit1 (w := wi) rfl t).below ((Below.refl _ (wi.alloc (.cells #[.int .i64 t] 3))).alloc (Nat.le_refl _) (.cells #[] 3)) (Nat.le_refl _)
    exact h
/-- What the recursive call is handed. -/
def Arg2 (wi w2 : World) (v2 : Value) (h : Nat) (xs : List Int) : Prop := ∃ B2 c2, v2 = .slice B2 h c2 ∧ RInts w2 B2 h xs ∧ Below wi.heap.size wi w2
theorem Arg2.of {wi Wa w2 : World} {v v2 : Value} {n h : Nat} {xs ys : List Int} (hb : Below wi.heap.size wi Wa) (hown : Wa.ownsRow wi.heap.size 3 1 v n (intCells xs)) (hg : Wa.grownBy w2 v.ownBlock) (h2 : w2.ownsRow wi.heap.size 3 1 v2 h (intCells ys)) (hh : h ≤ 100) : Arg2 wi w2 v2 h ys := by
  obtain ⟨B2, c2, rfl, hc2⟩ := own_form2 h2
  exact ⟨B2, c2, rfl, RInts.of_own h2 (by omega), Below.own hb hown (Nat.le_refl _) hg⟩

set_option maxRecDepth 100000 in
set_option maxHeartbeats 4000000 in
theorem top_any (m : Nat) : ∀ (A B R : Option Addr) (n c h ch rc : Nat) (list pre : List Int) (rows : List Nat) (w : World), TopAt A B R n h list pre rows w → Rows4 rows → (∀ t ∈ list, 0 ≤ t ∧ t ≤ 3) → n ≤ 4 → h + m = n →
    Calls Try.prog 95 #[.slice A n c, .slice R 4 rc, .slice B h ch] w (RetLists w (topF list rows m pre)) := by
  induction m with
  | zero =>
    intro A B R n c h ch rc list pre rows w ht h4 hr hn4 hh
    have hl := ht.list.1
    have hp := ht.pre.1
    obtain rfl : h = n := by omega
    have HP := Lib.hid ht.pre
    have HST : Hid ((w.alloc (.cells #[] 3)).ownsRow w.heap.size 3 1 (.slice (some ⟨w.heap.size, 0, none⟩) 0 0) 0 (intCells [])) :=
      World.ownsRow_made w #[] 0 (Nat.le_refl _) (by decide) rfl
    have HP1 : Hid (RInts (w.alloc (.cells #[] 3)) B h pre) := ht.pre.below ((Below.refl _ w).alloc (Nat.le_refl _) _) (Nat.le_refl _)
    have hT : Hid (topF list rows 0 pre = [pre]) := rfl
    clear ht h4 hr
    go_enter Try.func95, Try.ntmps95
    go_wp2_with (at_builtin; refine app_ints (.tmp 16) (.tmp 17) HST.out (by simp) HP1.out (by omega) rfl rfl rfl rfl ?_; intro v1 w1 hown1 hg1 hat1; rw [List.nil_append, Nat.zero_add] at hown1; obtain ⟨A1, c1, rfl, hc1⟩ := own_form2 hown1)
    have hb1 : Below w.heap.size w w1 := Below.own ((Below.refl _ w).alloc (Nat.le_refl _) _) HST.out (Nat.le_refl _) hg1
    have hri := FreshInts.of_own (w0 := w) hown1 (Nat.le_refl _) (by omega)
    have hs1 := hb1.size
    have HO : Hid (RetLists w [pre] (.returned (.slice (some ⟨w1.heap.size, 0, none⟩) 1 1)) (w1.alloc (.cells #[.slice A1 h c1] 25))) :=
      RetLists.lit1 hp hc1 hri hb1
    clear hown1 hg1 hat1 hri HST HP1
    go_ret
    rw [hT.out]
    exact HO.out
  | succ m ih =>
    intro A B R n c h ch rc list pre rows w ht h4 hr hn4 hh
    have hl := ht.list.1
    have hp := ht.pre.1
    have HT0 := Lib.hid ht
    have H4 := Lib.hid h4
    have HR := Lib.hid hr
    have HIH := Lib.hid ih
    have hhn : ¬ h = n := by omega
    have hdn : ((h : Int) == (n : Int)) = false := by simp; omega
    have HSUC : Hid (topF list rows (m + 1) pre = list.flatMap (topN list rows m pre)) := topF_succ
    have HLEN : Hid (∀ k, ((list.take k).flatMap (topN list rows m pre)).length ≤ 1024) := by
      intro k
      have h1 := flat_len (f := topN list rows m pre) (M := 256) (fun t => topN_len (by omega) (by omega) t) (list.take k)
      have : (list.take k).length ≤ 4 := by simp; omega
      have : (list.take k).length * 256 ≤ 4 * 256 := Nat.mul_le_mul_right _ this
      omega
    clear ht h4 hr ih
    generalize hF : topN list rows m pre = F at *
    have HF : Hid (∀ t, F t = if topOk list rows pre t list.length then topF list rows m (pre ++ [t]) else []) := by
      intro t; rw [← hF]; rfl
    clear hF
    have HST : Hid ((w.alloc (.cells #[] 25)).ownsRow w.heap.size 25 1 (.slice (some ⟨w.heap.size, 0, none⟩) 0 0) 0 []) :=
      World.ownsRow_made w #[] 0 (Nat.le_refl _) (by decide) rfl
    go_enter Try.func95, Try.ntmps95
    go_wp2_with fail
    go_loopw [7, 8] (fun ov i wr => ∃ (k : Nat), k ≤ n ∧ i = .int .i64 k ∧ RowsInv w wr ov ((list.take k).flatMap F)) (fun _ i _ => n - (intOf i).toNat)
    case atStart => exact ⟨0, Nat.zero_le _, rfl, 0, [], by omega, rfl, (Below.refl _ w).alloc (Nat.le_refl _) _, HST.out, by simpa using RowsR.nil⟩
    case round =>
      clear HST
      obtain ⟨k, hk, rfl, hinv⟩ := hrel
      have HINV := Lib.hid hinv
      obtain ⟨N, rv, hN, hNl, hb, hown, hrows⟩ := hinv
      obtain ⟨Ao, co, rfl, hco⟩ := own_form2 hown
      have HNL := Lib.hid hNl
      clear hNl
      by_cases hlt : k < n
      · have HT := Lib.hid (HT0.out.below hb)
        obtain ⟨b, off, t, rfl, hbl, ho, c0⟩ := HT.out.list.at_ hlt
        have htr := HR.out t (List.mem_of_getElem? ho)
        have HS := Lib.hid (flat_snoc (f := F) ho)
        have hcH : ∀ (W : World) (x : Int), Below wr.heap.size wr W → Calls Try.prog 94 #[.slice B h ch, .int .i64 x] W fun e w' => e = .returned (.bool (pre.any fun y => y == x)) ∧ Below W.heap.size W w' := fun W x hW =>
          hasInt_any B h ch pre x W (HT.out.pre.below hW (Nat.le_refl _))
        have HH := Lib.hid hcH
        have HOWN := Lib.hid hown
        have HROWS := Lib.hid hrows
        have HO := Lib.hid ho
        clear hcH hown hrows ho
        go_wp2_with fail
        refine (HH.out _ _ (Below.refl _ _)).mono ?_
        rintro e w1 ⟨rfl, hb1⟩
        go_wp2_with fail
        have HB1 : Hid (Below w.heap.size w w1) := hb.trans (hb1.mono hb.size)
        go_loopw [9, 10] (fun ok i wi => ∃ q : Nat, q ≤ n ∧ i = .int .i64 q ∧ ok = .bool (topOk list rows pre t q) ∧ Below wr.heap.size wr wi) (fun _ i _ => n - (intOf i).toNat)
        case atStart => exact ⟨0, Nat.zero_le _, rfl, by simp [topOk], hb1⟩
        case round =>
          clear hb1 HB1
          obtain ⟨wi, rfl⟩ : ∃ wi : World, wi = wr := ⟨_, rfl⟩
          obtain ⟨q, hq, rfl, rfl, hbi⟩ := hrel
          by_cases hlt2 : q < n
          · have HS2 : Hid (∀ v, list[q]? = some v → topOk list rows pre t (q + 1) = (topOk list rows pre t q && (!edgeB rows v t || pre.any fun y => y == v))) := fun v hv => topOk_succ hv
            have HFL : Hid (topOk list rows pre t q = false → F t = []) := fun h => by rw [HF.out, topOk_le h]; rfl
            generalize topOk list rows pre t q = ok at *
            have Hbi := Lib.hid hbi
            clear hbi
            cases ok
            · go_wp2_with fail
              go_roundw
              case rel => exact ⟨k + 1, by omega, by go_num, by rw [HS.out, HFL.out (by first | rfl | trivial), List.append_nil]; exact HINV.out.later Hbi.out⟩
              case measure => simp [intOf]; omega
            · have HTi := HT.out.below Hbi.out
              obtain ⟨b', off', v, hbo, hbl2, ho2, c2⟩ := HTi.list.at_ hlt2
              injection hbo with hbo
              injection hbo with e1 e2 _
              subst e1; subst e2
              have hvr := HR.out v (List.mem_of_getElem? ho2)
              obtain ⟨vn, rfl⟩ := Int.eq_ofNat_of_zero_le hvr.1
              obtain ⟨tn, rfl⟩ := Int.eq_ofNat_of_zero_le htr.1
              have hvn : vn < 4 := by omega
              have htn : tn < 4 := by omega
              obtain ⟨br, offr, rfl, hblr, c3, h16⟩ := rowsI_at3 H4.out HTi.rows hvn
              have hst := HS2.out _ ho2
              have hed : edgeB rows (vn : Int) (tn : Int) = (rows.getD vn 0).testBit tn := rfl
              rw [hed] at hst
              obtain ⟨eb, heb⟩ : ∃ eb, (rows.getD vn 0).testBit tn = eb := ⟨_, rfl⟩
              rw [heb] at hst
              have hcB : ∀ W : World, Calls Try.prog 79 #[.int .i64 ((rows.getD vn 0 : Nat) : Int), .int .i64 (tn : Int)] W fun e w' => e = .returned (.int .i64 (if eb then 1 else 0)) ∧ W = w' := fun W => by
                have := sbit_any (rows.getD vn 0) tn W (by omega) (by omega); rw [heb] at this; exact this
              have HCB := Lib.hid hcB
              have HST2 := Lib.hid hst
              have L1 := Later.cell c2
              have L2 := Later.cell c3
              have L3 := Later.cell ((Hbi.out.cell (p := ⟨b, off + k, none⟩) hbl).trans c0)
              have l1 : (vn : Int) < 4 := by omega
              have l2 : (0 : Int) ≤ (vn : Int) := by omega
              have l3 : (q : Int) < n := by omega
              have l4 : (k : Int) < n := by omega
              have l5 : (0 : Int) ≤ (q : Int) := by omega
              have l6 : (0 : Int) ≤ (k : Int) := by omega
              have hsi := Hbi.out.size
              clear HTi ho2 c2 c3 hst heb hcB hed HS2 HFL
              generalize rows.getD vn 0 = rk at *
              cases eb
              · go_wp2_with fail
                refine region_later (by kernel_rfl) (by kernel_rfl) ?_
                repeat (go_big_quiet_step ((go_at_call 79; exact later_same _ (HCB.out _))))
                refine wpQuiet_nil ?_
                rintro _ ⟨u, rfl⟩
                go_wp2_with fail
                go_roundw
                case rel => exact ⟨q + 1, by omega, by go_num, by rw [HST2.out]; rfl, Hbi.out.trans (u.2.mono hsi)⟩
                case measure => simp [intOf]; omega
              · obtain ⟨bc, hbc⟩ : ∃ bc, (pre.any fun y => y == (vn : Int)) = bc := ⟨_, rfl⟩
                have hcI : ∀ u : Later wi, Calls Try.prog 94 #[.slice B h ch, .int .i64 (vn : Int)] u.1 fun e w' => e = .returned (.bool bc) ∧ Below u.1.heap.size u.1 w' := fun u => by
                  have := HH.out u.1 (vn : Int) (Hbi.out.trans (u.2.mono hsi)); rw [hbc] at this; exact this
                have HCI := Lib.hid hcI
                have HST3 : Hid (topOk list rows pre (tn : Int) (q + 1) = bc) := by
                  show _ = _
                  rw [HST2.out, hbc]; simp
                clear hcI hbc HST2
                go_wp2_with fail
                refine region_later (by kernel_rfl) (by kernel_rfl) ?_
                repeat (go_big_quiet_step ((first | (go_at_call 79; exact later_same _ (HCB.out _)) | (go_at_call 94; exact later_call _ (HCI.out _)))))
                refine wpQuiet_nil ?_
                rintro _ ⟨u, rfl⟩
                go_wp2_with fail
                go_roundw
                case rel => exact ⟨q + 1, by omega, by go_num, by rw [HST3.out], Hbi.out.trans (u.2.mono hsi)⟩
                case measure => simp [intOf]; omega
          · have hqn : n = q := by omega
            subst hqn
            have HFT : Hid (F t = if topOk list rows pre t n = true then topF list rows m (pre ++ [t]) else []) := by
              have := HF.out t; rw [hl] at this; exact this
            obtain ⟨ok, hok⟩ : ∃ ok, topOk list rows pre t n = ok := ⟨_, rfl⟩
            rw [hok] at HFT ⊢
            have Hbi := Lib.hid hbi
            clear hbi hok
            cases ok
            · go_wp2_with fail
              go_roundw
              case rel => exact ⟨k + 1, by omega, by go_num, by rw [HS.out, HFT.out, if_neg (by simp), List.append_nil]; exact HINV.out.later Hbi.out⟩
              case measure => simp [intOf]; omega
            · have c0i := (Hbi.out.cell (p := ⟨b, off + k, none⟩) hbl).trans c0
              have HT2 := Lib.hid (HT.out.below Hbi.out)
              have HO2 := Lib.hid (own_below HOWN.out Hbi.out)
              have HR2 := Lib.hid (HROWS.out.below Hbi.out)
              have hbwi := hb.trans (Hbi.out.mono hb.size)
              have l4 : (k : Int) < n := by omega
              have l6 : (0 : Int) ≤ (k : Int) := by omega
              have HP2 : Hid (∀ W, Below wi.heap.size wi W → RInts W B h pre) := fun W hW => HT2.out.pre.below hW (Nat.le_refl _)
              have HBA : Hid (Below wi.heap.size wi (wi.alloc (.cells #[] 3)).drew) := ((Below.refl _ wi).alloc (Nat.le_refl _) _).drew
              have HEA : Hid ((wi.alloc (.cells #[] 3)).drew.ownsRow wi.heap.size 3 1 (.slice (some ⟨wi.heap.size, 0, none⟩) 0 0) 0 (intCells [])) := (lit1_own wi).drew
              have c0a : (wi.alloc (.cells #[] 3)).drew.cell? ⟨b, off + k, none⟩ = some (.int .i64 t) := (HBA.out.cell (p := ⟨b, off + k, none⟩) (Nat.lt_of_lt_of_le hbl Hbi.out.size)).trans c0i
              have HEB := Lib.hid (arg1_b wi t)
              have HEC := Lib.hid (arg1_c wi t)
              go_wp2_with fail
              have HFP : Hid (F t = topF list rows m (pre ++ [t])) := by
                show _ = _
                rw [HFT.out]; simp
              have HNM : Hid (∀ M, (topF list rows m (pre ++ [t])).length = M → N + M ≤ 1024) := by
                intro M hM
                have h1 := HLEN.out (k + 1)
                rw [HS.out, HFP.out, List.length_append, HNL.out, hM] at h1
                exact h1
              go_region_law (first
                | (refine step_ints (.tmp 68) (.tmp 69) (c := ch) (HEA.out) (HBA.out.size) (HP2.out _ HBA.out) ?_ ?_ ?_ ?_ ?_ ?_; (· omega); (· rfl); (· rfl); (· rfl); (· rfl); intro v1 w1' hown1 hg1 hat1; have hb1' := Below.own HBA.out HEA.out (Nat.le_refl _) hg1; have hcw := (hb1'.cell (p := ⟨b, off + k, none⟩) (Nat.lt_of_lt_of_le hbl Hbi.out.size)).trans c0i; have ha1' := hb1'.alloc hb1'.size (.cells #[.int .i64 t] 3 (0, 0)))
                | (refine step_ints (.tmp 68) (.tmp 69) (c := ch) (HEB.out.row) (HEB.out.below.size) (HP2.out _ HEB.out.below) ?_ ?_ ?_ ?_ ?_ ?_; (· omega); (· rfl); (· rfl); (· rfl); (· rfl); intro v1 w1' hown1 hg1 hat1; have hl1 := HEB.out.lit.grownAt hg1 HEB.out.lt HEB.out.ne; have hb1' := Below.own HEB.out.below HEB.out.row (Nat.le_refl _) hg1)
                | (refine step_ints (.tmp 68) (.tmp 69) (c := ch) (HEC.out.row) (HEC.out.below.size) (HP2.out _ HEC.out.below) ?_ ?_ ?_ ?_ ?_ ?_; (· omega); (· rfl); (· rfl); (· rfl); (· rfl); intro v1 w1' hown1 hg1 hat1; have hl1 := HEC.out.lit.grownAt hg1 HEC.out.lt HEC.out.ne; have hb1' := Below.own HEC.out.below HEC.out.row (Nat.le_refl _) hg1)
                | (refine step_ints (.tmp 70) (.tmp 75) (c := 1) (hown1.alloc _) (ha1'.size) (lit1 rfl t) ?_ ?_ ?_ ?_ ?_ ?_; (· omega); (· rfl); (· rfl); (· rfl); (· rfl); intro v2 w2' hown2 hg2 hat2; rw [List.nil_append, Nat.zero_add] at hown2; obtain ⟨B2, c2, rfl, hr2, hb2'⟩ := Arg2.of ha1' (hown1.alloc _) hg2 hown2 (by omega))
                | (refine step_ints (.tmp 70) (.tmp 75) (c := 1) (hown1) (hb1'.size) (hl1) ?_ ?_ ?_ ?_ ?_ ?_; (· omega); (· rfl); (· rfl); (· rfl); (· rfl); intro v2 w2' hown2 hg2 hat2; rw [List.nil_append, Nat.zero_add] at hown2; obtain ⟨B2, c2, rfl, hr2, hb2'⟩ := Arg2.of hb1' hown1 hg2 hown2 (by omega))
                | (go_simp; go_at_call 95; refine (HIH.out _ B2 R n c (h + 1) c2 rc list (pre ++ [t]) rows w2' ⟨HT2.out.list.below hb2' (Nat.le_refl _), hr2, HT2.out.rows.below hb2' (Nat.le_refl _)⟩ H4.out HR.out hn4 (by omega)).mono ?_; rintro e w3' hret; obtain ⟨A3, c3, M, rs, rfl, HM3, hc3, ho3, hr3, hb3'⟩ := hret.form; have hb23 := hb2'.trans (hb3'.mono hb2'.size); have hM := HNM.out M HM3.out; have own3 := own_below HO2.out hb23; have hbw3 := hbwi.trans (hb23.mono hbwi.size))
                | (refine step_rows (.tmp 65) (.tmp 77) (c := c3) (own3) (hbw3.size) (ho3.1) ?_ ?_ ?_ ?_ ?_ ?_; (· omega); (· rfl); (· rfl); (· rfl); (· rfl); intro v4 w4' hown4 hg4 hat4))
              all_goals
                have hinv : RowsInv w w4' v4 ((list.take (k + 1)).flatMap F) := by
                  rw [HS.out, HFP.out]
                  exact ⟨N + M, rv ++ rs, hM, by rw [List.length_append, HNL.out, HM3.out], Below.own hbw3 own3 (Nat.le_refl _) hg4, hown4,
                    ((HR2.out.below hb23).grown hg4 (own_noInt own3)).append ((hr3.since (Nat.le_trans hbwi.size hb2'.size)).grown hg4 (own_noInt own3))⟩
                have HINV4 := Lib.hid hinv
                clear hinv hown4 hg4 hat4 own3 hr3 ho3 hown2 hg2 hat2 hown1 hg1 hat1
                go_wp2_with fail
                go_roundw
                case rel => exact ⟨k + 1, by omega, by go_num, HINV4.out⟩
                case measure => simp [intOf]; omega
      · have e : list.take k = list := List.take_of_length_le (by omega)
        have hNl := HNL.out
        rw [e] at hrows hNl
        have HO : Hid (RetLists w (topF list rows (m + 1) pre) (.returned (.slice Ao N co)) wr) := by
          rw [HSUC.out]
          exact RetLists.of_own hNl hco hown (Nat.le_refl _) hrows hb
        clear hown hrows e hNl
        go_wp2_with fail
        go_ret
        exact HO.out
end Go.Proofs.Ytofcpfabjfhjoaa
namespace Go.Proofs.Ytofcpfabjfhjoaa
open Go.RowKit Go.BigFrame Go.Shelf
set_option linter.unusedVariables false

def goneN (pre : List Int) : Nat := pre.foldl (fun g t => g ||| 1 <<< t.toNat) 0
theorem goneN_snoc (pre : List Int) (t : Int) : goneN (pre ++ [t]) = goneN pre ||| 1 <<< t.toNat := by simp [goneN]
theorem gone_fold (i : Nat) : ∀ (pre : List Int) (g : Nat), (pre.foldl (fun g t => g ||| 1 <<< t.toNat) g).testBit i = (g.testBit i || pre.any fun u => u.toNat == i) := by
  intro pre
  induction pre with
  | nil => intro g; simp
  | cons t r ih =>
    intro g
    rw [List.foldl_cons, ih, List.any_cons, Nat.testBit_or, Bool.or_assoc]
    congr 1
    congr 1
    rw [Nat.one_shiftLeft, Nat.testBit_two_pow]
    by_cases h : t.toNat = i <;> simp [h]
theorem goneN_bit (pre : List Int) (i : Nat) : (goneN pre).testBit i = pre.any fun u => u.toNat == i := by
  unfold goneN; rw [gone_fold]; simp
theorem goneN_lt {pre : List Int} (h : ∀ t ∈ pre, 0 ≤ t ∧ t ≤ 3) : goneN pre < 16 := by
  refine Nat.lt_pow_two_of_testBit (n := 4) _ fun i hi => ?_
  rw [goneN_bit, List.any_eq_false]
  intro u hu
  have := h u hu
  simp
  omega
theorem gone_and {R : List Nat} {pre : List Int} {t : Int} : (R.getD t.toNat 0 &&& goneN pre = 0) ↔ (pre.any fun u => edgeB R t u) = false := by
  constructor
  · intro h
    rw [List.any_eq_false]
    intro u hu he
    have h1 : (R.getD t.toNat 0 &&& goneN pre).testBit u.toNat = false := by rw [h]; simp
    rw [Nat.testBit_and, goneN_bit] at h1
    unfold edgeB at he
    rw [he, Bool.true_and, List.any_eq_false] at h1
    exact h1 u hu (by simp)
  · intro h
    refine Nat.eq_of_testBit_eq fun i => ?_
    rw [Nat.testBit_and, goneN_bit, Nat.zero_testBit]
    cases hb : (pre.any fun u => u.toNat == i)
    · simp
    · rw [List.any_eq_true] at hb
      obtain ⟨u, hu, hui⟩ := hb
      have hui' : u.toNat = i := by simpa using hui
      rw [List.any_eq_false] at h
      have := h u hu
      unfold edgeB at this
      rw [hui'] at this
      simpa using this
/-- One more of an order that goes so far. -/
theorem acc_go {R : List Nat} {x : List Int} {k : Nat} {t : Int} (ht : x[k]? = some t) (ha : accB R [] (x.take k) = true) (h : R.getD t.toNat 0 &&& goneN (x.take k) = 0) : accB R [] (x.take (k + 1)) = true := by
  rw [take_snoc ht, accB_append, ha]
  simp only [accB, List.nil_append, Bool.true_and, Bool.and_true]
  rw [gone_and.1 h]; rfl
theorem acc_no {R : List Nat} {x : List Int} {k : Nat} {t : Int} (ht : x[k]? = some t) (h : ¬ (R.getD t.toNat 0 &&& goneN (x.take k) = 0)) : accB R [] x = false := by
  have e : x = x.take k ++ (t :: x.drop (k + 1)) := by
    rw [List.getElem?_eq_some_iff] at ht
    obtain ⟨hlt, hx⟩ := ht
    conv => lhs; rw [← List.take_append_drop k x]
    rw [List.drop_eq_getElem_cons hlt, hx]
  rw [e, accB_append]
  simp only [accB, List.nil_append]
  have : ((x.take k).any fun u => edgeB R t u) = true := by
    cases hb : ((x.take k).any fun u => edgeB R t u)
    · exact absurd (gone_and.2 hb) h
    · rfl
  rw [this]; simp
theorem gone_take {x : List Int} {k : Nat} {t : Int} (ht : x[k]? = some t) : goneN (x.take (k + 1)) = goneN (x.take k) ||| 1 <<< t.toNat := by
  rw [take_snoc ht, goneN_snoc]
theorem permF_len {list : List Int} (h4 : list.length ≤ 4) (m : Nat) : ∀ pre, (permF list m pre).length ≤ 4 ^ m := by
  induction m with
  | zero => intro pre; simp [permF]
  | succ m ih =>
    intro pre
    rw [permF_succ]
    refine Nat.le_trans (flat_len (M := 4 ^ m) (fun t => ?_) _) ?_
    · unfold permN
      split
      · simp
      · exact ih _
    · rw [Nat.pow_succ, Nat.mul_comm]; exact Nat.mul_le_mul_left _ h4
/-- What an order is made of. -/
theorem permF_sub {list : List Int} (m : Nat) : ∀ pre p, p ∈ permF list m pre → ∀ t ∈ p, t ∈ pre ∨ t ∈ list := by
  induction m with
  | zero => intro pre p hp t ht; simp only [permF, List.mem_singleton] at hp; subst hp; exact .inl ht
  | succ m ih =>
    intro pre p hp t ht
    rw [permF_succ, List.mem_flatMap] at hp
    obtain ⟨u, hu, hp⟩ := hp
    unfold permN at hp
    split at hp
    · cases hp
    · rcases ih _ _ hp t ht with h | h
      · rcases List.mem_append.1 h with h | h
        · exact .inl h
        · rw [List.mem_singleton] at h; subst h; exact .inr hu
      · exact .inr h
theorem permF_length {list : List Int} (m : Nat) : ∀ pre p, p ∈ permF list m pre → p.length = pre.length + m := by
  induction m with
  | zero => intro pre p hp; simp only [permF, List.mem_singleton] at hp; subst hp; simp
  | succ m ih =>
    intro pre p hp
    rw [permF_succ, List.mem_flatMap] at hp
    obtain ⟨u, hu, hp⟩ := hp
    unfold permN at hp
    split at hp
    · cases hp
    · have := ih _ _ hp; simp at this; omega

/-- No two of these slices lie in one block. -/
def ApartR (rv : List Value) : Prop := ∀ (i j : Nat) (a b : Addr) (n m c d : Nat), i ≠ j → rv[i]? = some (Value.slice (some a) n c) → rv[j]? = some (Value.slice (some b) m d) → a.block ≠ b.block
theorem ApartR.nil : ApartR [] := fun i j a b n m c d _ h => by simp at h
theorem ApartR.snoc {rv : List Value} {A : Option Addr} {n c : Nat} (h : ApartR rv) (hA : ∀ (i : Nat) (a : Addr) (m d : Nat) (b : Addr), A = some b → rv[i]? = some (Value.slice (some a) m d) → a.block ≠ b.block) : ApartR (rv ++ [Value.slice A n c]) := by
  intro i j a b n' m' c' d' hij hi hj
  have at2 : ∀ k a n'' c'', (rv ++ [Value.slice A n c])[k]? = some (.slice (some a) n'' c'') → rv[k]? = some (.slice (some a) n'' c'') ∨ (k = rv.length ∧ A = some a) := by
    intro k a n'' c'' hk
    rcases Nat.lt_or_ge k rv.length with h1 | h1
    · rw [List.getElem?_append_left h1] at hk; exact .inl hk
    · rw [List.getElem?_append_right h1] at hk
      rcases Nat.eq_zero_or_pos (k - rv.length) with h0 | h0
      · rw [h0] at hk
        simp only [List.getElem?_cons_zero, Option.some.injEq] at hk
        injection hk with e1 _ _
        exact .inr ⟨by omega, e1⟩
      · rw [List.getElem?_eq_none (by simp; omega)] at hk; cases hk
  rcases at2 i a _ _ hi with h1 | ⟨e1, h1⟩
  · rcases at2 j b _ _ hj with h2 | ⟨e2, h2⟩
    · exact h i j a b _ _ _ _ hij h1 h2
    · exact hA i a _ _ b h2 h1
  · rcases at2 j b _ _ hj with h2 | ⟨e2, h2⟩
    · exact fun e => hA j b _ _ a h1 h2 e.symm
    · omega
/-- The rows' blocks are there. -/
theorem RowsR.blocks {w0 w : World} {rv : List Value} {xss : List (List Int)} (h : RowsR w0 w rv xss) : ∀ (i : Nat) (a : Addr) (m d : Nat), rv[i]? = some (Value.slice (some a) m d) → a.block < w.heap.size := by
  intro i a m d hi
  have hl := (List.getElem?_eq_some_iff.1 hi).1
  obtain ⟨C, c, e, _, hr⟩ := h.2 i _ (List.getElem?_eq_getElem (by rw [← h.1]; exact hl))
  rw [hi] at e
  injection e with e
  injection e with e1 _ _
  obtain ⟨b, cur, e2, _, h2, _⟩ := hr.2 a e1.symm
  rw [e2]
  exact lt_of_block h2
/-- The call hands back these lists in new memory, each in a block of its own. -/
def RetListsA (w0 : World) (xss : List (List Int)) (e : Ending) (w : World) : Prop :=
  ∃ A c rv, e = .returned (.slice A xss.length c) ∧ xss.length ≤ c ∧ OuterR w0 w A xss.length rv ∧ RowsR w0 w rv xss ∧ ApartR rv ∧ Below w0.heap.size w0 w
theorem RetListsA.nil {w0 w : World} (h : Below w0.heap.size w0 w) : RetListsA w0 [] (.returned (.slice none 0 0)) w :=
  ⟨none, 0, [], rfl, Nat.le_refl _, ⟨⟨rfl, by simp, fun h => absurd h (by simp)⟩, fun ad h => by cases h⟩, RowsR.nil, ApartR.nil, h⟩
theorem RetListsA.lists {w0 w : World} {xss : List (List Int)} {e : Ending} (h : RetListsA w0 xss e w) : RetLists w0 xss e w := by
  obtain ⟨A, c, rv, h1, h2, h3, h4, _, h5⟩ := h
  exact ⟨A, c, rv, h1, h2, h3, h4, h5⟩

/-- What a loop over all orders has gathered in 'out', whose box lies at bo. -/
structure OutInv (w0 w : World) (bo q : Nat) (xss : List (List Int)) (V : World) : Prop where
  below : Below w0.heap.size w0 V
  frozen : V.frozen? ⟨bo, 0, none⟩ = false
  out : ∃ ov rv, V.cell? ⟨bo, 0, none⟩ = some ov ∧ V.ownsRow w0.heap.size 25 1 ov xss.length rv ∧ RowsR (six w) V rv xss ∧ ApartR rv ∧ ∀ g, ov.ownBlock = some g → g = q ∨ w.heap.size + 6 ≤ g
theorem own_turned {V W : World} {base : Nat} {e : TypeId} {size n : Nat} {v : Value} {xs : List Value} (h : V.ownsRow base e size v n xs) (hk : ∀ g, v.ownBlock = some g → W.heap[g]? = V.heap[g]?) : W.ownsRow base e size v n xs := by
  refine ⟨h.1, ?_⟩
  rcases h.2 with h1 | ⟨g, cap, cur, e1, h2, h3, h4⟩
  · exact .inl h1
  · exact .inr ⟨g, cap, cur, e1, h2, (hk g (by rw [e1]; simp [Value.ownBlock])).trans h3, h4⟩
theorem FreshInts.turned {w0 V W : World} {A : Option Addr} {n : Nat} {xs : List Int} (h : FreshInts w0 V A n xs) (hs : V.heap.size ≤ W.heap.size) (hk : ∀ g, w0.heap.size ≤ g → g < V.heap.size → (∃ cur, V.heap[g]? = some (.cells cur 3 (0, 0))) → W.heap[g]? = V.heap[g]?) : FreshInts w0 W A n xs := by
  have hblk : ∀ ad, A = some ad → ∃ b cur, ad = ⟨b, 0, none⟩ ∧ w0.heap.size ≤ b ∧ V.heap[b]? = some (.cells cur 3 (0, 0)) ∧ n ≤ cur.size ∧ W.heap[b]? = V.heap[b]? := fun ad had => by
    obtain ⟨b, cur, e, h1, h2, h3⟩ := h.2 ad had
    exact ⟨b, cur, e, h1, h2, h3, hk b h1 (lt_of_block h2) ⟨cur, h2⟩⟩
  refine ⟨⟨h.1.1, h.1.2.1, fun hn => ?_⟩, fun ad had => ?_⟩
  · obtain ⟨b, off, hA, hlt, hc⟩ := h.1.2.2 hn
    obtain ⟨b', cur, e, _, _, _, hkb⟩ := hblk _ hA
    injection e with e1 e2 _
    subst e1
    exact ⟨b, off, hA, by omega, fun i x hx => (World.cell?_of_block (w := V) (a := ⟨b, off + i, none⟩) hkb).trans (hc i x hx)⟩
  · obtain ⟨b, cur, e, h1, h2, h3, hkb⟩ := hblk ad had
    exact ⟨b, cur, e, h1, hkb.trans h2, h3⟩
theorem RowsR.turned {w0 V W : World} {rv : List Value} {xss : List (List Int)} (h : RowsR w0 V rv xss) (hs : V.heap.size ≤ W.heap.size) (hk : ∀ g, w0.heap.size ≤ g → g < V.heap.size → (∃ cur, V.heap[g]? = some (.cells cur 3 (0, 0))) → W.heap[g]? = V.heap[g]?) : RowsR w0 W rv xss :=
  ⟨h.1, fun i xs hi => by obtain ⟨C, c, e, hmc, hr⟩ := h.2 i xs hi; exact ⟨C, c, e, hmc, hr.turned hs hk⟩⟩
theorem OutInv.open_ {w0 w : World} {bo q : Nat} {xss : List (List Int)} {V W : World} (h : OutInv w0 w bo q xss V) (hq : q < w.heap.size) (hw : w0.heap.size ≤ w.heap.size) (hbo : bo < w.heap.size) (hst : LpStep w.heap.size V W) :
    Below w0.heap.size w0 W ∧ W.frozen? ⟨bo, 0, none⟩ = false ∧ ∃ ov rv, W.cell? ⟨bo, 0, none⟩ = some ov ∧ W.ownsRow w0.heap.size 25 1 ov xss.length rv ∧ RowsR (six w) W rv xss ∧ ApartR rv ∧ (∀ g, ov.ownBlock = some g → g = q ∨ w.heap.size + 6 ≤ g) ∧
      ∀ (i : Nat) (a : Addr) (m d : Nat), rv[i]? = some (Value.slice (some a) m d) → a.block < V.heap.size := by
  obtain ⟨hb, hf, ov, rv, hc, hown, hr, hap, hg⟩ := h
  have hbV : bo < V.heap.size := block_lt_of_cell hc
  have kb : W.heap[bo]? = V.heap[bo]? := hst.block bo hbV (by omega)
  refine ⟨⟨hst.os.trans hb.os, hst.tape.trans hb.tape, hst.output.trans hb.output, Nat.le_trans hb.size hst.size, fun k hk => (hst.block k (Nat.lt_of_lt_of_le hk hb.size) (by omega)).trans (hb.block k hk)⟩, ?_, ov, rv, (World.cell?_of_block (w := V) (a := ⟨bo, 0, none⟩) kb).trans hc, ?_, ?_, hap, hg, hr.blocks⟩
  · rw [World.frozen?_of_block (w := V) (a := ⟨bo, 0, none⟩) kb]; exact hf
  · refine own_turned hown fun g hge => hst.block g ?_ (by have := hg g hge; omega)
    rcases hown.2 with ⟨h1, _⟩ | ⟨g', cap, cur, e1, _, h3, _⟩
    · rw [h1] at hge; cases hge
    · rw [e1] at hge
      have : g' = g := by simpa [Value.ownBlock] using hge
      subst this
      exact lt_of_block h3
  · exact hr.turned hst.size fun g h6 hgV _ => hst.block g hgV (by rw [six_size] at h6; omega)
theorem OutInv.step {w0 w : World} {bo q : Nat} {xss : List (List Int)} {V W : World} (h : OutInv w0 w bo q xss V) (hq : q < w.heap.size) (hw : w0.heap.size ≤ w.heap.size) (hbo : bo < w.heap.size) (hst : LpStep w.heap.size V W) : OutInv w0 w bo q xss W := by
  obtain ⟨h1, h2, ov, rv, h3, h4, h5, h6, h7, _⟩ := h.open_ hq hw hbo hst
  exact ⟨h1, h2, ov, rv, h3, h4, h5, h6, h7⟩
theorem OutInv.start {w0 w : World} {bo q : Nat} (hb : Below w0.heap.size w0 w) (hc : w.cell? ⟨bo, 0, none⟩ = some (.slice (some ⟨q, 0, none⟩) 0 0)) (hf : w.frozen? ⟨bo, 0, none⟩ = false) (hown : w.ownsRow w0.heap.size 25 1 (.slice (some ⟨q, 0, none⟩) 0 0) 0 []) : OutInv w0 w bo q [] w :=
  ⟨hb, hf, _, [], hc, hown, RowsR.nil, ApartR.nil, fun g hg => .inl (by simpa [Value.ownBlock, eq_comm] using hg)⟩
/-- One order more in 'out': a list of the call's own, appended; the box of 'out' turned. -/
theorem OutInv.push {w0 w : World} {bo q : Nat} {xss : List (List Int)} {V V1 W : World} {ov ov' : Value} {rv : List Value} {A : Option Addr} {n : Nat} {x : List Int} (hw : w0.heap.size ≤ w.heap.size) (hbo : bo < w.heap.size) (hbo0 : w0.heap.size ≤ bo) (hq : q ≠ bo ∧ q < w.heap.size)
    (hb : Below w0.heap.size w0 V) (hf : V.frozen? ⟨bo, 0, none⟩ = false) (hc : V.cell? ⟨bo, 0, none⟩ = some ov) (hown : V.ownsRow w0.heap.size 25 1 ov xss.length rv) (hr : RowsR (six w) V rv xss) (hap : ApartR (rv ++ [.slice A n n])) (hg : ∀ g, ov.ownBlock = some g → g = q ∨ w.heap.size + 6 ≤ g)
    (hx : FreshInts (six w) V A n x) (hxl : x.length = n) (hb1 : Below V.heap.size V V1) (hlo : w.heap.size + 6 ≤ V.heap.size)
    (hown' : W.ownsRow w0.heap.size 25 1 ov' (xss.length + 1) (rv ++ [.slice A n n])) (hgr : V1.grownBy W ov.ownBlock) (hnew : ov'.ownBlock = ov.ownBlock ∨ ov'.ownBlock = some V1.heap.size) :
    OutInv w0 w bo q (xss ++ [x]) (W.setCell ⟨bo, 0, none⟩ ov') := by
  have hs1 := hb1.size
  have hgs := World.grownBy.size hgr
  have hboV : bo < V.heap.size := block_lt_of_cell hc
  have hown1 : V1.ownsRow w0.heap.size 25 1 ov xss.length rv := own_below hown hb1
  have hne : ov.ownBlock ≠ some bo := fun e => by have := hg bo e; omega
  have hWbo : W.heap[bo]? = V.heap[bo]? := (hgr.block bo (by omega) (fun e => hne e.symm)).trans (hb1.block bo hboV)
  have hbW : Below w0.heap.size w0 W := Below.own (hb.trans (hb1.mono hb.size)) hown1 (Nat.le_refl _) hgr
  have hint : ∀ g, ov.ownBlock = some g → ∀ cur, V1.heap[g]? ≠ some (.cells cur 3 (0, 0)) := own_noInt hown1
  have turn : ∀ g, V.heap.size > g → (∃ cur, V.heap[g]? = some (.cells cur 3 (0, 0))) → g ≠ bo → (W.setCell ⟨bo, 0, none⟩ ov').heap[g]? = V.heap[g]? := by
    intro g hgV ⟨cur, hcur⟩ hgb
    refine (Below.heap_setCell W _ _ g (by simpa using hgb)).trans ?_
    refine (hgr.block g (by omega) ?_).trans (hb1.block g hgV)
    intro e
    exact hint g e.symm cur ((hb1.block g hgV).trans hcur)
  refine ⟨hbW.setCell (by simpa using hbo0) _, ?_, ov', rv ++ [.slice A n n], World.cell?_setCell_same' _ _ _ ?_, ?_, ?_, hap, ?_⟩
  · rw [World.frozen?_setCell, World.frozen?_of_block (w := V) (a := ⟨bo, 0, none⟩) hWbo]; exact hf
  · rw [World.cell?_of_block (w := V) (a := ⟨bo, 0, none⟩) hWbo, hc]; rfl
  · rw [List.length_append, List.length_singleton]
    refine own_turned hown' fun g hge => Below.heap_setCell W _ _ g ?_
    intro e
    simp only at e
    subst e
    rcases hnew with h | h
    · rw [h] at hge; have := hg _ hge; omega
    · rw [h] at hge; injection hge with hge; omega
  · refine RowsR.append (hr.turned (by simp [World.setCell]; omega) fun g h6 hgV hcur => turn g hgV hcur (by rw [six_size] at h6; omega)) ?_
    exact RowsR.lit hxl (Nat.le_refl _) (hx.turned (by simp [World.setCell]; omega) fun g h6 hgV hcur => turn g hgV hcur (by rw [six_size] at h6; omega))
  · intro g hge
    rcases hnew with h | h
    · rw [h] at hge; exact hg g hge
    · rw [h] at hge; injection hge with hge; exact .inr (by omega)
/-- What such a push keeps of all else. -/
theorem push_keep {w : World} {bo q bx n0 : Nat} {V V1 W : World} {ov ov' : Value} (hbo : bo < w.heap.size) (hn0 : n0 ≤ bo ∧ n0 ≤ q) (hne : bx ≠ bo ∧ bx ≠ q ∧ bx < w.heap.size) (hq : q < w.heap.size)
    (hg : ∀ g, ov.ownBlock = some g → g = q ∨ w.heap.size + 6 ≤ g) (hn0w : n0 ≤ w.heap.size) (hb1 : Below V.heap.size V V1) (hgr : V1.grownBy W ov.ownBlock) :
    BdKeep w.heap.size bx n0 V (W.setCell ⟨bo, 0, none⟩ ov') := by
  have hs1 := hb1.size
  have hgs := World.grownBy.size hgr
  refine ⟨by simp [World.setCell]; omega, fun k hk hc => ?_⟩
  refine (Below.heap_setCell W _ _ k ?_).trans ((hgr.block k (by omega) ?_).trans (hb1.block k hk))
  · simp only; omega
  · intro e
    have := hg k e.symm
    omega
theorem push_cell {w : World} {bo q p : Nat} {V V1 W : World} {ov ov' v : Value} (hg : ∀ g, ov.ownBlock = some g → g = q ∨ w.heap.size + 6 ≤ g) (hp : p < w.heap.size) (hpq : p ≠ q) (hpb : p ≠ bo) (hb1 : Below V.heap.size V V1) (hgr : V1.grownBy W ov.ownBlock)
    (hc : V.cell? ⟨p, 0, none⟩ = some v) : (W.setCell ⟨bo, 0, none⟩ ov').cell? ⟨p, 0, none⟩ = some v := by
  have hpV : p < V.heap.size := block_lt_of_cell hc
  have hs1 := hb1.size
  refine (World.cell?_of_block (w := V) (a := ⟨p, 0, none⟩) ?_).trans hc
  refine (Below.heap_setCell W _ _ p (by simpa using hpb)).trans ((hgr.block p (by omega) ?_).trans (hb1.block p hpV))
  intro e
  have := hg p e.symm
  omega
end Go.Proofs.Ytofcpfabjfhjoaa
namespace Go.Proofs.Ytofcpfabjfhjoaa
open Go.RowKit Go.BigFrame Go.Shelf
set_option linter.unusedVariables false

attribute [local go_sem] Oper.semAt_some

set_option maxHeartbeats 400000 in
theorem ClipO_any (A : Option Addr) (n c : Nat) (w : World) (hn : n ≤ 1099511627776) (hnc : n ≤ c) :
    Calls Try.prog 106 #[.slice A n c] w fun e w' => e = .returned (.slice A n n) ∧ w = w' := by
  go_enter Try.func106, Try.ntmps106
  go_wp2
  go_ret
  exact ⟨rfl, rfl⟩
set_option maxHeartbeats 400000 in
theorem ClipL_any (A : Option Addr) (n c : Nat) (w : World) (hn : n ≤ 1099511627776) (hnc : n ≤ c) :
    Calls Try.prog 140 #[.slice A n c] w fun e w' => e = .returned (.slice A n n) ∧ w = w' := by
  go_enter Try.func140, Try.ntmps140
  go_wp2
  go_ret
  exact ⟨rfl, rfl⟩

section
variable {w : World} {ops : Array Oper} {o : Oper} {a : Act} {K : Act → World → Prop} {Q : Exit → Act → World → Prop} {E : Prop} {l m : Nat}
/-- append of a slice, at a step of a region that draws its order, within a round. -/
theorem stepIn_rows (s x : Operand) {base : Nat} {v : Value} {n : Nat} {rv : List Value} (hown : w.ownsRow base 25 1 v n rv) (hbase : base ≤ w.heap.size)
    {A : Option Addr} {k c : Nat} {rs : List Value} (hr : Src w 1 A k rs) (hn : n + k ≤ 1099511627776)
    (hgd : o.guard = none) (ho : o.op = .call { callee := .builtin .append, args := #[s, x], argTypes := #[43, 43] }) (hs : a.eval s = v) (hx : a.eval x = .slice A k c)
    (h : ∀ v' w', w'.ownsRow base 25 1 v' (n + k) (rv ++ rs) → w.grownBy w' v.ownBlock → (v'.ownBlock = v.ownBlock ∨ v'.ownBlock = some w.heap.size) → K (a.put o.dst v') w') :
    if Region.wanted o (yielded ops a.tmps) = true then Oper.wpIn (Fence.wide.inRound l) m Try.prog o a w K Q else E := by
  have hw : Region.wanted o (yielded ops a.tmps) = true := by simp [Region.wanted, hgd]
  rw [if_pos hw]
  obtain ⟨i0, hi, hz0, hz1, hz2⟩ := info_parts intsInfo
  obtain ⟨v', w', hrun, h2, h3, h4⟩ := run_app (P := Try.prog) base 43 o.type 25 i0 _ 1 24 Try.underlying43 hi hz0 hz1 hz2 rfl (by decide) v n rv hown A k c rs hr (by simp only [maxLen]; omega) (by omega) hbase
  unfold Oper.wpIn
  refine ⟨?_, ?_⟩
  · simp [Oper.about, ho, resolve, Target.leads, Sem.run_pure]
  · rw [Oper.semAt_plain _ _ _ (by rw [ho]; intro c hc'; cases hc')]
    simp [execOp, ho, resolve, invoke, builtin, hs, hx, hrun, Result.andThen]
    exact h v' w' h2 h3 h4
end

theorem orders_start (w : World) (A G : Option Addr) (n c gc : Nat) (wL : World) (hwL : (((w.alloc (.cells #[.slice G 4 gc] 25)).alloc (.cells #[] 25)).alloc (.cells #[.slice (some ⟨w.heap.size + 1, 0, none⟩) 0 0] 43)).alloc (.cells #[.slice A n c] 25) = wL) :
    Below w.heap.size w wL ∧ wL.heap.size = w.heap.size + 4 ∧ wL.cell? ⟨w.heap.size, 0, none⟩ = some (.slice G 4 gc) ∧ wL.cell? ⟨w.heap.size + 2, 0, none⟩ = some (.slice (some ⟨w.heap.size + 1, 0, none⟩) 0 0) ∧
      wL.frozen? ⟨w.heap.size + 2, 0, none⟩ = false ∧ wL.cell? ⟨w.heap.size + 3, 0, none⟩ = some (.slice A n c) ∧ wL.ownsRow w.heap.size 25 1 (.slice (some ⟨w.heap.size + 1, 0, none⟩) 0 0) 0 [] := by
  obtain ⟨w1, h1⟩ : ∃ w1, w.alloc (.cells #[.slice G 4 gc] 25) = w1 := ⟨_, rfl⟩
  rw [h1] at hwL
  obtain ⟨w2, h2⟩ : ∃ w2, w1.alloc (.cells #[] 25) = w2 := ⟨_, rfl⟩
  rw [h2] at hwL
  obtain ⟨w3, h3⟩ : ∃ w3, w2.alloc (.cells #[.slice (some ⟨w.heap.size + 1, 0, none⟩) 0 0] 43) = w3 := ⟨_, rfl⟩
  rw [h3] at hwL
  have s1 : w1.heap.size = w.heap.size + 1 := by rw [← h1]; simp
  have s2 : w2.heap.size = w.heap.size + 2 := by rw [← h2]; simp; omega
  have s3 : w3.heap.size = w.heap.size + 3 := by rw [← h3]; simp; omega
  have s4 : wL.heap.size = w.heap.size + 4 := by rw [← hwL]; simp; omega
  have b3 : Below w3.heap.size w3 wL := by rw [← hwL]; exact (Below.refl _ _).alloc (Nat.le_refl _) _
  have b2 : Below w2.heap.size w2 wL := by
    refine Below.trans ?_ (b3.mono (by omega))
    rw [← h3]; exact (Below.refl _ _).alloc (Nat.le_refl _) _
  have b1 : Below w1.heap.size w1 wL := by
    refine Below.trans ?_ (b2.mono (by omega))
    rw [← h2]; exact (Below.refl _ _).alloc (Nat.le_refl _) _
  have b0 : Below w.heap.size w wL := by
    refine Below.trans ?_ (b1.mono (by omega))
    rw [← h1]; exact (Below.refl _ _).alloc (Nat.le_refl _) _
  have k1 : w1.heap[w.heap.size]? = some (.cells #[.slice G 4 gc] 25 (0, 0)) := by rw [← h1]; exact heap_alloc_new w _
  have k2 : w2.ownsRow w.heap.size 25 1 (.slice (some ⟨w.heap.size + 1, 0, none⟩) 0 0) 0 [] := by
    have := World.ownsRow_made (base := w.heap.size) (e := 25) (size := 1) w1 #[] 0 (by omega) (by decide) rfl
    rw [s1, h2] at this
    exact this
  have k3 : w3.heap[w.heap.size + 2]? = some (.cells #[.slice (some ⟨w.heap.size + 1, 0, none⟩) 0 0] 43 (0, 0)) := by
    have := heap_alloc_new w2 (.cells #[.slice (some ⟨w.heap.size + 1, 0, none⟩) 0 0] 43)
    rw [h3, s2] at this; exact this
  have k4 : wL.heap[w.heap.size + 3]? = some (.cells #[.slice A n c] 25 (0, 0)) := by
    have := heap_alloc_new w3 (.cells #[.slice A n c] 25)
    rw [hwL, s3] at this; exact this
  have k1' := (b1.block _ (by omega)).trans k1
  have k3' := (b3.block _ (by omega)).trans k3
  refine ⟨b0, s4, ?_, ?_, ?_, ?_, own_below k2 b2⟩
  · rw [cell_of_row _ _ _ _ _ _ k1']; rfl
  · rw [cell_of_row _ _ _ _ _ _ k3']; rfl
  · simp [World.frozen?, k3']
  · rw [cell_of_row _ _ _ _ _ _ k4]; rfl

theorem Src.one (w : World) (u : Value) (t : TypeId) (h1 : u.oneCell' = true) : Src (w.alloc (.cells #[u] t)) 1 (some ⟨w.heap.size, 0, none⟩) 1 [u] :=
  ⟨rfl, by simp [h1], fun _ => ⟨_, rfl, fun j v hv => cell_one_new w u t j v hv⟩⟩

set_option maxRecDepth 100000 in
set_option maxHeartbeats 2000000 in
theorem ordersBy_any (A G : Option Addr) (n c gc : Nat) (list : List Int) (R : List Nat) (w : World) (hl : RInts w A n list) (hA : ∀ ad, A = some ad → ad.block < w.heap.size) (hg : RInts w G 4 (rowsI R)) (h4 : Rows4 R) (hr : ∀ t ∈ list, 0 ≤ t ∧ t ≤ 3) (hn4 : n ≤ 4) :
    Calls Try.prog 96 #[.slice A n c, .slice G 4 gc] w (RetListsA w (ordI list R)) := by
  have hlen := hl.1
  have HL := Lib.hid hl
  have HG := Lib.hid hg
  have H4 := Lib.hid h4
  have HR := Lib.hid hr
  have HA := Lib.hid hA
  have HLEN := Lib.hid hlen
  clear hl hg h4 hr hA hlen
  refine (callsIn_wide (n := 9)).1 ?_
  refine callsIn_of_wp_marks Try.func96 rfl trivial ?_ rfl
  simp only [Try.ntmps96, List.size_toArray, List.length_cons, List.length_nil, Nat.reduceAdd, Nat.reduceSub, Array.replicate_succ, Array.replicate_zero, List.push_toArray, List.append_toArray, List.nil_append, List.cons_append]
  gi_wp2
  refine (wpIn_wide (n := 9)).2 (wp_scope_straight ((wpIn_wide (n := 9)).1 ?_))
  gi_wp2
  refine wpIn_label ?_
  gi_wp2_with (refine ⟨trivial, ?_⟩; gi_at_call 139; refine (callsIn_wide.2 (permutations_any A n c _)).mono ?_; rintro e w' ⟨rfl, rfl⟩)
  -- the world where the loop begins
  obtain ⟨wL, hwL⟩ : ∃ wL, (((w.alloc (.cells #[.slice G 4 gc] 25)).alloc (.cells #[] 25)).alloc (.cells #[.slice (some ⟨w.heap.size + 1, 0, none⟩) 0 0] 43)).alloc (.cells #[.slice A n c] 25) = wL := ⟨_, rfl⟩
  have hfacts : Below w.heap.size w wL ∧ wL.heap.size = w.heap.size + 4 ∧ wL.cell? ⟨w.heap.size, 0, none⟩ = some (.slice G 4 gc) ∧ wL.cell? ⟨w.heap.size + 2, 0, none⟩ = some (.slice (some ⟨w.heap.size + 1, 0, none⟩) 0 0) ∧
      wL.frozen? ⟨w.heap.size + 2, 0, none⟩ = false ∧ wL.cell? ⟨w.heap.size + 3, 0, none⟩ = some (.slice A n c) ∧ wL.ownsRow w.heap.size 25 1 (.slice (some ⟨w.heap.size + 1, 0, none⟩) 0 0) 0 [] := orders_start w A G n c gc wL hwL
  rw [hwL]
  clear hwL
  obtain ⟨hbL, hsL, cg, co, fo, cl, hoL⟩ := hfacts
  have hS : w.heap.size + 2 < wL.heap.size := by omega
  refine wpIn_rangePerm (w.heap.size + 3) w.heap.size n c A list rfl rfl cl (HL.out.below hbL (Nat.le_refl _)) HA.out (by omega) hn4
    (fun acc V => OutInv w wL (w.heap.size + 2) (w.heap.size + 1) (acc.filter (accB R [])) V ∧ V.cell? ⟨w.heap.size, 0, none⟩ = some (.slice G 4 gc)) ?hI ⟨OutInv.start hbL co fo hoL, cg⟩
    (fun v => { tmps := #[.slice A n c, .slice G 4 gc, undef, .pointer (some ⟨w.heap.size, 0, none⟩), .slice none 0 0, .pointer (some ⟨w.heap.size + 1 + 1, 0, none⟩), v, undef, undef, undef, .slice (some ⟨w.heap.size + 1, 0, none⟩) 0 0, .slice A n c, .func (.func 155) #[] #[.pointer (some ⟨w.heap.size + 3, 0, none⟩)], v, undef, undef, undef, undef, undef, undef, undef, undef, undef, undef, undef, undef, undef, undef, undef, undef, undef, undef, undef, undef, undef, undef, undef, undef, undef], defers := [] }) ?assign ?body ?done
  case hI =>
    rintro s V W ⟨h1, h2⟩ hst
    exact ⟨h1.step (by omega) (by omega) (by omega) hst, (World.cell?_of_block (w := V) (a := ⟨w.heap.size, 0, none⟩) (hst.block _ (block_lt_of_cell h2) (by simp; omega))).trans h2⟩
  case assign =>
    intro l m v W K hK
    gi_wp2
    exact hK
  case done =>
    rintro W ⟨hO, _⟩ hsz hdf
    have hO2 := hO.step (by omega) (by omega) (by omega) (LpStep.put W (l := wL.heap.size) (.deferred none) (by omega))
    obtain ⟨hb, hf, ov, rv, hc, hown, hrows, hapr, hgo⟩ := hO
    obtain ⟨Ao, co', rfl, hco⟩ := own_form2 hown
    have HRET : Hid (RetListsA w ((permF list n []).filter (accB R [])) (.returned (.slice Ao ((permF list n []).filter (accB R [])).length ((permF list n []).filter (accB R [])).length)) (W.putObj wL.heap.size (.deferred none))) := by
      obtain ⟨hb2, _, ov2, rv2, hc2, hown2, hrows2, hap2, _⟩ := hO2
      have ek : (W.putObj wL.heap.size (.deferred none)).cell? ⟨w.heap.size + 2, 0, none⟩ = W.cell? ⟨w.heap.size + 2, 0, none⟩ := World.cell?_of_block (w := W) (World.putObj_heap_other (by simp; omega))
      rw [ek, hc] at hc2
      injection hc2 with hc2
      subst hc2
      exact ⟨Ao, _, rv2, rfl, Nat.le_refl _, OuterR.of_own hown2 (Nat.le_refl _) hrows2.one, hrows2.since (by rw [six_size]; omega), hap2, hb2⟩
    have hN : ((permF list n []).filter (accB R [])).length ≤ 256 := by
      refine Nat.le_trans (List.length_filter_le _ _) (Nat.le_trans (permF_len (by rw [HLEN.out]; exact hn4) n []) ?_)
      exact Nat.pow_le_pow_right (by omega) hn4
    have HOR : Hid (ordI list R = (permF list n []).filter (accB R [])) := by show _ = _; unfold ordI; rw [HLEN.out]
    generalize (permF list n []).filter (accB R []) = res at *
    generalize res.length = N at *
    clear hO2 hown hrows hgo hb hapr
    gi_wp2_with (refine ⟨trivial, ?_⟩; gi_at_call 140; refine (callsIn_wide.2 (ClipL_any Ao N co' _ (by omega) hco)).mono ?_; rintro e w' ⟨rfl, rfl⟩)
    rw [Exit.noGoto_ret]
    rw [hsL] at hdf HRET
    refine ⟨by simp, .inl ⟨_, _, rfl, run_takeDeferred hdf, ?_⟩⟩
    exact ⟨_, results_tmp rfl _ _ _, by rw [HOR.out]; exact HRET.out⟩
  case body =>
    rintro l m pre x V W A' c' ⟨hOV, hgV⟩ hstV hloV hfV hc' hpx
    have hO : OutInv w wL (w.heap.size + 2) (w.heap.size + 1) (pre.filter (accB R [])) W := hOV.step (by omega) (by omega) (by omega) hstV
    have hgc : W.cell? ⟨w.heap.size, 0, none⟩ = some (.slice G 4 gc) := (World.cell?_of_block (w := V) (a := ⟨w.heap.size, 0, none⟩) (hstV.block _ (block_lt_of_cell hgV) (by simp; omega))).trans hgV
    have hlo : wL.heap.size + 6 ≤ W.heap.size := by have := hstV.size; omega
    have hfx : FreshInts (six wL) W A' n x := hfV.since (by rw [six_size]; omega)
    have HOP := Lib.hid (hOV.open_ (by omega) (by omega) (by omega) hstV)
    have HFV := Lib.hid hfV
    clear hOV hgV hstV hloV hfV
    have hxm : x ∈ permF list n [] := List.IsPrefix.subset hpx (by simp)
    have hxl : x.length = n := by have := permF_length n [] x hxm; simpa using this
    have hxr : ∀ t ∈ x, 0 ≤ t ∧ t ≤ 3 := fun t ht => by
      rcases permF_sub n [] x hxm t ht with h | h
      · cases h
      · exact HR.out t h
    have hpl : (pre.filter (accB R [])).length + 1 ≤ 256 := by
      have h1 := hpx.length_le
      have h2 := permF_len (list := list) (by rw [HLEN.out]; exact hn4) n []
      have h3 : (4:Nat) ^ n ≤ 256 := Nat.pow_le_pow_right (by omega) hn4
      have h4 := List.length_filter_le (accB R []) pre
      simp at h1
      omega
    have HX := Lib.hid hfx
    have HO := Lib.hid hO
    have HXR := Lib.hid hxr
    have HXL := Lib.hid hxl
    have HGW : Hid (RInts W G 4 (rowsI R)) := HG.out.below hO.below (Nat.le_refl _)
    have HF1 : Hid (accB R [] x = true → (pre ++ [x]).filter (accB R []) = pre.filter (accB R []) ++ [x]) := fun h => by rw [List.filter_append, List.filter_cons, if_pos h, List.filter_nil]
    have HF0 : Hid (accB R [] x = false → (pre ++ [x]).filter (accB R []) = pre.filter (accB R [])) := fun h => by rw [List.filter_append, List.filter_cons, if_neg (by rw [h]; simp), List.filter_nil, List.append_nil]
    clear hO hfx hpx hxm hxr hxl
    gi_wp2
    gi_loopw [7, 16] (fun g i wr => ∃ k : Nat, k ≤ n ∧ i = .int .i64 k ∧ g = .int .i64 (goneN (x.take k) : Nat) ∧ accB R [] (x.take k) = true ∧ wr = W) (fun _ i _ => n - (intOf i).toNat)
    case atStart => exact ⟨0, Nat.zero_le _, rfl, by simp [goneN], by simp [accB], rfl⟩
    case round =>
      obtain ⟨k, hk, rfl, rfl, hacc, rfl⟩ := hrel
      have HACC := Lib.hid hacc
      clear hacc
      by_cases hlt : k < n
      · obtain ⟨b, off, t, rfl, hbl, ho, ct⟩ := HX.out.1.at_ hlt
        have htr := HXR.out t (List.mem_of_getElem? ho)
        have hg16 : goneN (x.take k) < 16 := goneN_lt fun u hu => HXR.out u (List.mem_of_mem_take hu)
        have HGO : Hid (goneN (x.take (k + 1)) = goneN (x.take k) ||| 1 <<< t.toNat) := gone_take ho
        have HNO : Hid (¬ (R.getD t.toNat 0 &&& goneN (x.take k) = 0) → accB R [] x = false) := acc_no ho
        have HYES : Hid (R.getD t.toNat 0 &&& goneN (x.take k) = 0 → accB R [] (x.take (k + 1)) = true) := fun h => acc_go ho HACC.out h
        clear ho HACC
        generalize goneN (x.take k) = g at *
        obtain ⟨tn, rfl⟩ := Int.eq_ofNat_of_zero_le htr.1
        have htn : tn < 4 := by omega
        obtain ⟨bg, offg, rfl, hbg, cgr, hr16⟩ := rowsI_at3 H4.out HGW.out htn
        simp only [Int.toNat_natCast] at HNO HYES HGO
        generalize R.getD tn 0 = r at *
        have hand := and_nat r g (by omega) (by omega)
        obtain ⟨v, hv⟩ : ∃ v, r &&& g = v := ⟨_, rfl⟩
        rw [hv] at hand HNO HYES
        have l1 : (tn : Int) < 4 := by omega
        have l2 : (0 : Int) ≤ (tn : Int) := by omega
        have l3 : (k : Int) < n := by omega
        have l4 : (0 : Int) ≤ (k : Int) := by omega
        clear hv
        by_cases hv0 : v = 0
        · subst hv0
          have HY := Lib.hid (HYES.out rfl)
          have e1 : bits .or .i64 (g : Int) 1 = ((g ||| 1 : Nat) : Int) := or_nat g 1 (by omega) (by omega)
          have e2 : bits .or .i64 (g : Int) 2 = ((g ||| 2 : Nat) : Int) := or_nat g 2 (by omega) (by omega)
          have e4 : bits .or .i64 (g : Int) 4 = ((g ||| 4 : Nat) : Int) := or_nat g 4 (by omega) (by omega)
          have e8 : bits .or .i64 (g : Int) 8 = ((g ||| 8 : Nat) : Int) := or_nat g 8 (by omega) (by omega)
          clear HYES HNO
          rcases (by omega : tn = 0 ∨ tn = 1 ∨ tn = 2 ∨ tn = 3) with rfl | rfl | rfl | rfl
          all_goals
            try simp only [Nat.add_zero] at cgr
            gi_wp2
            go_roundw
            case rel => exact ⟨k + 1, by omega, by go_num, by rw [HGO.out]; rfl, HY.out, by first | rfl | trivial⟩
            case measure => simp [intOf]; omega
        · have hvn : ((v : Int) != 0) = true := by simp; omega
          have HN := Lib.hid (HNO.out hv0)
          clear HYES HNO
          gi_wp2
          refine ⟨BdKeep.of_below (Below.refl _ _), ?_, hgc⟩
          show OutInv _ _ _ _ ((pre ++ [x]).filter (accB R [])) _
          rw [HF0.out HN.out]
          exact HO.out
      · obtain rfl : k = n := by omega
        have hacx : accB R [] x = true := by
          have := HACC.out
          rwa [List.take_of_length_le (by rw [HXL.out]; exact Nat.le_refl _)] at this
        have HF := Lib.hid (HF1.out hacx)
        obtain ⟨hb, hf, ov, rv, hc, hown, hrows, hapr, hgo, hblk⟩ := HOP.out
        obtain ⟨Ao, co', rfl, hco⟩ := own_form2 hown
        have HAPR : Hid (ApartR (rv ++ [.slice A' k k])) := hapr.snoc fun i a m d b hAb hi => by
          obtain ⟨b', cur, e1, e2, _, _⟩ := HFV.out.2 b hAb
          have := hblk i a m d hi
          rw [e1]; simp only; omega
        have hcA : (wr.alloc (.cells #[.slice A' k k] 25)).drew.cell? ⟨w.heap.size + 2, 0, none⟩ = some (.slice Ao (pre.filter (accB R [])).length co') := (((Below.refl _ wr).alloc (Nat.le_refl _) (.cells #[.slice A' k k] 25)).drew.cell (p := ⟨w.heap.size + 2, 0, none⟩) (block_lt_of_cell hc)).trans hc
        have hbA : Below wr.heap.size wr (wr.alloc (.cells #[.slice A' k k] 25)).drew := ((Below.refl _ wr).alloc (Nat.le_refl _) _).drew
        have HBA := Lib.hid hbA
        have HOWN := Lib.hid hown
        have HOWA := Lib.hid (own_below hown hbA)
        have HROWS := Lib.hid hrows
        have HGO := Lib.hid hgo
        have hs2 : w.heap.size ≤ wr.heap.size := hb.size
        have HB := Lib.hid hb
        have HGC := Lib.hid hgc
        have HHF := Lib.hid hf
        have HHC := Lib.hid hc
        generalize hN : (pre.filter (accB R [])).length = N at *
        have HN := Lib.hid hN
        clear hapr hblk HFV HOP hown hrows hgo hbA hb hacx HACC HF0 HF1 hN
        gi_wp2
        refine wpIn_region_any (by kernel_rfl) ?_
        change wpAnyIn _ _ _ _ _ _ _ _ _ (World.drew _)
        refine wpAnyIn_ready (rs := [0, 1]) (by kernel_rfl) (by simp) ?_
        refine AllReadyIn.cons rfl (fun K hK => ?_) ?_
        · skip
          go_simp
          refine hK _ _ ?_
          clear hK K
          refine wpAnyIn_ready (rs := [1]) (by kernel_rfl) (by simp) ?_
          refine AllReadyIn.cons rfl (fun K hK => ?_) ?_
          · skip
            go_simp
            refine hK _ _ ?_
            clear hK K
            refine wpAnyIn_ready (rs := [2]) (by kernel_rfl) (by simp) ?_
            refine AllReadyIn.cons rfl (fun K hK => ?_) ?_
            · skip
              go_simp
              refine ⟨trivial, fun h => (by simp [Fence.wide] at h), ?_⟩
              gi_at_call 106
              refine (CallsIn.inRound l (callsIn_wide.2 (ClipO_any A' k c' _ (by omega) hc'))).mono ?_
              rintro e w' ⟨rfl, rfl⟩
              go_simp
              refine hK _ _ ?_
              clear hK K
              refine wpAnyIn_ready (rs := [3]) (by kernel_rfl) (by simp) ?_
              refine AllReadyIn.cons rfl (fun K hK => ?_) ?_
              · skip
                go_simp
                refine hK _ _ ?_
                clear hK K
                refine wpAnyIn_ready (rs := [4]) (by kernel_rfl) (by simp) ?_
                refine AllReadyIn.cons rfl (fun K hK => ?_) ?_
                · skip
                  refine stepIn_rows (.tmp 32) (.tmp 35) HOWA.out (by have := HBA.out.size; omega) (Src.one wr.drew (.slice A' k k) 25 rfl) (by omega) rfl rfl rfl rfl ?_
                  intro v1 w1 hown1 hg1 hat1
                  obtain ⟨A1, c1, rfl, hc1⟩ := own_form2 hown1
                  have hne : (Value.slice Ao N co').ownBlock ≠ some (w.heap.size + 2) := fun e => by have := HGO.out _ e; omega
                  have c2w := (cell_grown hg1 (p := ⟨w.heap.size + 2, 0, none⟩) (block_lt_of_cell hcA) (fun e => hne e.symm)).trans hcA
                  have f2w : w1.frozen? ⟨w.heap.size + 2, 0, none⟩ = false := (frozen_grown hg1 (p := ⟨w.heap.size + 2, 0, none⟩) (block_lt_of_cell hcA) (fun e => hne e.symm)).trans ((HBA.out.frozen (p := ⟨w.heap.size + 2, 0, none⟩) (block_lt_of_cell hc)).trans hf)
                  have hfin := And.intro (push_keep (w := wL) (bo := w.heap.size + 2) (q := w.heap.size + 1) (bx := w.heap.size + 3) (n0 := w.heap.size) (ov' := .slice A1 (N + 1) c1) (by omega) ⟨by omega, by omega⟩ ⟨by omega, by omega, by omega⟩ (by omega) HGO.out (by omega) HBA.out hg1) (And.intro (OutInv.push (w := wL) (bo := w.heap.size + 2) (q := w.heap.size + 1) (xss := pre.filter (accB R [])) (by omega) (by omega) (by omega) ⟨by omega, by omega⟩ HB.out HHF.out HHC.out (by rw [HN.out]; exact HOWN.out) HROWS.out HAPR.out HGO.out HX.out HXL.out HBA.out hlo (by rw [HN.out]; exact hown1) hg1 hat1) (push_cell (w := wL) (bo := w.heap.size + 2) (q := w.heap.size + 1) (p := w.heap.size) (ov' := .slice A1 (N + 1) c1) HGO.out (by omega) (by omega) (by omega) HBA.out hg1 HGC.out))
                  have HFIN := Lib.hid hfin
                  clear hfin hown1 hg1 hat1
                  go_simp
                  refine hK _ _ ?_
                  clear hK K
                  refine wpAnyIn_ready (rs := [5]) (by kernel_rfl) (by simp) ?_
                  refine AllReadyIn.cons rfl (fun K hK => ?_) ?_
                  · skip
                    go_simp
                    refine hK _ _ ?_
                    clear hK K
                    refine wpAnyIn_done (by kernel_rfl) ?_ _
                    have hgoal : permPost wL.heap.size (w.heap.size + 3) w.heap.size (fun acc V => OutInv w wL (w.heap.size + 2) (w.heap.size + 1) (acc.filter (accB R [])) V ∧ V.cell? ⟨w.heap.size, 0, none⟩ = some (.slice G 4 gc)) (pre ++ [x]) wr .normal { tmps := #[], defers := [] } (w1.setCell ⟨w.heap.size + 2, 0, none⟩ (.slice A1 (N + 1) c1)) := by
                      refine ⟨HFIN.out.1, ?_, HFIN.out.2.2⟩
                      show OutInv _ _ _ _ ((pre ++ [x]).filter (accB R [])) _
                      rw [HF.out]
                      exact HFIN.out.2.1
                    exact hgoal
                  exact AllReadyIn.nil
                exact AllReadyIn.nil
              exact AllReadyIn.nil
            exact AllReadyIn.nil
          exact AllReadyIn.nil
        refine AllReadyIn.cons rfl (fun K hK => ?_) ?_
        · skip
          go_simp
          refine hK _ _ ?_
          clear hK K
          refine wpAnyIn_ready (rs := [0, 2]) (by kernel_rfl) (by simp) ?_
          refine AllReadyIn.cons rfl (fun K hK => ?_) ?_
          · skip
            go_simp
            refine hK _ _ ?_
            clear hK K
            refine wpAnyIn_ready (rs := [2]) (by kernel_rfl) (by simp) ?_
            refine AllReadyIn.cons rfl (fun K hK => ?_) ?_
            · skip
              go_simp
              refine ⟨trivial, fun h => (by simp [Fence.wide] at h), ?_⟩
              gi_at_call 106
              refine (CallsIn.inRound l (callsIn_wide.2 (ClipO_any A' k c' _ (by omega) hc'))).mono ?_
              rintro e w' ⟨rfl, rfl⟩
              go_simp
              refine hK _ _ ?_
              clear hK K
              refine wpAnyIn_ready (rs := [3]) (by kernel_rfl) (by simp) ?_
              refine AllReadyIn.cons rfl (fun K hK => ?_) ?_
              · skip
                go_simp
                refine hK _ _ ?_
                clear hK K
                refine wpAnyIn_ready (rs := [4]) (by kernel_rfl) (by simp) ?_
                refine AllReadyIn.cons rfl (fun K hK => ?_) ?_
                · skip
                  refine stepIn_rows (.tmp 32) (.tmp 35) HOWA.out (by have := HBA.out.size; omega) (Src.one wr.drew (.slice A' k k) 25 rfl) (by omega) rfl rfl rfl rfl ?_
                  intro v1 w1 hown1 hg1 hat1
                  obtain ⟨A1, c1, rfl, hc1⟩ := own_form2 hown1
                  have hne : (Value.slice Ao N co').ownBlock ≠ some (w.heap.size + 2) := fun e => by have := HGO.out _ e; omega
                  have c2w := (cell_grown hg1 (p := ⟨w.heap.size + 2, 0, none⟩) (block_lt_of_cell hcA) (fun e => hne e.symm)).trans hcA
                  have f2w : w1.frozen? ⟨w.heap.size + 2, 0, none⟩ = false := (frozen_grown hg1 (p := ⟨w.heap.size + 2, 0, none⟩) (block_lt_of_cell hcA) (fun e => hne e.symm)).trans ((HBA.out.frozen (p := ⟨w.heap.size + 2, 0, none⟩) (block_lt_of_cell hc)).trans hf)
                  have hfin := And.intro (push_keep (w := wL) (bo := w.heap.size + 2) (q := w.heap.size + 1) (bx := w.heap.size + 3) (n0 := w.heap.size) (ov' := .slice A1 (N + 1) c1) (by omega) ⟨by omega, by omega⟩ ⟨by omega, by omega, by omega⟩ (by omega) HGO.out (by omega) HBA.out hg1) (And.intro (OutInv.push (w := wL) (bo := w.heap.size + 2) (q := w.heap.size + 1) (xss := pre.filter (accB R [])) (by omega) (by omega) (by omega) ⟨by omega, by omega⟩ HB.out HHF.out HHC.out (by rw [HN.out]; exact HOWN.out) HROWS.out HAPR.out HGO.out HX.out HXL.out HBA.out hlo (by rw [HN.out]; exact hown1) hg1 hat1) (push_cell (w := wL) (bo := w.heap.size + 2) (q := w.heap.size + 1) (p := w.heap.size) (ov' := .slice A1 (N + 1) c1) HGO.out (by omega) (by omega) (by omega) HBA.out hg1 HGC.out))
                  have HFIN := Lib.hid hfin
                  clear hfin hown1 hg1 hat1
                  go_simp
                  refine hK _ _ ?_
                  clear hK K
                  refine wpAnyIn_ready (rs := [5]) (by kernel_rfl) (by simp) ?_
                  refine AllReadyIn.cons rfl (fun K hK => ?_) ?_
                  · skip
                    go_simp
                    refine hK _ _ ?_
                    clear hK K
                    refine wpAnyIn_done (by kernel_rfl) ?_ _
                    have hgoal : permPost wL.heap.size (w.heap.size + 3) w.heap.size (fun acc V => OutInv w wL (w.heap.size + 2) (w.heap.size + 1) (acc.filter (accB R [])) V ∧ V.cell? ⟨w.heap.size, 0, none⟩ = some (.slice G 4 gc)) (pre ++ [x]) wr .normal { tmps := #[], defers := [] } (w1.setCell ⟨w.heap.size + 2, 0, none⟩ (.slice A1 (N + 1) c1)) := by
                      refine ⟨HFIN.out.1, ?_, HFIN.out.2.2⟩
                      show OutInv _ _ _ _ ((pre ++ [x]).filter (accB R [])) _
                      rw [HF.out]
                      exact HFIN.out.2.1
                    exact hgoal
                  exact AllReadyIn.nil
                exact AllReadyIn.nil
              exact AllReadyIn.nil
            exact AllReadyIn.nil
          refine AllReadyIn.cons rfl (fun K hK => ?_) ?_
          · skip
            go_simp
            refine ⟨trivial, fun h => (by simp [Fence.wide] at h), ?_⟩
            gi_at_call 106
            refine (CallsIn.inRound l (callsIn_wide.2 (ClipO_any A' k c' _ (by omega) hc'))).mono ?_
            rintro e w' ⟨rfl, rfl⟩
            go_simp
            refine hK _ _ ?_
            clear hK K
            refine wpAnyIn_ready (rs := [0, 3]) (by kernel_rfl) (by simp) ?_
            refine AllReadyIn.cons rfl (fun K hK => ?_) ?_
            · skip
              go_simp
              refine hK _ _ ?_
              clear hK K
              refine wpAnyIn_ready (rs := [3]) (by kernel_rfl) (by simp) ?_
              refine AllReadyIn.cons rfl (fun K hK => ?_) ?_
              · skip
                go_simp
                refine hK _ _ ?_
                clear hK K
                refine wpAnyIn_ready (rs := [4]) (by kernel_rfl) (by simp) ?_
                refine AllReadyIn.cons rfl (fun K hK => ?_) ?_
                · skip
                  refine stepIn_rows (.tmp 32) (.tmp 35) HOWA.out (by have := HBA.out.size; omega) (Src.one wr.drew (.slice A' k k) 25 rfl) (by omega) rfl rfl rfl rfl ?_
                  intro v1 w1 hown1 hg1 hat1
                  obtain ⟨A1, c1, rfl, hc1⟩ := own_form2 hown1
                  have hne : (Value.slice Ao N co').ownBlock ≠ some (w.heap.size + 2) := fun e => by have := HGO.out _ e; omega
                  have c2w := (cell_grown hg1 (p := ⟨w.heap.size + 2, 0, none⟩) (block_lt_of_cell hcA) (fun e => hne e.symm)).trans hcA
                  have f2w : w1.frozen? ⟨w.heap.size + 2, 0, none⟩ = false := (frozen_grown hg1 (p := ⟨w.heap.size + 2, 0, none⟩) (block_lt_of_cell hcA) (fun e => hne e.symm)).trans ((HBA.out.frozen (p := ⟨w.heap.size + 2, 0, none⟩) (block_lt_of_cell hc)).trans hf)
                  have hfin := And.intro (push_keep (w := wL) (bo := w.heap.size + 2) (q := w.heap.size + 1) (bx := w.heap.size + 3) (n0 := w.heap.size) (ov' := .slice A1 (N + 1) c1) (by omega) ⟨by omega, by omega⟩ ⟨by omega, by omega, by omega⟩ (by omega) HGO.out (by omega) HBA.out hg1) (And.intro (OutInv.push (w := wL) (bo := w.heap.size + 2) (q := w.heap.size + 1) (xss := pre.filter (accB R [])) (by omega) (by omega) (by omega) ⟨by omega, by omega⟩ HB.out HHF.out HHC.out (by rw [HN.out]; exact HOWN.out) HROWS.out HAPR.out HGO.out HX.out HXL.out HBA.out hlo (by rw [HN.out]; exact hown1) hg1 hat1) (push_cell (w := wL) (bo := w.heap.size + 2) (q := w.heap.size + 1) (p := w.heap.size) (ov' := .slice A1 (N + 1) c1) HGO.out (by omega) (by omega) (by omega) HBA.out hg1 HGC.out))
                  have HFIN := Lib.hid hfin
                  clear hfin hown1 hg1 hat1
                  go_simp
                  refine hK _ _ ?_
                  clear hK K
                  refine wpAnyIn_ready (rs := [5]) (by kernel_rfl) (by simp) ?_
                  refine AllReadyIn.cons rfl (fun K hK => ?_) ?_
                  · skip
                    go_simp
                    refine hK _ _ ?_
                    clear hK K
                    refine wpAnyIn_done (by kernel_rfl) ?_ _
                    have hgoal : permPost wL.heap.size (w.heap.size + 3) w.heap.size (fun acc V => OutInv w wL (w.heap.size + 2) (w.heap.size + 1) (acc.filter (accB R [])) V ∧ V.cell? ⟨w.heap.size, 0, none⟩ = some (.slice G 4 gc)) (pre ++ [x]) wr .normal { tmps := #[], defers := [] } (w1.setCell ⟨w.heap.size + 2, 0, none⟩ (.slice A1 (N + 1) c1)) := by
                      refine ⟨HFIN.out.1, ?_, HFIN.out.2.2⟩
                      show OutInv _ _ _ _ ((pre ++ [x]).filter (accB R [])) _
                      rw [HF.out]
                      exact HFIN.out.2.1
                    exact hgoal
                  exact AllReadyIn.nil
                exact AllReadyIn.nil
              exact AllReadyIn.nil
            refine AllReadyIn.cons rfl (fun K hK => ?_) ?_
            · skip
              go_simp
              refine hK _ _ ?_
              clear hK K
              refine wpAnyIn_ready (rs := [0]) (by kernel_rfl) (by simp) ?_
              refine AllReadyIn.cons rfl (fun K hK => ?_) ?_
              · skip
                go_simp
                refine hK _ _ ?_
                clear hK K
                refine wpAnyIn_ready (rs := [4]) (by kernel_rfl) (by simp) ?_
                refine AllReadyIn.cons rfl (fun K hK => ?_) ?_
                · skip
                  refine stepIn_rows (.tmp 32) (.tmp 35) HOWA.out (by have := HBA.out.size; omega) (Src.one wr.drew (.slice A' k k) 25 rfl) (by omega) rfl rfl rfl rfl ?_
                  intro v1 w1 hown1 hg1 hat1
                  obtain ⟨A1, c1, rfl, hc1⟩ := own_form2 hown1
                  have hne : (Value.slice Ao N co').ownBlock ≠ some (w.heap.size + 2) := fun e => by have := HGO.out _ e; omega
                  have c2w := (cell_grown hg1 (p := ⟨w.heap.size + 2, 0, none⟩) (block_lt_of_cell hcA) (fun e => hne e.symm)).trans hcA
                  have f2w : w1.frozen? ⟨w.heap.size + 2, 0, none⟩ = false := (frozen_grown hg1 (p := ⟨w.heap.size + 2, 0, none⟩) (block_lt_of_cell hcA) (fun e => hne e.symm)).trans ((HBA.out.frozen (p := ⟨w.heap.size + 2, 0, none⟩) (block_lt_of_cell hc)).trans hf)
                  have hfin := And.intro (push_keep (w := wL) (bo := w.heap.size + 2) (q := w.heap.size + 1) (bx := w.heap.size + 3) (n0 := w.heap.size) (ov' := .slice A1 (N + 1) c1) (by omega) ⟨by omega, by omega⟩ ⟨by omega, by omega, by omega⟩ (by omega) HGO.out (by omega) HBA.out hg1) (And.intro (OutInv.push (w := wL) (bo := w.heap.size + 2) (q := w.heap.size + 1) (xss := pre.filter (accB R [])) (by omega) (by omega) (by omega) ⟨by omega, by omega⟩ HB.out HHF.out HHC.out (by rw [HN.out]; exact HOWN.out) HROWS.out HAPR.out HGO.out HX.out HXL.out HBA.out hlo (by rw [HN.out]; exact hown1) hg1 hat1) (push_cell (w := wL) (bo := w.heap.size + 2) (q := w.heap.size + 1) (p := w.heap.size) (ov' := .slice A1 (N + 1) c1) HGO.out (by omega) (by omega) (by omega) HBA.out hg1 HGC.out))
                  have HFIN := Lib.hid hfin
                  clear hfin hown1 hg1 hat1
                  go_simp
                  refine hK _ _ ?_
                  clear hK K
                  refine wpAnyIn_ready (rs := [5]) (by kernel_rfl) (by simp) ?_
                  refine AllReadyIn.cons rfl (fun K hK => ?_) ?_
                  · skip
                    go_simp
                    refine hK _ _ ?_
                    clear hK K
                    refine wpAnyIn_done (by kernel_rfl) ?_ _
                    have hgoal : permPost wL.heap.size (w.heap.size + 3) w.heap.size (fun acc V => OutInv w wL (w.heap.size + 2) (w.heap.size + 1) (acc.filter (accB R [])) V ∧ V.cell? ⟨w.heap.size, 0, none⟩ = some (.slice G 4 gc)) (pre ++ [x]) wr .normal { tmps := #[], defers := [] } (w1.setCell ⟨w.heap.size + 2, 0, none⟩ (.slice A1 (N + 1) c1)) := by
                      refine ⟨HFIN.out.1, ?_, HFIN.out.2.2⟩
                      show OutInv _ _ _ _ ((pre ++ [x]).filter (accB R [])) _
                      rw [HF.out]
                      exact HFIN.out.2.1
                    exact hgoal
                  exact AllReadyIn.nil
                exact AllReadyIn.nil
              exact AllReadyIn.nil
            exact AllReadyIn.nil
          exact AllReadyIn.nil
        exact AllReadyIn.nil
end Go.Proofs.Ytofcpfabjfhjoaa
namespace Go.Proofs.Ytofcpfabjfhjoaa
open Go.RowKit
set_option linter.unusedVariables false

def mSort_ren : Go.Shelf.Ren := ⟨fun | 5 => 142 | 8 => 160 | 7 => 159 | 19 => 183 | 20 => 184 | 10 => 174 | 11 => 175 | 12 => 176 | 13 => 177 | 14 => 178 | 15 => 179 | 16 => 180 | 17 => 181 | 18 => 182 | 30 => 194 | 31 => 195 | 32 => 196 | 33 => 197 | 34 => 198 | 35 => 199 | 40 => 207 | n => n, fun | 23 => 25 | 25 => 3 | 3 => 3 | 32 => 108 | 22 => 25 | 0 => 0 | 44 => 118 | 46 => 137 | 4 => 4 | 36 => 147 | 35 => 146 | 41 => 84 | 5 => 5 | 9 => 9 | 53 => 161 | 57 => 165 | 63 => 171 | 64 => 80 | n => n, fun | n => n⟩
theorem mSort : Go.Proofs.SlLaysM.n5 Try.prog mSort_ren where
  mixed := by kernel_rfl
  f5 := ⟨Try.f142.name, by kernel_rfl, Try.func142.trans (congrArg some (by kernel_rfl))⟩
  f7 := ⟨Try.f159.name, by kernel_rfl, Try.func159.trans (congrArg some (by kernel_rfl))⟩
  f8 := Try.func160.trans (congrArg some (by kernel_rfl))
  f10 := ⟨Try.f174.name, by kernel_rfl, Try.func174.trans (congrArg some (by kernel_rfl))⟩
  f11 := ⟨Try.f175.name, by kernel_rfl, Try.func175.trans (congrArg some (by kernel_rfl))⟩
  f12 := ⟨Try.f176.name, by kernel_rfl, Try.func176.trans (congrArg some (by kernel_rfl))⟩
  f13 := ⟨Try.f177.name, by kernel_rfl, Try.func177.trans (congrArg some (by kernel_rfl))⟩
  f14 := ⟨Try.f178.name, by kernel_rfl, Try.func178.trans (congrArg some (by kernel_rfl))⟩
  f15 := ⟨Try.f179.name, by kernel_rfl, Try.func179.trans (congrArg some (by kernel_rfl))⟩
  f16 := ⟨Try.f180.name, by kernel_rfl, Try.func180.trans (congrArg some (by kernel_rfl))⟩
  f17 := ⟨Try.f181.name, by kernel_rfl, Try.func181.trans (congrArg some (by kernel_rfl))⟩
  f18 := ⟨Try.f182.name, by kernel_rfl, Try.func182.trans (congrArg some (by kernel_rfl))⟩
  f19 := Try.func183.trans (congrArg some (by kernel_rfl))
  f20 := Try.func184.trans (congrArg some (by kernel_rfl))
  f30 := ⟨Try.f194.name, by kernel_rfl, Try.func194.trans (congrArg some (by kernel_rfl))⟩
  f31 := Try.func195.trans (congrArg some (by kernel_rfl))
  f32 := Try.func196.trans (congrArg some (by kernel_rfl))
  f33 := ⟨Try.f197.name, by kernel_rfl, Try.func197.trans (congrArg some (by kernel_rfl))⟩
  f34 := ⟨Try.f198.name, by kernel_rfl, Try.func198.trans (congrArg some (by kernel_rfl))⟩
  f35 := ⟨Try.f199.name, by kernel_rfl, Try.func199.trans (congrArg some (by kernel_rfl))⟩
  f40 := ⟨Try.f207.name, by kernel_rfl, Try.func207.trans (congrArg some (by kernel_rfl))⟩
  t0 := Try.underlying0
  a0 := Try.isAgg0
  z0 := Try.sizeOf0
  v0 := Try.zeroValue0
  t3 := Try.underlying3
  a3 := Try.isAgg3
  z3 := Try.sizeOf3
  v3 := Try.zeroValue3
  t4 := Try.underlying4
  a4 := Try.isAgg4
  z4 := Try.sizeOf4
  v4 := Try.zeroValue4
  t5 := Try.underlying5
  a5 := Try.isAgg5
  z5 := Try.sizeOf5
  v5 := Try.zeroValue5
  t9 := Try.underlying9
  a9 := Try.isAgg9
  z9 := Try.sizeOf9
  v9 := Try.zeroValue9
  t22 := Try.underlying25
  a22 := Try.isAgg25
  z22 := Try.sizeOf25
  v22 := Try.zeroValue25
  t23 := Try.underlying25
  a23 := Try.isAgg25
  z23 := Try.sizeOf25
  v23 := Try.zeroValue25
  t25 := Try.underlying3
  a25 := Try.isAgg3
  z25 := Try.sizeOf3
  v25 := Try.zeroValue3
  t32 := Try.underlying108
  a32 := Try.isAgg108
  z32 := Try.sizeOf108
  v32 := Try.zeroValue108
  t35 := Try.underlying146
  a35 := Try.isAgg146
  z35 := Try.sizeOf146
  v35 := Try.zeroValue146
  t36 := Try.underlying147
  a36 := Try.isAgg147
  z36 := Try.sizeOf147
  v36 := Try.zeroValue147
  t41 := Try.underlying84
  a41 := Try.isAgg84
  z41 := Try.sizeOf84
  v41 := Try.zeroValue84
  t44 := Try.underlying118
  a44 := Try.isAgg118
  z44 := Try.sizeOf118
  v44 := Try.zeroValue118
  t46 := Try.underlying137
  a46 := Try.isAgg137
  z46 := Try.sizeOf137
  v46 := Try.zeroValue137
  t53 := Try.underlying161
  a53 := Try.isAgg161
  z53 := Try.sizeOf161
  v53 := Try.zeroValue161
  t57 := Try.underlying165
  a57 := Try.isAgg165
  z57 := Try.sizeOf165
  v57 := Try.zeroValue165
  t63 := Try.underlying171
  a63 := Try.isAgg171
  z63 := Try.sizeOf171
  v63 := Try.zeroValue171
  t64 := Try.underlying80
  a64 := Try.isAgg80
  z64 := Try.sizeOf80
  v64 := Try.zeroValue80

theorem sort_ren : mSort_ren.f 5 = 142 := rfl
#print axioms mSort
end Go.Proofs.Ytofcpfabjfhjoaa
namespace Go.Proofs.Ytofcpfabjfhjoaa
open Go.RowKit Go.BigFrame Go.Shelf Go.Sort
set_option linter.unusedVariables false

attribute [local go_sem] Oper.semAt_some


set_option maxRecDepth 100000 in
set_option maxHeartbeats 2000000 in
theorem lstvals1_in (N l Bs n₀ : Nat) (A : Option Addr) (n c : Nat) (zs : List Int) (hA : ∀ ad, A = some ad → ad.block < n₀) (J Jx : List Int → World → Prop)
    (hY : ∀ pre x W, J pre W → pre.length < zs.length → YieldAt Fence.wide (N - 1) Try.prog l #[.int .i64 x] W fun e W' =>
      (e = .returned (.bool true) ∧ J (pre ++ [x]) W' ∧ Below n₀ W W') ∨ (e = .returned (.bool false) ∧ Jx (pre ++ [x]) W'))
    (W : World) (hBs : W.cell? ⟨Bs, 0, none⟩ = some (.slice A n c)) (hl : RInts W A n zs) (h0 : J [] W) :
    CallsIn Fence.wide N Try.prog 143 #[.func (.yield l) #[] #[], .pointer (some ⟨Bs, 0, none⟩)] W fun e W' => (∃ v, e = .returned v) ∧
      ((∃ ys, ys = zs ∧ J ys W') ∨ (∃ pre, pre <+: zs ∧ Jx pre W')) := by
  have hn := hl.2.1
  have HL := Lib.hid hl
  have HLEN := Lib.hid hl.1
  have HY := Lib.hid hY
  have HA := Lib.hid hA
  clear hl hY hA
  refine callsIn_of_wp Try.func143 rfl trivial ?_ rfl
  simp only [Try.ntmps143, List.size_toArray, List.length_cons, List.length_nil, Nat.reduceAdd, Nat.reduceSub, Array.replicate_succ, Array.replicate_zero, List.push_toArray, List.append_toArray, List.nil_append, List.cons_append]
  gi_wp2
  gi_loopw [7] (fun i wr => ∃ k : Nat, k ≤ n ∧ i = .int .i64 k ∧ J (zs.take k) wr ∧ Below n₀ W wr) (fun i _ => n - (intOf i).toNat)
  case atStart => exact ⟨0, Nat.zero_le _, rfl, by simpa using h0, Below.refl _ _⟩
  case round =>
    obtain ⟨k, hk, rfl, hJs, hnx⟩ := hrel
    have HJ := Lib.hid hJs
    have HNX := Lib.hid hnx
    clear hJs hnx
    by_cases hlt : k < n
    · obtain ⟨b, off, x, hAe, hbl, ho, c0⟩ := HL.out.at_ hlt
      have hb := HA.out _ hAe
      subst hAe
      have hcx := (HNX.out.cell (p := ⟨b, off + k, none⟩) hb).trans c0
      have HTS := Lib.hid (take_snoc ho)
      obtain ⟨fn, tmps, assign, body, hy, hR⟩ := HY.out _ x wr HJ.out (by simp [HLEN.out]; omega)
      have HR := Lib.hid hR
      have HPX : Hid (zs.take (k + 1) <+: zs) := List.take_prefix _ _
      clear hR c0 ho
      gi_wp2
      refine ⟨fun h => (by simp [Fence.wide] at h), ?_⟩
      refine HR.out.mono ?_
      rintro e W3 (⟨rfl, hJ3, hk3⟩ | ⟨rfl, hJx3⟩)
      · have HJ3 := Lib.hid hJ3
        have HK3 := Lib.hid hk3
        clear hJ3 hk3
        gi_wp2
        go_roundw
        case rel => exact ⟨k + 1, by omega, by go_num, by rw [HTS.out]; exact HJ3.out, HNX.out.trans HK3.out⟩
        case measure => simp [intOf]; omega
      · have HJ3 := Lib.hid hJx3
        clear hJx3
        gi_wp2
        refine bodyPost_ret (results_none rfl _ _ _) rfl ?_
        exact ⟨⟨_, rfl⟩, .inr ⟨_, HPX.out, by rw [HTS.out]; exact HJ3.out⟩⟩
    · obtain rfl : k = n := by omega
      gi_wp2
      go_end0
      exact ⟨⟨_, rfl⟩, .inl ⟨_, List.take_of_length_le (by rw [HLEN.out]; exact Nat.le_refl _), HJ.out⟩⟩

theorem lstvals_stops (N Bs n₀ : Nat) (A : Option Addr) (n c : Nat) (zs : List Int) (w : World) (hBs : Bs < w.heap.size) (hn₀ : n₀ ≤ w.heap.size) (hc : w.cell? ⟨Bs, 0, none⟩ = some (.slice A n c)) (hl : RInts w A n zs) (hA : ∀ ad, A = some ad → ad.block < n₀) :
    SeqStopsK Fence.wide N Try.prog 143 #[.pointer (some ⟨Bs, 0, none⟩)] (fun x : Int => #[Value.int .i64 x]) (Below n₀) (fun ys => ys = zs) (fun pre => pre <+: zs) zs.length w := fun l J Jx W hW _ _ hY h0 =>
  lstvals1_in N l Bs n₀ A n c zs hA J Jx hY W ((hW.cell (p := ⟨Bs, 0, none⟩) hBs).trans hc) (hl.below hW (Nat.le_refl _)) h0

set_option maxHeartbeats 1000000 in
theorem lstvalues_any (A : Option Addr) (n c : Nat) (w : World) :
    Calls Try.prog 98 #[.slice A n c] w fun e w' => e = .returned (.func (.func 143) #[] #[.pointer (some ⟨w.heap.size, 0, none⟩)]) ∧ w' = w.alloc (.cells #[.slice A n c] 60) := by
  go_enter Try.func98, Try.ntmps98
  go_wp2_with fail
  go_ret
  exact ⟨rfl, rfl⟩

set_option maxRecDepth 100000 in
set_option maxHeartbeats 2000000 in
theorem lstappendSeq_any (Bs : Nat) (A : Option Addr) (n c : Nat) (zs : List Int) (w : World) (hBs : Bs < w.heap.size) (hc : w.cell? ⟨Bs, 0, none⟩ = some (.slice A n c)) (hl : RInts w A n zs) (hA : ∀ ad, A = some ad → ad.block < w.heap.size) :
    Calls Try.prog 158 #[.slice none 0 0, .func (.func 143) #[] #[.pointer (some ⟨Bs, 0, none⟩)]] w fun e W' =>
      ∃ v, e = .returned v ∧ W'.ownsRow w.heap.size 3 1 v n (intCells zs) ∧ Below w.heap.size w W' := by
  obtain ⟨i0, hi, hz0, hz1, hz2⟩ := info_parts intInfo
  have hn := hl.2.1
  have HLEN := Lib.hid hl.1
  have HL := Lib.hid hl
  have HA := Lib.hid hA
  have HC := Lib.hid hc
  clear hl hA hc
  refine (callsIn_wide (n := 9)).1 ?_
  refine callsIn_of_wp_marks Try.func158 rfl trivial ?_ rfl
  simp only [Try.ntmps158, List.size_toArray, List.length_cons, List.length_nil, Nat.reduceAdd, Nat.reduceSub, Array.replicate_succ, Array.replicate_zero, List.push_toArray, List.append_toArray, List.nil_append, List.cons_append]
  gi_wp2
  have bO := Boxed.new w 25 (.slice none 0 0)
  have hB0 : Below w.heap.size w (w.alloc (.cells #[.slice none 0 0] 25)) := (Below.refl _ w).alloc (Nat.le_refl _) _
  refine wpIn_rangeFunc_ownG rfl (by omega) (gf := 143) (lb := #[.pointer (some ⟨Bs, 0, none⟩)]) rfl trivial (enters_of Try.func143 (by kernel_rfl) rfl)
    (lstvals_stops _ Bs w.heap.size A n c zs (w.alloc (.cells #[.slice none 0 0] 25)) (by simp; omega) (by simp) ((hB0.cell (p := ⟨Bs, 0, none⟩) hBs).trans HC.out) (HL.out.below hB0 (Nat.le_refl _)) HA.out) belowK_t (belowK_b (by simp)) (Below.refl _ _) (fun _ => rfl)
    (fun pre W => (∃ v, Boxed W w.heap.size 25 v ∧ W.ownsRow w.heap.size 3 1 v pre.length (intCells pre) ∧ True) ∧ Below w.heap.size w W)
    (fun _ _ _ => False)
    (OwnFrom.and (Own.from (holdsRow_own w.heap.size w.heap.size 25 3 1 (fun pre : List Int => pre.length) (fun pre => intCells pre) (fun _ _ => True)) _) (ownFrom_below (Nat.le_refl _) (by simp)))
    (fun _ _ _ _ _ hs _ _ => hs)
    ⟨⟨_, bO, World.ownsRow_nil _ _ _ _, trivial⟩, hB0⟩
    (fun x => { tmps := #[.slice none 0 0, .func (.func 143) #[] #[.pointer (some ⟨Bs, 0, none⟩)], .pointer (some ⟨w.heap.size, 0, none⟩), undef, .slice none 0 0, .int .i64 x, .func (.func 143) #[] #[.pointer (some ⟨Bs, 0, none⟩)], .int .i64 x, undef, undef, undef, undef, undef], defers := [] }) ?assign ?body ?done ?stop
  case assign =>
    intro l x W K hK
    gi_wp2
    exact hK
  case body =>
    rintro l pre x W ⟨⟨v, hv, hrow, _⟩, hB⟩ hlt
    have hc := hv.cell
    have hpl : pre.length < n := by have := HLEN.out; omega
    have hbs := hB.size
    gi_wp2_with (gi_at_builtin; refine wpListIn_append_own _ rfl _ _ 25 rfl w.heap.size 3 i0 (.int .i64 0) 1 8 Try.underlying25 hi hz0 hz1 hz2 rfl (by decide) _ _ _ rfl (hrow.alloc _) ⟨W.heap.size, 0, none⟩ 1 1 [.int .i64 x] rfl rfl (cell_one_new _ _ _) (by simp [Value.oneCell']) (by unfold maxLen; omega) (by omega) (by simp; omega) ?_; intro v' w1 hown' hgrow _; obtain ⟨g', cap', rfl⟩ := ownsRow_succ hown'; obtain ⟨hv1, hv2, hr2, hk2, hb2⟩ := hv.appended (by decide) hrow hB.size (Nat.le_refl _) hown' hgrow; have hc1 := hv1.cell; have hf1 := hv1.frozen)
    exact ⟨hk2.from _, hb2, ⟨_, hv2, by simpa [intCells] using hr2, trivial⟩, hB.trans hb2⟩
  case done =>
    rintro D ys W hD rfl ⟨⟨v, hv, hrow, _⟩, hB⟩ hK
    have hc := hv.cell
    gi_wp2
    refine ⟨by simp, .inl ⟨_, _, rfl, run_takeDeferred hK, ?_⟩⟩
    exact ⟨_, results_tmp rfl _ _ _, v, rfl, by rw [← HLEN.out]; exact ownsRow_putObj hrow _ hK rfl, hB.trans (belowK_b (w := w) (Nat.le_refl _) W D _ _ (by simp at hD; omega) hK rfl rfl)⟩
  case stop =>
    rintro D c pre W _ _ h _
    exact h.elim

set_option maxHeartbeats 1000000 in
theorem lstcollect_any (Bs : Nat) (A : Option Addr) (n c : Nat) (zs : List Int) (w : World) (hBs : Bs < w.heap.size) (hc : w.cell? ⟨Bs, 0, none⟩ = some (.slice A n c)) (hl : RInts w A n zs) (hA : ∀ ad, A = some ad → ad.block < w.heap.size) :
    Calls Try.prog 141 #[.func (.func 143) #[] #[.pointer (some ⟨Bs, 0, none⟩)]] w fun e W' =>
      ∃ v, e = .returned v ∧ W'.ownsRow w.heap.size 3 1 v n (intCells zs) ∧ Below w.heap.size w W' := by
  have HP := Lib.hid (lstappendSeq_any Bs A n c zs w hBs hc hl hA)
  clear hc hl hA
  go_enter Try.func141, Try.ntmps141
  go_wp2_with fail
  refine HP.out.mono ?_
  rintro e w1 ⟨v, rfl, hown, hb⟩
  obtain ⟨A1, c1, rfl, hc1⟩ := own_form2 hown
  have HO := Lib.hid hown
  clear hown
  go_wp2_with fail
  go_ret
  exact ⟨_, rfl, HO.out, hb⟩

set_option maxHeartbeats 1000000 in
/-- What is sorted: new memory. -/
theorem lstsorted_any (Bs : Nat) (A : Option Addr) (n c : Nat) (zs : List Int) (w : World) (hBs : Bs < w.heap.size) (hc : w.cell? ⟨Bs, 0, none⟩ = some (.slice A n c)) (hl : RInts w A n zs) (hA : ∀ ad, A = some ad → ad.block < w.heap.size) :
    Calls Try.prog 97 #[.func (.func 143) #[] #[.pointer (some ⟨Bs, 0, none⟩)]] w (RetInts w (zs.mergeSort fun x y => decide (x ≤ y))) := by
  have hn := hl.2.1
  have HLEN := Lib.hid hl.1
  have HP := Lib.hid (lstcollect_any Bs A n c zs w hBs hc hl hA)
  have HSL : Hid ((zs.mergeSort fun x y => decide (x ≤ y)).length = n) := by show _ = _; rw [List.length_mergeSort]; exact hl.1
  clear hc hl hA
  go_enter Try.func97, Try.ntmps97
  go_wp2_with fail
  refine HP.out.mono ?_
  rintro e w1 ⟨v, rfl, hown, hb⟩
  rcases hown.2 with ⟨rfl, hz⟩ | ⟨gb, cap, cur, rfl, hbase, hgb, r1, r2, r3, r4⟩
  · subst hz
    have hzs : zs = [] := List.eq_nil_of_length_eq_zero HLEN.out
    subst hzs
    have HO : Hid (RetInts w (([] : List Int).mergeSort fun x y => decide (x ≤ y)) (.returned (.slice none 0 0)) w1) := by show RetInts _ _ _ _; simpa using RetInts.nil hb
    have hS : Calls Try.prog 142 #[.slice none 0 0] w1 fun e w' => e = .returned (.tuple #[]) ∧ w' = w1 := AnyM.slices_Sort_int_none mSort none 0 w1
    have HS := Lib.hid hS
    clear hown hS HSL
    go_wp2_with fail
    refine HS.out.mono ?_
    rintro e w2 ⟨rfl, rfl⟩
    go_wp2_with fail
    go_ret
    exact HO.out
  · have hlen := HLEN.out
    have hH : Sort.Holds (Value.int .i64) w1 gb 0 zs.toArray := holds_of_blockI hgb (by rw [show n * 1 = zs.length by omega] at r4; simpa [intCells] using r4)
    have hgl : gb < w1.heap.size := lt_of_block hgb
    have hS : Calls Try.prog 142 #[.slice (some ⟨gb, 0, none⟩) n cap] w1 fun e w' => e = .returned (.tuple #[]) ∧ ∃ k os, w' = Sort.grow (Sort.putRow (Value.int .i64) (Sort.ahead w1 k) gb 0 (zs.mergeSort fun x y => decide (x ≤ y)).toArray) os := by
      have := AnyM.slices_Sort_int mSort gb 0 cap zs w1 hH hgl (by omega)
      rw [hlen] at this
      exact this
    have HO : Hid (∀ k os, RetInts w (zs.mergeSort fun x y => decide (x ≤ y)) (.returned (.slice (some ⟨gb, 0, none⟩) n cap)) (Sort.grow (Sort.putRow (Value.int .i64) (Sort.ahead w1 k) gb 0 (zs.mergeSort fun x y => decide (x ≤ y)).toArray) os)) := by
      intro k os
      have hrow := ownsRow_sortedI (n := k) (os := os) (ss := zs) (ts := zs.mergeSort fun x y => decide (x ≤ y)) (by simp) hbase hgb (by omega) r2 r3
      rw [hlen] at hrow
      have hgw := grownBy_sortedI (w := w1) (g := gb) (n := k) (os := os) (zs.mergeSort fun x y => decide (x ≤ y)).toArray
      exact RetInts.mk HSL.out r1 (FreshInts.of_own (by simpa [intCells] using hrow) (Nat.le_refl _) hn) (hb.grown hgw hb.size (fun j hj => by cases hj; exact hbase))
    have HS := Lib.hid hS
    clear hown hS HSL hH r1 r2 r3 r4 hgb
    go_wp2_with fail
    refine HS.out.mono ?_
    rintro e w2 ⟨rfl, k, os, rfl⟩
    have HOO := Lib.hid (HO.out k os)
    clear HO
    generalize Sort.grow (Sort.putRow (Value.int .i64) (Sort.ahead w1 k) gb 0 (zs.mergeSort fun x y => decide (x ≤ y)).toArray) os = w3 at *
    go_wp2_with fail
    go_ret
    exact HOO.out

end Go.Proofs.Ytofcpfabjfhjoaa
namespace Go.Proofs.Ytofcpfabjfhjoaa
open Go.RowKit Go.BigFrame
set_option linter.unusedVariables false

/-- What the walk keeps: the rows of bits in block g, the list of survivors. -/
structure VgInv (w : World) (LA : Option Addr) (L : List Int) (g : Nat) (rows : List Nat) (rest : List Value) (wr : World) : Prop where
  below : Below w.heap.size w wr
  row : RowIs wr g 3 (intCells (rowsI rows) ++ rest)
  list : RInts wr LA L.length L
theorem VgInv.later {w wr W : World} {LA : Option Addr} {g : Nat} {L : List Int} {rows : List Nat} {rest : List Value} (h : VgInv w LA L g rows rest wr) (hb : Below wr.heap.size wr W) : VgInv w LA L g rows rest W :=
  ⟨h.below.trans (hb.mono h.below.size), h.row.below hb (Nat.le_refl _), h.list.below hb (Nat.le_refl _)⟩
theorem VgInv.drew {w wr : World} {LA : Option Addr} {g : Nat} {L : List Int} {rows : List Nat} {rest : List Value} (h : VgInv w LA L g rows rest wr) : VgInv w LA L g rows rest wr.drew := ⟨h.below.drew, h.row, h.list⟩
theorem VgInv.set {w wr : World} {LA : Option Addr} {g : Nat} {L : List Int} {rows : List Nat} {rest : List Value} {T : Nat} {u : Int} (h : VgInv w LA L g rows rest wr) (hge : w.heap.size ≤ g) (hne : ∀ ad, LA = some ad → g ≠ ad.block) (hT : T ≤ 3) (h4 : Rows4 rows) {v : Int}
    (hv : v = ((rows.getD T 0 ||| (1 <<< u.toNat) : Nat) : Int)) : VgInv w LA L g (rowSet rows T u) rest (wr.setCell ⟨g, T, none⟩ (.int .i64 v)) := by
  subst hv
  refine ⟨h.below.setCell (by simpa using hge) _, ?_, h.list.grown grown_set (fun b hb e => hne b hb (by injection e))⟩
  rw [rowsI_set]
  exact row_setInt h.row (by simp [rowsI, h4.1]; omega)
theorem VgInv.at_ {w wr : World} {LA : Option Addr} {g : Nat} {L : List Int} {rows : List Nat} {rest : List Value} (h : VgInv w LA L g rows rest wr) (h4 : Rows4 rows) {T : Nat} (hT : T ≤ 3) : wr.cell? ⟨g, T, none⟩ = some (.int .i64 ((rows.getD T 0 : Nat) : Int)) ∧ wr.frozen? ⟨g, T, none⟩ = false ∧ rows.getD T 0 < 16 := by
  obtain ⟨h1, h2⟩ := rowsI_at h4 hT
  refine ⟨h.row.cell ?_, h.row.frozen T, h2⟩
  have hl : T < (intCells (rowsI rows)).length := by simp [intCells, rowsI, h4.1]; omega
  rw [List.getElem?_append_left hl]
  exact h1
end Go.Proofs.Ytofcpfabjfhjoaa
namespace Go.Proofs.Ytofcpfabjfhjoaa
open Go.RowKit Go.BigFrame
set_option linter.unusedVariables false

theorem verI_rng {s : List OpV} {L : List Int} (hl : ∀ u ∈ L, 0 ≤ u ∧ u ≤ 3) {k : Nat} {o : OpV} (ho : 0 ≤ o.tx ∧ o.tx ≤ 3) : verI s L k o = -1 ∨ ∃ V : Nat, V ≤ 3 ∧ verI s L k o = V := by
  have hz : ∀ z : Int, 0 ≤ z ∧ z ≤ 3 → ∃ V : Nat, V ≤ 3 ∧ z = V := fun z hz => by
    obtain ⟨V, rfl⟩ := Int.eq_ofNat_of_zero_le hz.1
    exact ⟨V, by omega, rfl⟩
  unfold verI
  split
  · exact .inr (hz _ ho)
  · have : ∀ z : Int, (L.foldl (fun v u => if pI s o u then u else v) z = z) ∨ L.foldl (fun v u => if pI s o u then u else v) z ∈ L := by
      intro z
      clear hl
      induction L generalizing z with
      | nil => exact .inl rfl
      | cons x r ih =>
        rw [List.foldl_cons]
        rcases ih (if pI s o x then x else z) with h | h
        · rw [h]
          split
          · exact .inr (by simp)
          · exact .inl rfl
        · exact .inr (List.mem_cons_of_mem _ h)
    rcases this (-1) with h | h
    · exact .inl h
    · exact .inr (hz _ (hl _ h))

set_option maxRecDepth 100000 in
set_option maxHeartbeats 4000000 in
theorem versionGraph_any (A : Option Addr) (n c : Nat) (s : List OpV) (w : World) (hx : ROps w A n s) (hnc : n ≤ c) (hv : validS s = true) :
    Calls Try.prog 88 #[.slice A n c] w (RetInts w (rowsI (vgI s))) := by
  have hn := hx.2.1
  have hl := hx.1
  have HV := Lib.hid hv
  have HX := Lib.hid hx
  clear hx hv
  have hok0 : Rows4 (agI4 s) := by unfold agI4; exact agTo_ok (survI_rng HV.out) _
  have hlen0 : (rowsI (agI4 s)).length = 4 := by simp [rowsI, hok0.1]
  go_enter Try.func88, Try.ntmps88
  go_wp2_with fail
  refine (againstOf_any A n c s w HX.out hnc HV.out).mono ?_
  rintro e w1 ⟨GA, gc, rfl, hgc, hfG, hb1⟩
  rw [hlen0] at hfG hgc
  rw [hlen0]
  obtain ⟨g, rest, hGA, hge, hrow⟩ := hfG.row (by omega)
  subst hGA
  have hlt1 := hrow.lt
  go_wp2_with fail
  refine (survivorsOf_any A n c s w1 (HX.out.below hb1 (Nat.le_refl _)) (validS_items HV.out)).mono ?_
  rintro e w2 ⟨LA, lc, rfl, hlc, hfL, hb2⟩
  have hNE : Hid (∀ ad, LA = some ad → g ≠ ad.block) := by
    intro ad had
    have := (hfL.2 ad had)
    obtain ⟨b, cur, rfl, hge', _⟩ := this
    simp only; omega
  have hbw2 := hb1.trans (hb2.mono hb1.size)
  have HI0 : Hid (VgInv w LA (survI s) g (agI4 s) rest w2) := ⟨hbw2, hrow.below hb2 (Nat.le_refl _), hfL.1⟩
  have HR : Hid (∀ u ∈ survI s, 0 ≤ u ∧ u ≤ 3) := survI_rng HV.out
  have hgood : Hid (vgI s = vgTo (verI s (survI s)) (survI s) s (vgOut (fB s (survI s)) (survI s) (survI s) (agI4 s)) s.length) := rfl
  have hlenL := hfL.1.2.1
  generalize survI s = L at *
  generalize hR0 : agI4 s = R0 at *
  have HK0 := Lib.hid hok0
  clear hfG hrow hfL hb1 hb2 hbw2 hok0 hR0 hlen0
  go_wp2_with fail
  go_loopw [18] (fun i wr => ∃ j : Nat, j ≤ L.length ∧ i = .int .i64 j ∧ VgInv w LA L g (vgOut (fB s L) L (L.take j) R0) rest wr) (fun i _ => L.length - (intOf i).toNat)
  case atStart => exact ⟨0, Nat.zero_le _, rfl, HI0.out⟩
  case round =>
    clear HI0
    obtain ⟨wo, rfl⟩ : ∃ wo : World, wo = wr := ⟨_, rfl⟩
    obtain ⟨j, hj, rfl, hI⟩ := hrel
    by_cases hlt : j < L.length
    · obtain ⟨bo, offo, x, hA, hbo, hxx, hcx⟩ := hI.list.at_ hlt
      subst hA
      have hxr := HR.out x (List.mem_of_getElem? hxx)
      obtain ⟨T, rfl⟩ := Int.eq_ofNat_of_zero_le hxr.1
      have hT3 : T ≤ 3 := by omega
      have hstep := Lib.hid (vgOut_snoc (f := fB s L) (L := L) (rows := R0) hxx)
      have hokO : Hid (Rows4 (vgOut (fB s L) L (L.take j) R0)) := vgOut_ok HR.out HK0.out
      generalize hRO : vgOut (fB s L) L (L.take j) R0 = RO at *
      have HI := Lib.hid hI
      have HRO := Lib.hid hRO
      clear hI hRO hxx
      go_wp2_with fail
      go_loopw [24] (fun i wr => ∃ q : Nat, q ≤ L.length ∧ i = .int .i64 q ∧ VgInv w (some ⟨bo, offo, none⟩) L g (agIn (fB s L T) T (L.take q) RO) rest wr) (fun i _ => L.length - (intOf i).toNat)
      case atStart => exact ⟨0, Nat.zero_le _, rfl, HI.out⟩
      case round =>
        clear HI
        obtain ⟨q, hq, rfl, hJ⟩ := hrel
        by_cases hlt2 : q < L.length
        · obtain ⟨bo2, offo2, x2, hA2, _, hxx2, hcx2⟩ := hJ.list.at_ hlt2
          injection hA2 with hA2
          injection hA2 with e1 e2 _
          subst e1; subst e2
          have hxr2 := HR.out x2 (List.mem_of_getElem? hxx2)
          obtain ⟨U, rfl⟩ := Int.eq_ofNat_of_zero_le hxr2.1
          have hU3 : U ≤ 3 := by omega
          have hsn := Lib.hid (agIn_snoc (f := fB s L T) (t := T) (rows := RO) hxx2)
          have hok2 : Hid (Rows4 (agIn (fB s L T) T (L.take q) RO)) := agIn_ok (fun u hu => HR.out u (List.mem_of_mem_take hu)) hokO.out
          generalize hRI : agIn (fB s L T) T (L.take q) RO = RI at *
          have HJ := Lib.hid hJ
          have hxs := HX.out.below hJ.below (Nat.le_refl _)
          obtain ⟨bB, hbB⟩ : ∃ b, behB L U T = b := ⟨_, rfl⟩
          have hBe : Calls Try.prog 136 #[.slice (some ⟨bo, offo, none⟩) L.length lc, .int .i64 (U : Int), .int .i64 (T : Int)] wr fun e w' => e = .returned (.bool bB) ∧ Below wr.heap.size wr w' := by
            have := behind_any _ L.length lc L U T wr hJ.list; rw [hbB] at this; exact this
          have hW2 : ∀ (y : Int) (W : World), Below wr.heap.size wr W → Calls Try.prog 118 #[.slice A n c, .int .i64 y] W fun e w' => e = .returned (.int .i64 (wI s y : Nat)) ∧ Below W.heap.size W w' := fun y W hW => writesOf_any _ n c s y W (hxs.below hW (Nat.le_refl _)) (validS_items HV.out)
          have hwT := wTo_lt s T (validS_items HV.out) s.length
          have hwU := wTo_lt s U (validS_items HV.out) s.length
          have hfb : fB s L T U = (bB && ((wI s T &&& wI s U) != 0)) := by unfold fB; rw [hbB]
          have HBe := Lib.hid hBe
          have HW2T := Lib.hid (hW2 T)
          have HW2U := Lib.hid (hW2 U)
          have hand := and_nat (wI s T) (wI s U) (by unfold wI; omega) (by unfold wI; omega)
          obtain ⟨bz, hbz⟩ : ∃ b, ((wI s T &&& wI s U) != 0) = b := ⟨_, rfl⟩
          have hbz2 : (((wI s T &&& wI s U : Nat) : Int) != 0) = bz := by
            rw [← hbz, Bool.eq_iff_iff]; simp
          rw [hbz] at hfb
          have HFB := Lib.hid hfb
          generalize wI s T = MT at *
          generalize wI s U = MU at *
          clear hJ hxx2 hxs hbB hBe hW2 hwT hwU hfb hbz hRI
          cases bB
          · go_wp2_with fail
            refine HBe.out.mono ?_
            rintro e w3 ⟨rfl, hb3⟩
            go_wp2_with fail
            go_roundw
            case rel => exact ⟨q + 1, by omega, by go_num, by rw [hsn.out, HFB.out]; exact HJ.out.later hb3⟩
            case measure => simp [intOf]; omega
          · go_wp2_with fail
            refine HBe.out.mono ?_
            rintro e w3 ⟨rfl, hb3⟩
            go_wp2_with fail
            refine (HW2T.out w3 hb3).mono ?_
            rintro e w4 ⟨rfl, hb4⟩
            have hb34 := hb3.trans (hb4.mono hb3.size)
            go_wp2_with fail
            refine (HW2U.out w4 hb34).mono ?_
            rintro e w5 ⟨rfl, hb5⟩
            have hb35 := hb34.trans (hb5.mono hb34.size)
            clear hb3 hb4 hb34 hb5
            cases bz
            · go_wp2_with fail
              go_roundw
              case rel => exact ⟨q + 1, by omega, by go_num, by rw [hsn.out, HFB.out]; exact HJ.out.later hb35⟩
              case measure => simp [intOf]; omega
            · have hJu := HJ.out.later hb35
              obtain ⟨hcr, hfz, hr16⟩ := hJu.at_ hok2.out hT3
              obtain ⟨r, hr⟩ : ∃ r, RI.getD T 0 = r := ⟨_, rfl⟩
              have HSET : Hid (∀ v : Int, v = ((r ||| (1 <<< ((U : Int)).toNat) : Nat) : Int) → VgInv w (some ⟨bo, offo, none⟩) L g (agIn (fB s L T) T (L.take (q + 1)) RO) rest (w5.setCell ⟨g, T, none⟩ (.int .i64 v))) := by
                intro v hv
                rw [hsn.out, HFB.out]
                exact hJu.set hge hNE.out hT3 hok2.out (by rw [hr]; exact hv)
              rw [hr] at hcr hr16
              clear hJu hr hsn HFB hcx2
              have hT4 : (T : Int) < 4 := by omega
              have hT0 : (0 : Int) ≤ (T : Int) := by omega
              have hnw1 := World.new_ne w5 _ hcr
              go_wp2_with fail
              clear hbz2 hand
              rcases (by omega : U = 0 ∨ U = 1 ∨ U = 2 ∨ U = 3) with rfl | rfl | rfl | rfl
              · have hor : bits .or .i64 (r : Int) 1 = ((r ||| 1 : Nat) : Int) := or_nat r 1 (by omega) (by omega)
                go_region
                go_wp2_with fail
                go_roundw
                case rel => exact ⟨q + 1, by omega, by go_num, (HSET.out _ rfl).drew⟩
                case measure => simp [intOf]; omega
              · have hor : bits .or .i64 (r : Int) 2 = ((r ||| 2 : Nat) : Int) := or_nat r 2 (by omega) (by omega)
                go_region
                go_wp2_with fail
                go_roundw
                case rel => exact ⟨q + 1, by omega, by go_num, (HSET.out _ rfl).drew⟩
                case measure => simp [intOf]; omega
              · have hor : bits .or .i64 (r : Int) 4 = ((r ||| 4 : Nat) : Int) := or_nat r 4 (by omega) (by omega)
                go_region
                go_wp2_with fail
                go_roundw
                case rel => exact ⟨q + 1, by omega, by go_num, (HSET.out _ rfl).drew⟩
                case measure => simp [intOf]; omega
              · have hor : bits .or .i64 (r : Int) 8 = ((r ||| 8 : Nat) : Int) := or_nat r 8 (by omega) (by omega)
                go_region
                go_wp2_with fail
                go_roundw
                case rel => exact ⟨q + 1, by omega, by go_num, (HSET.out _ rfl).drew⟩
                case measure => simp [intOf]; omega
        · have hfin : Hid (agIn (fB s L T) T (L.take q) RO = vgOut (fB s L) L (L.take (j + 1)) R0) := by
            show _ = _
            rw [List.take_of_length_le (by omega), hstep.out]
          rw [hfin.out] at hJ
          have HJ := Lib.hid hJ
          clear hJ
          go_wp2_with fail
          go_roundw
          case rel => exact ⟨j + 1, by omega, by go_num, HJ.out⟩
          case measure => simp [intOf]; omega
    · rw [List.take_of_length_le (by omega)] at hI
      have HI := Lib.hid hI
      have hok1 : Hid (Rows4 (vgOut (fB s L) L L R0)) := vgOut_ok HR.out HK0.out
      generalize hR1 : vgOut (fB s L) L L R0 = R1 at *
      have HR1 := Lib.hid hR1
      clear hI hR1
      go_wp2_with fail
      go_loopw [54] (fun i wr => ∃ k : Nat, k ≤ n ∧ i = .int .i64 k ∧ VgInv w LA L g (vgTo (verI s L) L s R1 k) rest wr) (fun i _ => n - (intOf i).toNat)
      case atStart => exact ⟨0, Nat.zero_le _, rfl, HI.out⟩
      case round =>
        clear HI
        obtain ⟨wp, rfl⟩ : ∃ wp : World, wp = wr := ⟨_, rfl⟩
        obtain ⟨k, hk, rfl, hJ⟩ := hrel
        by_cases hltk : k < n
        · obtain ⟨b, off, o, hA, hbl, ho, c0, c1, c2⟩ := (HX.out.below hJ.below (Nat.le_refl _)).at_ hltk
          subst hA
          have hom := List.mem_of_getElem? ho
          have htx := validS_tx3 HV.out hom
          have hit := validS_item HV.out hom
          have hst2 := Lib.hid (vgTo_succ (ver := verI s L) (L := L) (rows := R1) ho)
          have hokK : Hid (Rows4 (vgTo (verI s L) L s R1 k)) := vgTo_ok hok1.out (fun o ho => validS_tx3 HV.out ho) k
          have hvr : verI s L k o = -1 ∨ ∃ V : Nat, V ≤ 3 ∧ verI s L k o = V := verI_rng HR.out htx
          have hVe : ∀ W : World, Below wp.heap.size wp W → Calls Try.prog 91 #[.slice (some ⟨b, off, none⟩) n c, .slice LA L.length lc, .int .i64 (k : Int)] W fun e w' => e = .returned (.int .i64 (verI s L k o)) ∧ Below W.heap.size W w' := fun W hW =>
            versionOf_any _ LA n c lc k s L o W ((HX.out.below hJ.below (Nat.le_refl _)).below hW (Nat.le_refl _)) (hJ.list.below hW (Nat.le_refl _)) ho hnc (validS_items HV.out) hit
          obtain ⟨tx, kd, it⟩ := o
          simp only at hst2 c0 c1 c2 htx
          obtain ⟨T, rfl⟩ := Int.eq_ofNat_of_zero_le htx.1
          have hT3 : T ≤ 3 := by omega
          obtain ⟨bk, hbk⟩ : ∃ bk, (kd != 0) = bk := ⟨_, rfl⟩
          obtain ⟨bc, hbc⟩ : ∃ bc, (L.any fun y => y == (T : Int)) = bc := ⟨_, rfl⟩
          have hkk : (kd == 0) = !bk := by rw [← hbk, bne, Bool.not_not]
          have hCo : ∀ (W : World), Below wp.heap.size wp W → Calls Try.prog 134 #[.slice LA L.length lc, .int .i64 (T : Int)] W fun e w' => e = .returned (.bool bc) ∧ Below W.heap.size W w' := fun W hW => by
            have := ContainsL_any LA L.length lc L T W (hJ.list.below hW (Nat.le_refl _)); rw [hbc] at this; exact this
          have hVG : Hid (∀ V, verI s L k ⟨T, kd, it⟩ = V → vgTo (verI s L) L s R1 (k + 1) = if !bk && bc && decide (0 ≤ V) && (V != (T : Int)) then rowSet (vgTo (verI s L) L s R1 k) V T else vgTo (verI s L) L s R1 k) := by
            intro V hV
            rw [hst2.out]
            unfold vgStep
            simp only
            rw [hV, hkk, hbc]
          have HJ := Lib.hid hJ
          have HCo := Lib.hid hCo
          have HVe := Lib.hid hVe
          generalize hRK : vgTo (verI s L) L s R1 k = RK at *
          have HRK := Lib.hid hRK
          clear hRK hst2 hkk hbc hCo hVe hJ ho hom htx hit
          have hkn : (k : Int) < (n : Int) := by omega
          have hk0 : (0 : Int) ≤ (k : Int) := by omega
          obtain ⟨W, hW⟩ : ∃ W : World, W = wp.alloc (.cells #[.int .i64 (T : Int), .int .i64 kd, .int .i64 it] 46) := ⟨_, rfl⟩
          obtain ⟨L0, L1, L2, hbW, hWs⟩ := op_box hW
          have x0 := L0 ⟨W, Below.refl _ _⟩
          have x1 := L1 ⟨W, Below.refl _ _⟩
          simp only at x0 x1
          cases bk
          · go_wp2_with fail
            rw [← hW]
            clear hW
            go_wp2_with fail
            refine (HCo.out W hbW).mono ?_
            rintro e w3 ⟨rfl, hb3⟩
            have hb03 := hbW.trans (hb3.mono hbW.size)
            have y0 := L0 ⟨w3, hb3⟩
            simp only at y0
            cases bc
            · go_wp2_with fail
              go_roundw
              case rel => exact ⟨k + 1, by omega, by go_num, by rw [hVG.out _ rfl]; exact HJ.out.later hb03⟩
              case measure => simp [intOf]; omega
            · go_wp2_with fail
              refine (HVe.out w3 hb03).mono ?_
              rintro e w4 ⟨rfl, hb4⟩
              have hb04 := hb03.trans (hb4.mono hb03.size)
              have z0 : w4.cell? ⟨wp.heap.size, 0, none⟩ = some (.int .i64 (T : Int)) := (hb4.cell (p := ⟨wp.heap.size, 0, none⟩) (block_lt_of_cell y0)).trans y0
              rcases hvr with hV | ⟨V, hV3, hV⟩
              · have HG := Lib.hid (hVG.out _ hV)
                rw [hV]
                clear hVG
                go_wp2_with fail
                go_roundw
                case rel => exact ⟨k + 1, by omega, by go_num, by rw [HG.out]; exact HJ.out.later hb04⟩
                case measure => simp [intOf]; omega
              · have HG := Lib.hid (hVG.out _ hV)
                rw [hV]
                clear hVG
                obtain ⟨b4, hb4e⟩ : ∃ b4, ((V : Int) != (T : Int)) = b4 := ⟨_, rfl⟩
                rw [hb4e] at HG
                have hV0 : (0 : Int) ≤ (V : Int) := by omega
                have hV4 : (V : Int) < 4 := by omega
                cases b4
                · go_wp2_with fail
                  go_roundw
                  case rel => exact ⟨k + 1, by omega, by go_num, by rw [HG.out, if_neg (by simp)]; exact HJ.out.later hb04⟩
                  case measure => simp [intOf]; omega
                · have hJu := HJ.out.later hb04
                  obtain ⟨hcr, hfz, hr16⟩ := hJu.at_ hokK.out hV3
                  obtain ⟨r, hr⟩ : ∃ r, RK.getD V 0 = r := ⟨_, rfl⟩
                  have HSET : Hid (∀ v : Int, v = ((r ||| (1 <<< ((T : Int)).toNat) : Nat) : Int) → VgInv w LA L g (vgTo (verI s L) L s R1 (k + 1)) rest (w4.setCell ⟨g, V, none⟩ (.int .i64 v))) := by
                    intro v hv
                    rw [HG.out, if_pos (by simp)]
                    exact hJu.set hge hNE.out hV3 hokK.out (by rw [hr]; exact hv)
                  rw [hr] at hcr hr16
                  clear hJu hr HG HCo HVe
                  have hnw1 := World.new_ne w4 _ hcr
                  rcases (by omega : T = 0 ∨ T = 1 ∨ T = 2 ∨ T = 3) with rfl | rfl | rfl | rfl
                  · have hor : bits .or .i64 (r : Int) 1 = ((r ||| 1 : Nat) : Int) := or_nat r 1 (by omega) (by omega)
                    go_wp2_with fail
                    go_region
                    go_wp2_with fail
                    go_roundw
                    case rel => exact ⟨k + 1, by omega, by go_num, (HSET.out _ rfl).drew⟩
                    case measure => simp [intOf]; omega
                  · have hor : bits .or .i64 (r : Int) 2 = ((r ||| 2 : Nat) : Int) := or_nat r 2 (by omega) (by omega)
                    go_wp2_with fail
                    go_region
                    go_wp2_with fail
                    go_roundw
                    case rel => exact ⟨k + 1, by omega, by go_num, (HSET.out _ rfl).drew⟩
                    case measure => simp [intOf]; omega
                  · have hor : bits .or .i64 (r : Int) 4 = ((r ||| 4 : Nat) : Int) := or_nat r 4 (by omega) (by omega)
                    go_wp2_with fail
                    go_region
                    go_wp2_with fail
                    go_roundw
                    case rel => exact ⟨k + 1, by omega, by go_num, (HSET.out _ rfl).drew⟩
                    case measure => simp [intOf]; omega
                  · have hor : bits .or .i64 (r : Int) 8 = ((r ||| 8 : Nat) : Int) := or_nat r 8 (by omega) (by omega)
                    go_wp2_with fail
                    go_region
                    go_wp2_with fail
                    go_roundw
                    case rel => exact ⟨k + 1, by omega, by go_num, (HSET.out _ rfl).drew⟩
                    case measure => simp [intOf]; omega
          · go_wp2_with fail
            rw [← hW]
            clear hW
            go_wp2_with fail
            go_roundw
            case rel => exact ⟨k + 1, by omega, by go_num, by rw [hVG.out _ rfl]; exact HJ.out.later hbW⟩
            case measure => simp [intOf]; omega
        · have hfin : Hid (vgTo (verI s L) L s R1 k = vgI s) := by
            show _ = _
            rw [hgood.out]
            have : k = s.length := by omega
            rw [this]
          rw [hfin.out] at hJ
          have hok : Rows4 (vgI s) := by rw [← hfin.out]; exact vgTo_ok hok1.out (fun o ho => validS_tx3 HV.out ho) k
          have hlen : (rowsI (vgI s)).length = 4 := by simp [rowsI, hok.1]
          have HO : Hid (RetInts w (rowsI (vgI s)) (.returned (.slice (some ⟨g, 0, none⟩) 4 gc)) wp) := by
            refine RetInts.mk hlen (by first | exact hgc | (rw [hlen]; exact hgc)) ⟨RowIs.ints hJ.row hlen (by omega), fun ad had => ?_⟩ hJ.below
            injection had with had
            subst had
            exact ⟨_, _, rfl, hge, hJ.row, by simp [intCells, hlen]⟩
          clear hJ
          go_wp2_with fail
          go_ret
          exact HO.out
end Go.Proofs.Ytofcpfabjfhjoaa
namespace Go.Proofs.Ytofcpfabjfhjoaa
open Go.RowKit Go.BigFrame
set_option linter.unusedVariables false

theorem agIn_span {f : Int → Bool} {t : Int} {L : List Int} {rows : List Nat} {i k : Nat} {u : Int} (h : L[k]? = some u) (hik : i ≤ k) : agIn f t ((L.take (k + 1)).drop i) rows = if f u then rowSet (agIn f t ((L.take k).drop i) rows) t u else agIn f t ((L.take k).drop i) rows := by
  have hk : k < L.length := (List.getElem?_eq_some_iff.1 h).1
  rw [take_snoc h, List.drop_append_of_le_length (by rw [List.length_take]; omega)]
  unfold agIn
  rw [List.foldl_append]; rfl
theorem verS_rng {s : List OpV} {L : List Int} (hl : ∀ u ∈ L, 0 ≤ u ∧ u ≤ 3) {k : Nat} {o : OpV} (ho : 0 ≤ o.tx ∧ o.tx ≤ 3) : verS s L k o = -1 ∨ ∃ V : Nat, V ≤ 3 ∧ verS s L k o = V := by
  have hz : ∀ z : Int, 0 ≤ z ∧ z ≤ 3 → ∃ V : Nat, V ≤ 3 ∧ z = V := fun z hz => by
    obtain ⟨V, rfl⟩ := Int.eq_ofNat_of_zero_le hz.1
    exact ⟨V, by omega, rfl⟩
  unfold verS
  split
  · exact .inr (hz _ ho)
  · have : ∀ z : Int, (L.foldl (fun v u => if pS s o u then u else v) z = z) ∨ L.foldl (fun v u => if pS s o u then u else v) z ∈ L := by
      intro z
      clear hl
      induction L generalizing z with
      | nil => exact .inl rfl
      | cons x r ih =>
        rw [List.foldl_cons]
        rcases ih (if pS s o x then x else z) with h | h
        · rw [h]
          split
          · exact .inr (by simp)
          · exact .inl rfl
        · exact .inr (List.mem_cons_of_mem _ h)
    rcases this (-1) with h | h
    · exact .inl h
    · exact .inr (hz _ (hl _ h))

set_option maxRecDepth 100000 in
set_option maxHeartbeats 4000000 in
theorem sversionGraph_any (A : Option Addr) (n c : Nat) (s : List OpV) (w : World) (hx : ROps w A n s) (hv : validS s = true) :
    Calls Try.prog 87 #[.slice A n c] w (RetInts w (rowsI (vgS s))) := by
  have hn := hx.2.1
  have hl := hx.1
  have HV := Lib.hid hv
  have HX := Lib.hid hx
  clear hx hv
  have hok0 : Rows4 (agS4 s) := by unfold agS4; exact agTo_ok (survS_rng HV.out) _
  have hlen0 : (rowsI (agS4 s)).length = 4 := by simp [rowsI, hok0.1]
  go_enter Try.func87, Try.ntmps87
  go_wp2_with fail
  refine (against_any A n c s w HX.out HV.out).mono ?_
  rintro e w1 ⟨GA, gc, rfl, hgc, hfG, hb1⟩
  rw [hlen0] at hfG hgc
  rw [hlen0]
  obtain ⟨g, rest, hGA, hge, hrow⟩ := hfG.row (by omega)
  subst hGA
  have hlt1 := hrow.lt
  go_wp2_with fail
  refine (survivors_any A n c s w1 (HX.out.below hb1 (Nat.le_refl _))).mono ?_
  rintro e w2 ⟨LA, lc, rfl, hlc, hfL, hb2⟩
  have hNE : Hid (∀ ad, LA = some ad → g ≠ ad.block) := by
    intro ad had
    have := (hfL.2 ad had)
    obtain ⟨b, cur, rfl, hge', _⟩ := this
    simp only; omega
  have hbw2 := hb1.trans (hb2.mono hb1.size)
  have HI0 : Hid (VgInv w LA (survS s) g (agS4 s) rest w2) := ⟨hbw2, hrow.below hb2 (Nat.le_refl _), hfL.1⟩
  have HR : Hid (∀ u ∈ survS s, 0 ≤ u ∧ u ≤ 3) := survS_rng HV.out
  have hgood : Hid (vgS s = vgTo (verS s (survS s)) (survS s) s (vsOut (meetsB s) (survS s) (agS4 s) (survS s).length) s.length) := rfl
  have hlenL := hfL.1.2.1
  generalize survS s = L at *
  generalize hR0 : agS4 s = R0 at *
  have HK0 := Lib.hid hok0
  clear hfG hrow hfL hb1 hb2 hbw2 hok0 hR0 hlen0
  go_wp2_with fail
  go_loopw [5] (fun i wr => ∃ j : Nat, j ≤ L.length ∧ i = .int .i64 j ∧ VgInv w LA L g (vsOut (meetsB s) L R0 j) rest wr) (fun i _ => L.length - (intOf i).toNat)
  case atStart => exact ⟨0, Nat.zero_le _, rfl, HI0.out⟩
  case round =>
    clear HI0
    obtain ⟨wo, rfl⟩ : ∃ wo : World, wo = wr := ⟨_, rfl⟩
    obtain ⟨j, hj, rfl, hI⟩ := hrel
    by_cases hlt : j < L.length
    · obtain ⟨bo, offo, x, hA, hbo, hxx, hcx⟩ := hI.list.at_ hlt
      subst hA
      have hxr := HR.out x (List.mem_of_getElem? hxx)
      obtain ⟨T, rfl⟩ := Int.eq_ofNat_of_zero_le hxr.1
      have hT3 : T ≤ 3 := by omega
      have hstep := Lib.hid (vsOut_succ (m := meetsB s) (L := L) (rows := R0) hxx)
      have hokO : Hid (Rows4 (vsOut (meetsB s) L R0 j)) := vsOut_ok HR.out HK0.out j
      generalize hRO : vsOut (meetsB s) L R0 j = RO at *
      have hI' : VgInv w (some ⟨bo, offo, none⟩) L g (agIn (meetsB s T) T ((L.take (j + 1)).drop (j + 1)) RO) rest wo := by
        have e : (L.take (j + 1)).drop (j + 1) = [] := by
          apply List.drop_eq_nil_of_le
          rw [List.length_take]; omega
        rw [e]; exact hI
      have HI := Lib.hid hI'
      have HRO := Lib.hid hRO
      have HXX := Lib.hid hxx
      clear hI hI' hRO hxx hcx
      have hji : (j : Int) < (L.length : Int) := by omega
      have hj0 : (0 : Int) ≤ (j : Int) := by omega
      go_wp2_with fail
      go_loopw [6] (fun i wr => ∃ q : Nat, j + 1 ≤ q ∧ q ≤ L.length ∧ i = .int .i64 q ∧ VgInv w (some ⟨bo, offo, none⟩) L g (agIn (meetsB s T) T ((L.take q).drop (j + 1)) RO) rest wr) (fun i _ => L.length - (intOf i).toNat)
      case atStart => exact ⟨j + 1, Nat.le_refl _, by omega, by go_num, HI.out⟩
      case round =>
        clear HI
        obtain ⟨wi, rfl⟩ : ∃ wi : World, wi = wr := ⟨_, rfl⟩
        obtain ⟨q, hjq, hq, rfl, hJ⟩ := hrel
        by_cases hlt2 : q < L.length
        · obtain ⟨bo2, offo2, x2, hA2, _, hxx2, hcx2⟩ := hJ.list.at_ hlt2
          injection hA2 with hA2
          injection hA2 with e1 e2 _
          subst e1; subst e2
          obtain ⟨bo3, offo3, x3, hA3, _, hxx3, hcx⟩ := hJ.list.at_ hlt
          injection hA3 with hA3
          injection hA3 with e1 e2 _
          subst e1; subst e2
          rw [HXX.out] at hxx3
          injection hxx3 with hxx3
          subst hxx3
          have hxr2 := HR.out x2 (List.mem_of_getElem? hxx2)
          obtain ⟨U, rfl⟩ := Int.eq_ofNat_of_zero_le hxr2.1
          have hU3 : U ≤ 3 := by omega
          have hsn := Lib.hid (agIn_span (f := meetsB s T) (t := T) (rows := RO) hxx2 hjq)
          have hok2 : Hid (Rows4 (agIn (meetsB s T) T ((L.take q).drop (j + 1)) RO)) := agIn_ok (fun u hu => HR.out u (List.mem_of_mem_take (List.mem_of_mem_drop hu))) hokO.out
          generalize hRI : agIn (meetsB s T) T ((L.take q).drop (j + 1)) RO = RI at *
          have HJ := Lib.hid hJ
          obtain ⟨bm, hbm⟩ : ∃ b, meetsB s T U = b := ⟨_, rfl⟩
          have hM : ∀ v : Later wi, Calls Try.prog 124 #[.slice A n c, .int .i64 (T : Int), .int .i64 (U : Int)] v.1 fun e w' => e = .returned (.bool bm) ∧ Below v.1.heap.size v.1 w' := fun v => by
            have := meets_any A n c s T U v.1 ((HX.out.below hJ.below (Nat.le_refl _)).later v); rw [hbm] at this; exact this
          have HM := Lib.hid hM
          rw [hbm] at hsn
          have N0 := Later.cell hcx
          have N1 := Later.cell hcx2
          have hqi : (q : Int) < (L.length : Int) := by omega
          have hq0 : (0 : Int) ≤ (q : Int) := by omega
          clear hJ hxx2 hM hbm hRI
          go_wp2_with fail
          refine region_later (by kernel_rfl) (by kernel_rfl) ?_
          repeat (go_big_quiet_step ((go_at_call 124; exact later_call _ (HM.out _))))
          refine wpQuiet_nil ?_
          rintro _ ⟨u, rfl⟩
          cases bm
          · go_wp2_with fail
            go_roundw
            case rel => exact ⟨q + 1, by omega, by omega, by go_num, by rw [hsn.out]; exact HJ.out.later u.2⟩
            case measure => simp [intOf]; omega
          · have hJu := HJ.out.later u.2
            obtain ⟨hcr, hfz, hr16⟩ := hJu.at_ hok2.out hT3
            have n0 := N0 u
            have n1 := N1 u
            obtain ⟨uj, huj⟩ : ∃ uj : World, u.1 = uj := ⟨_, rfl⟩
            rw [huj] at hJu hcr hfz n0 n1
            rw [huj]
            obtain ⟨r, hr⟩ : ∃ r, RI.getD T 0 = r := ⟨_, rfl⟩
            have HSET : Hid (∀ v : Int, v = ((r ||| 2 ^ U : Nat) : Int) → VgInv w (some ⟨bo, offo, none⟩) L g (agIn (meetsB s T) T ((L.take (q + 1)).drop (j + 1)) RO) rest (uj.setCell ⟨g, T, none⟩ (.int .i64 v))) := by
              intro v hv
              rw [hsn.out, if_pos rfl]
              exact hJu.set hge hNE.out hT3 hok2.out (by rw [hr, hv, Int.toNat_natCast, Nat.one_shiftLeft])
            rw [hr] at hcr hr16
            have hP2 : (2 ^ U : Nat) < 16 := by
              rcases (by omega : U = 0 ∨ U = 1 ∨ U = 2 ∨ U = 3) with e | e | e | e <;> rw [e] <;> decide
            have hor := or_nat r (2 ^ U) (by omega) (by omega)
            have hPW : ∀ W : World, Calls Try.prog 133 #[.int .i64 (U : Int)] W fun e w' => e = .returned (.int .i64 ((2 ^ U : Nat) : Int)) ∧ w' = W := fun W => (spower_any U W (by omega)).mono fun e w' h => ⟨h.1, h.2.symm⟩
            generalize hPP : 2 ^ U = p2 at *
            have HPW := Lib.hid hPW
            have hT4 : (T : Int) < 4 := by omega
            have hT0 : (0 : Int) ≤ (T : Int) := by omega
            obtain ⟨wd, hwd⟩ : ∃ wd : World, wd = uj.drew := ⟨_, rfl⟩
            have hcr2 : wd.cell? ⟨g, T, none⟩ = some (.int .i64 (r : Int)) := by rw [hwd]; exact hcr
            have hfz2 : wd.frozen? ⟨g, T, none⟩ = false := by rw [hwd]; exact hfz
            have HSET2 : Hid (∀ v : Int, v = ((r ||| p2 : Nat) : Int) → VgInv w (some ⟨bo, offo, none⟩) L g (agIn (meetsB s T) T ((L.take (q + 1)).drop (j + 1)) RO) rest (wd.setCell ⟨g, T, none⟩ (.int .i64 v))) := by
              intro v hv
              rw [hwd]
              exact (HSET.out v hv).drew
            clear hJu hr huj HM N0 N1 hsn hPP hPW hP2 hcx hcx2
            have hnw2 := World.new_ne wd _ hcr2
            go_wp2_with fail
            refine wp_region_still_tail 19 (by kernel_rfl) (by kernel_rfl) ?_
            simp only [List.take_succ_cons, List.take_zero, List.drop_succ_cons, List.drop_zero]
            repeat (first | still_step | still_call (HPW.out _))
            refine wpStill_nil ?_
            change wpList _ _ _ _ _ uj.drew
            rw [← hwd]
            go_wp2_with fail
            go_roundw
            case rel => exact ⟨q + 1, by omega, by omega, by go_num, by first | exact HSET2.out _ rfl | exact (HSET.out _ rfl).drew⟩
            case measure => simp [intOf]; omega
        · have hfin : Hid (agIn (meetsB s T) T ((L.take q).drop (j + 1)) RO = vsOut (meetsB s) L R0 (j + 1)) := by
            show _ = _
            rw [List.take_of_length_le (by omega), hstep.out]
          rw [hfin.out] at hJ
          have HJ := Lib.hid hJ
          clear hJ
          go_wp2_with fail
          go_roundw
          case rel => exact ⟨j + 1, by omega, by go_num, HJ.out⟩
          case measure => simp [intOf]; omega
    · have ej : j = L.length := by omega
      rw [ej] at hI
      have HI := Lib.hid hI
      have hok1 : Hid (Rows4 (vsOut (meetsB s) L R0 L.length)) := vsOut_ok HR.out HK0.out _
      generalize hR1 : vsOut (meetsB s) L R0 L.length = R1 at *
      have HR1 := Lib.hid hR1
      clear hI hR1 ej
      go_wp2_with fail
      go_loopw [7] (fun i wr => ∃ k : Nat, k ≤ n ∧ i = .int .i64 k ∧ VgInv w LA L g (vgTo (verS s L) L s R1 k) rest wr) (fun i _ => n - (intOf i).toNat)
      case atStart => exact ⟨0, Nat.zero_le _, rfl, HI.out⟩
      case round =>
        clear HI
        obtain ⟨wp, rfl⟩ : ∃ wp : World, wp = wr := ⟨_, rfl⟩
        obtain ⟨k, hk, rfl, hJ⟩ := hrel
        by_cases hltk : k < n
        · obtain ⟨b, off, o, hA, hbl, ho, c0, c1, c2⟩ := (HX.out.below hJ.below (Nat.le_refl _)).at_ hltk
          subst hA
          have hom := List.mem_of_getElem? ho
          have htx := validS_tx3 HV.out hom
          have hst2 := Lib.hid (vgTo_succ (ver := verS s L) (L := L) (rows := R1) ho)
          have hokK : Hid (Rows4 (vgTo (verS s L) L s R1 k)) := vgTo_ok hok1.out (fun o ho => validS_tx3 HV.out ho) k
          have hvr : verS s L k o = -1 ∨ ∃ V : Nat, V ≤ 3 ∧ verS s L k o = V := verS_rng HR.out htx
          have hVe : ∀ W : World, Below wp.heap.size wp W → Calls Try.prog 92 #[.slice (some ⟨b, off, none⟩) n c, .slice LA L.length lc, .int .i64 (k : Int)] W fun e w' => e = .returned (.int .i64 (verS s L k o)) ∧ Below W.heap.size W w' := fun W hW =>
            versionAt_any _ LA n c lc k s L o W ((HX.out.below hJ.below (Nat.le_refl _)).below hW (Nat.le_refl _)) (hJ.list.below hW (Nat.le_refl _)) ho
          obtain ⟨tx, kd, it⟩ := o
          simp only at hst2 c0 c1 c2 htx
          obtain ⟨T, rfl⟩ := Int.eq_ofNat_of_zero_le htx.1
          have hT3 : T ≤ 3 := by omega
          obtain ⟨bk, hkk⟩ : ∃ bk, (kd == 0) = bk := ⟨_, rfl⟩
          obtain ⟨bc, hbc⟩ : ∃ bc, (L.any fun y => y == (T : Int)) = bc := ⟨_, rfl⟩
          have hCo : ∀ (W : World), Below wp.heap.size wp W → Calls Try.prog 94 #[.slice LA L.length lc, .int .i64 (T : Int)] W fun e w' => e = .returned (.bool bc) ∧ Below W.heap.size W w' := fun W hW => by
            have := hasInt_any LA L.length lc L T W (hJ.list.below hW (Nat.le_refl _)); rw [hbc] at this; exact this
          have hVG : Hid (∀ V, verS s L k ⟨T, kd, it⟩ = V → vgTo (verS s L) L s R1 (k + 1) = if bk && bc && decide (0 ≤ V) && (V != (T : Int)) then rowSet (vgTo (verS s L) L s R1 k) V T else vgTo (verS s L) L s R1 k) := by
            intro V hV
            rw [hst2.out]
            unfold vgStep
            simp only
            rw [hV, hkk, hbc]
          have HJ := Lib.hid hJ
          have HCo := Lib.hid hCo
          have HVe := Lib.hid hVe
          generalize hRK : vgTo (verS s L) L s R1 k = RK at *
          have HRK := Lib.hid hRK
          clear hRK hst2 hbc hCo hVe hJ ho hom htx
          have hkn : (k : Int) < (n : Int) := by omega
          have hk0 : (0 : Int) ≤ (k : Int) := by omega
          have L0 := Later.cell c0
          have L1 := Later.cell c1
          cases bk
          · have hkk' : ¬ kd = 0 := by simpa using hkk
            go_wp2_with fail
            go_roundw
            case rel => exact ⟨k + 1, by omega, by go_num, by rw [hVG.out _ rfl]; exact HJ.out⟩
            case measure => simp [intOf]; omega
          · have hkk' : kd = 0 := by simpa using hkk
            subst hkk'
            go_wp2_with fail
            refine (HCo.out wp (Below.refl _ _)).mono ?_
            rintro e w3 ⟨rfl, hb03⟩
            have y0 := L0 ⟨w3, hb03⟩
            simp only at y0
            cases bc
            · go_wp2_with fail
              go_roundw
              case rel => exact ⟨k + 1, by omega, by go_num, by rw [hVG.out _ rfl]; exact HJ.out.later hb03⟩
              case measure => simp [intOf]; omega
            · go_wp2_with fail
              refine (HVe.out w3 hb03).mono ?_
              rintro e w4 ⟨rfl, hb4⟩
              have hb04 := hb03.trans (hb4.mono hb03.size)
              have z0 := L0 ⟨w4, hb04⟩
              simp only at z0
              rcases hvr with hV | ⟨V, hV3, hV⟩
              · have HG := Lib.hid (hVG.out _ hV)
                rw [hV]
                clear hVG
                go_wp2_with fail
                go_roundw
                case rel => exact ⟨k + 1, by omega, by go_num, by rw [HG.out]; exact HJ.out.later hb04⟩
                case measure => simp [intOf]; omega
              · have HG := Lib.hid (hVG.out _ hV)
                rw [hV]
                clear hVG
                obtain ⟨b4, hb4e⟩ : ∃ b4, ((V : Int) != (T : Int)) = b4 := ⟨_, rfl⟩
                rw [hb4e] at HG
                have hV0 : (0 : Int) ≤ (V : Int) := by omega
                have hV4 : (V : Int) < 4 := by omega
                cases b4
                · go_wp2_with fail
                  go_roundw
                  case rel => exact ⟨k + 1, by omega, by go_num, by rw [HG.out, if_neg (by simp)]; exact HJ.out.later hb04⟩
                  case measure => simp [intOf]; omega
                · have hJu := HJ.out.later hb04
                  obtain ⟨hcr, hfz, hr16⟩ := hJu.at_ hokK.out hV3
                  obtain ⟨r, hr⟩ : ∃ r, RK.getD V 0 = r := ⟨_, rfl⟩
                  have HSET : Hid (∀ v : Int, v = ((r ||| 2 ^ T : Nat) : Int) → VgInv w LA L g (vgTo (verS s L) L s R1 (k + 1)) rest (w4.setCell ⟨g, V, none⟩ (.int .i64 v))) := by
                    intro v hv
                    rw [HG.out, if_pos (by simp)]
                    exact hJu.set hge hNE.out hV3 hokK.out (by rw [hr, hv, Int.toNat_natCast, Nat.one_shiftLeft])
                  rw [hr] at hcr hr16
                  have hP2 : (2 ^ T : Nat) < 16 := by
                    rcases (by omega : T = 0 ∨ T = 1 ∨ T = 2 ∨ T = 3) with e | e | e | e <;> rw [e] <;> decide
                  have hor := or_nat r (2 ^ T) (by omega) (by omega)
                  have hPW : ∀ W : World, Calls Try.prog 133 #[.int .i64 (T : Int)] W fun e w' => e = .returned (.int .i64 ((2 ^ T : Nat) : Int)) ∧ w' = W := fun W => (spower_any T W (by omega)).mono fun e w' h => ⟨h.1, h.2.symm⟩
                  generalize hPP : 2 ^ T = p2 at *
                  have HPW := Lib.hid hPW
                  obtain ⟨wd, hwd⟩ : ∃ wd : World, wd = w4.drew := ⟨_, rfl⟩
                  have hcr2 : wd.cell? ⟨g, V, none⟩ = some (.int .i64 (r : Int)) := by rw [hwd]; exact hcr
                  have hfz2 : wd.frozen? ⟨g, V, none⟩ = false := by rw [hwd]; exact hfz
                  have HSET2 : Hid (∀ v : Int, v = ((r ||| p2 : Nat) : Int) → VgInv w LA L g (vgTo (verS s L) L s R1 (k + 1)) rest (wd.setCell ⟨g, V, none⟩ (.int .i64 v))) := by
                    intro v hv
                    rw [hwd]
                    exact (HSET.out v hv).drew
                  clear hJu hr HG HCo HVe hPP hPW hP2 c0 c1 c2 L0 L1
                  have hnw2 := World.new_ne wd _ hcr2
                  go_wp2_with fail
                  refine wp_region_still_tail 14 (by kernel_rfl) (by kernel_rfl) ?_
                  simp only [List.take_succ_cons, List.take_zero, List.drop_succ_cons, List.drop_zero]
                  repeat (first | still_step | still_call (HPW.out _))
                  refine wpStill_nil ?_
                  change wpList _ _ _ _ _ w4.drew
                  rw [← hwd]
                  go_wp2_with fail
                  go_roundw
                  case rel => exact ⟨k + 1, by omega, by go_num, by first | exact HSET2.out _ rfl | exact (HSET.out _ rfl).drew⟩
                  case measure => simp [intOf]; omega
        · have hfin : Hid (vgTo (verS s L) L s R1 k = vgS s) := by
            show _ = _
            rw [hgood.out]
            have : k = s.length := by omega
            rw [this]
          rw [hfin.out] at hJ
          have hok : Rows4 (vgS s) := by rw [← hfin.out]; exact vgTo_ok hok1.out (fun o ho => validS_tx3 HV.out ho) k
          have hlen : (rowsI (vgS s)).length = 4 := by simp [rowsI, hok.1]
          have HO : Hid (RetInts w (rowsI (vgS s)) (.returned (.slice (some ⟨g, 0, none⟩) 4 gc)) wp) := by
            refine RetInts.mk hlen (by first | exact hgc | (rw [hlen]; exact hgc)) ⟨RowIs.ints hJ.row hlen (by omega), fun ad had => ?_⟩ hJ.below
            injection had with had
            subst had
            exact ⟨_, _, rfl, hge, hJ.row, by simp [intCells, hlen]⟩
          clear hJ
          go_wp2_with fail
          go_ret
          exact HO.out
end Go.Proofs.Ytofcpfabjfhjoaa
namespace Go.Proofs.Ytofcpfabjfhjoaa
open Go.RowKit Go.BigFrame
set_option linter.unusedVariables false


set_option maxHeartbeats 400000 in
theorem VersionGraph_any (A : Option Addr) (n c : Nat) (s : List OpV) (w : World) (hx : ROps w A n s) (hnc : n ≤ c) :
    Calls Try.prog 35 #[.slice A n c] w (RetInts w (orNil (validS s) (rowsI (vgI s)))) := by
  have HX := Lib.hid hx
  clear hx
  go_enter Try.func35, Try.ntmps35
  go_wp2_with fail
  refine (ValidSchedule_any A n c s w HX.out hnc).mono ?_
  rintro e w1 ⟨rfl, hb⟩
  cases hv : validS s
  · have HV := Lib.hid hv
    clear hv
    go_wp2_with fail
    go_ret
    rw [HV.out]
    exact RetInts.nil hb
  · have HV := Lib.hid hv
    clear hv
    go_wp2_with fail
    refine (versionGraph_any A n c s w1 (HX.out.below hb (Nat.le_refl _)) hnc HV.out).mono ?_
    rintro e w2 hr
    obtain ⟨A', c', rfl, hr'⟩ := hr
    have HR : Hid (RetInts w1 (rowsI (vgI s)) (.returned (.slice A' ((rowsI (vgI s))).length c')) w2) := ⟨A', c', rfl, hr'⟩
    clear hr'
    go_wp2_with fail
    go_ret
    rw [HV.out]
    exact RetInts.later hb HR.out


set_option maxHeartbeats 400000 in
theorem sVersionGraph_any (A : Option Addr) (n c : Nat) (s : List OpV) (w : World) (hx : ROps w A n s) (hnc : n ≤ c) :
    Calls Try.prog 34 #[.slice A n c] w (RetInts w (orNil (validS s) (rowsI (vgS s)))) := by
  have HX := Lib.hid hx
  clear hx
  go_enter Try.func34, Try.ntmps34
  go_wp2_with fail
  refine (svalid'_any A n c s w HX.out hnc).mono ?_
  rintro e w1 ⟨rfl, hb⟩
  cases hv : validS s
  · have HV := Lib.hid hv
    clear hv
    go_wp2_with fail
    go_ret
    rw [HV.out]
    exact RetInts.nil hb
  · have HV := Lib.hid hv
    clear hv
    go_wp2_with fail
    refine (sversionGraph_any A n c s w1 (HX.out.below hb (Nat.le_refl _)) HV.out).mono ?_
    rintro e w2 hr
    obtain ⟨A', c', rfl, hr'⟩ := hr
    have HR : Hid (RetInts w1 (rowsI (vgS s)) (.returned (.slice A' ((rowsI (vgS s))).length c')) w2) := ⟨A', c', rfl, hr'⟩
    clear hr'
    go_wp2_with fail
    go_ret
    rw [HV.out]
    exact RetInts.later hb HR.out

end Go.Proofs.Ytofcpfabjfhjoaa
namespace Go.Proofs.Ytofcpfabjfhjoaa
open Go.RowKit
set_option linter.unusedVariables false

theorem vgTo_bit {ver : Nat → OpV → Int} {L : List Int} {s : List OpV} {rows : List Nat} (h4 : Rows4 rows) (hs : ∀ o ∈ s, 0 ≤ o.tx ∧ o.tx ≤ 3) (hv : ∀ k o, s[k]? = some o → ver k o ≤ 3) {t u : Nat} (k : Nat) :
    ((vgTo ver L s rows k).getD t 0).testBit u = true ↔ (rows.getD t 0).testBit u = true ∨ ∃ j o, j < k ∧ s[j]? = some o ∧ o.kind = 0 ∧ o.tx ∈ L ∧ ver j o = t ∧ o.tx = u ∧ t ≠ u := by
  induction k with
  | zero =>
    constructor
    · intro h; exact .inl h
    · rintro (h | ⟨j, o, hj, _⟩)
      · exact h
      · omega
  | succ k ih =>
    cases he : s[k]? with
    | none =>
      have : vgTo ver L s rows (k + 1) = vgTo ver L s rows k := by simp only [vgTo, he]
      rw [this, ih]
      constructor
      · rintro (h | ⟨j, o, hj, r⟩)
        · exact .inl h
        · exact .inr ⟨j, o, by omega, r⟩
      · rintro (h | ⟨j, o, hj, ho, r⟩)
        · exact .inl h
        · refine .inr ⟨j, o, ?_, ho, r⟩
          rcases Nat.lt_or_ge j k with h | h
          · exact h
          · have : j = k := by omega
            subst this
            rw [he] at ho; cases ho
    | some o =>
      rw [vgTo_succ he]
      have ho := hs o (List.mem_of_getElem? he)
      have hvk := hv k o he
      obtain ⟨U, hU⟩ := Int.eq_ofNat_of_zero_le ho.1
      unfold vgStep
      by_cases hc : (o.kind == 0 && (L.any fun y => y == o.tx) && decide (0 ≤ ver k o) && (ver k o != o.tx)) = true
      · rw [if_pos hc]
        simp only [Bool.and_eq_true, decide_eq_true_eq, beq_iff_eq, bne_iff_ne] at hc
        obtain ⟨⟨⟨c1, c2⟩, c3⟩, c4⟩ := hc
        obtain ⟨T, hT⟩ := Int.eq_ofNat_of_zero_le c3
        rw [hT, hU]
        have hT3 : T ≤ 3 := by omega
        rw [rowSet_bit (vgTo_ok h4 hs k) hT3, Bool.or_eq_true, ih, Bool.and_eq_true, decide_eq_true_eq, decide_eq_true_eq]
        constructor
        · rintro ((h | ⟨j, q, hj, r⟩) | ⟨rfl, rfl⟩)
          · exact .inl h
          · exact .inr ⟨j, q, by omega, r⟩
          · exact .inr ⟨k, o, by omega, he, c1, any_eq_iff.1 c2, hT, hU, fun e => c4 (by rw [hT, hU, e])⟩
        · rintro (h | ⟨j, q, hj, hq, r1, r2, r3, r4, r5⟩)
          · exact .inl (.inl h)
          · by_cases hjk : j = k
            · subst hjk
              rw [he] at hq; injection hq with hq; subst hq
              right
              exact ⟨by omega, by omega⟩
            · exact .inl (.inr ⟨j, q, by omega, hq, r1, r2, r3, r4, r5⟩)
      · rw [if_neg hc, ih]
        constructor
        · rintro (h | ⟨j, q, hj, r⟩)
          · exact .inl h
          · exact .inr ⟨j, q, by omega, r⟩
        · rintro (h | ⟨j, q, hj, hq, r1, r2, r3, r4, r5⟩)
          · exact .inl h
          · by_cases hjk : j = k
            · subst hjk
              rw [he] at hq; injection hq with hq; subst hq
              exfalso
              apply hc
              simp only [Bool.and_eq_true, decide_eq_true_eq, beq_iff_eq, bne_iff_ne]
              exact ⟨⟨⟨r1, any_eq_iff.2 r2⟩, by omega⟩, by omega⟩
            · exact .inr ⟨j, q, by omega, hq, r1, r2, r3, r4, r5⟩
theorem vsOut_bit {m : Int → Int → Bool} {L : List Int} {rows : List Nat} (h4 : Rows4 rows) (hl : ∀ u ∈ L, 0 ≤ u ∧ u ≤ 3) {t u : Nat} (i : Nat) :
    ((vsOut m L rows i).getD t 0).testBit u = true ↔ (rows.getD t 0).testBit u = true ∨ ∃ j, j < i ∧ L[j]? = some (t : Int) ∧ (u : Int) ∈ L.drop (j + 1) ∧ m t u = true := by
  induction i with
  | zero =>
    constructor
    · intro h; exact .inl h
    · rintro (h | ⟨j, hj, _⟩)
      · exact h
      · omega
  | succ i ih =>
    cases he : L[i]? with
    | none =>
      have : vsOut m L rows (i + 1) = vsOut m L rows i := by simp only [vsOut, he]
      rw [this, ih]
      constructor
      · rintro (h | ⟨j, hj, r⟩)
        · exact .inl h
        · exact .inr ⟨j, by omega, r⟩
      · rintro (h | ⟨j, hj, ho, r⟩)
        · exact .inl h
        · refine .inr ⟨j, ?_, ho, r⟩
          rcases Nat.lt_or_ge j i with h | h
          · exact h
          · have : j = i := by omega
            subst this
            rw [he] at ho; cases ho
    | some x =>
      have hx := hl x (List.mem_of_getElem? he)
      obtain ⟨T, rfl⟩ := Int.eq_ofNat_of_zero_le hx.1
      rw [vsOut_succ he, agIn_bit (by omega) (fun y hy => hl y (List.mem_of_mem_drop hy)) (vsOut_ok hl h4 i), Bool.or_eq_true, ih, Bool.and_eq_true, List.any_eq_true]
      constructor
      · rintro ((h | ⟨j, hj, r⟩) | ⟨h1, y, hy, h2⟩)
        · exact .inl h
        · exact .inr ⟨j, by omega, r⟩
        · simp only [Bool.and_eq_true, beq_iff_eq] at h2
          obtain ⟨rfl, h2⟩ := h2
          have : t = T := of_decide_eq_true h1
          subst this
          exact .inr ⟨i, by omega, he, hy, h2⟩
      · rintro (h | ⟨j, hj, hq, r1, r2⟩)
        · exact .inl (.inl h)
        · by_cases hji : j = i
          · subst hji
            rw [he] at hq
            injection hq with hq
            have : T = t := by omega
            subst this
            exact .inr ⟨by simp, _, r1, by simp [r2]⟩
          · exact .inl (.inr ⟨j, by omega, hq, r1, r2⟩)

theorem sTo_sorted {s : List OpV} (h : validS s = true) (k : Nat) (hk : k ≤ s.length) : (sTo s k).Pairwise (fun a b => commitN s a < commitN s b) := by
  induction k with
  | zero => simp [sTo]
  | succ k ih =>
    have e : s[k]? = some (s[k]'(by omega)) := List.getElem?_eq_getElem (by omega)
    rw [sTo_succ e]
    generalize s[k]'(by omega) = o at *
    have hi := ih (by omega)
    unfold sStep
    split
    · rename_i hc
      simp only [Bool.and_eq_true, beq_iff_eq] at hc
      rw [List.pairwise_append]
      refine ⟨hi, by simp, ?_⟩
      intro a ha b hb
      rw [List.mem_singleton] at hb
      subst hb
      obtain ⟨j, q, hj, hq, rfl, hqk⟩ := (survTo_eq h k (by omega)).2.1 a ha
      rw [commitN_eq h hq hqk, commitN_eq h e hc.1]
      exact hj
    · exact hi
theorem surv_sorted {s : List OpV} (h : validS s = true) : (survS s).Pairwise (fun a b => commitN s a < commitN s b) := by
  have := sTo_sorted h s.length (Nat.le_refl _)
  rwa [sTo_all (Nat.le_refl _)] at this
theorem sorted_drop {f : Int → Nat} {L : List Int} (hp : L.Pairwise (fun a b => f a < f b)) {i : Nat} {t u : Int} (ht : L[i]? = some t) (hu : u ∈ L.drop (i + 1)) : f t < f u := by
  obtain ⟨j, hj⟩ := List.getElem?_of_mem hu
  rw [List.getElem?_drop] at hj
  obtain ⟨a, ha⟩ := List.getElem?_eq_some_iff.1 ht
  obtain ⟨b, hb⟩ := List.getElem?_eq_some_iff.1 hj
  have := (List.pairwise_iff_getElem.1 hp) i (i + 1 + j) a b (by omega)
  rw [ha, hb] at this
  exact this
theorem vFold_mem {p : Int → Bool} {L : List Int} : vFold p L = -1 ∨ (vFold p L ∈ L ∧ p (vFold p L) = true) := by
  unfold vFold
  suffices ∀ z : Int, (L.foldl (fun v u => if p u then u else v) z = z) ∨ (L.foldl (fun v u => if p u then u else v) z ∈ L ∧ p (L.foldl (fun v u => if p u then u else v) z) = true) from this (-1)
  induction L with
  | nil => intro z; exact .inl rfl
  | cons x r ih =>
    intro z
    rw [List.foldl_cons]
    rcases ih (if p x then x else z) with h | ⟨h1, h2⟩
    · rw [h]
      split
      · rename_i hp; exact .inr ⟨by simp, hp⟩
      · exact .inl rfl
    · exact .inr ⟨List.mem_cons_of_mem _ h1, h2⟩
theorem verS_cases (s : List OpV) (L : List Int) (k : Nat) (o : OpV) : verS s L k o = -1 ∨ verS s L k o = o.tx ∨ (verS s L k o ∈ L ∧ commitN s (verS s L k o) < stampN s o.tx ∧ touchB s s.length (verS s L k o) 1 o.item = true) := by
  unfold verS
  split
  · exact .inr (.inl rfl)
  · rcases vFold_mem (p := pS s o) (L := L) with h | ⟨h1, h2⟩
    · exact .inl h
    · refine .inr (.inr ⟨h1, ?_⟩)
      generalize vFold (pS s o) L = z at *
      unfold pS at h2
      simpa using h2
theorem verS_le {s : List OpV} (h : validS s = true) {k : Nat} {o : OpV} (ho : s[k]? = some o) : verS s (survS s) k o ≤ 3 := by
  rcases verS_cases s (survS s) k o with e | e | ⟨e, _⟩
  · omega
  · rw [e]; exact (validS_tx3 h (List.mem_of_getElem? ho)).2
  · exact (survS_rng h _ e).2
theorem agS_ok {s : List OpV} (h : validS s = true) : Rows4 (agS4 s) := by unfold agS4; exact agTo_ok (survS_rng h) _
theorem vgS_ok {s : List OpV} (h : validS s = true) : Rows4 (vgS s) := vgTo_ok (vsOut_ok (survS_rng h) (agS_ok h) _) (fun o ho => validS_tx3 h ho) _
/-- Which bits the graph has. -/
theorem vgS_bit {s : List OpV} (h : validS s = true) {t u : Nat} : ((vgS s).getD t 0).testBit u = true ↔
    ((agS4 s).getD t 0).testBit u = true ∨ (∃ j, (survS s)[j]? = some (t : Int) ∧ (u : Int) ∈ (survS s).drop (j + 1) ∧ meetsB s t u = true) ∨
    ∃ j o, s[j]? = some o ∧ o.kind = 0 ∧ o.tx ∈ survS s ∧ verS s (survS s) j o = t ∧ o.tx = u ∧ t ≠ u := by
  unfold vgS
  rw [vgTo_bit (vsOut_ok (survS_rng h) (agS_ok h) _) (fun o ho => validS_tx3 h ho) (fun k o ho => verS_le h ho), vsOut_bit (agS_ok h) (survS_rng h)]
  constructor
  · rintro ((a | ⟨j, _, a⟩) | ⟨j, o, _, ho, r⟩)
    · exact .inl a
    · exact .inr (.inl ⟨j, a⟩)
    · exact .inr (.inr ⟨j, o, ho, r⟩)
  · rintro (a | ⟨j, a1, a⟩ | ⟨j, o, ho, r⟩)
    · exact .inl (.inl a)
    · exact .inl (.inr ⟨j, (List.getElem?_eq_some_iff.1 a1).1, a1, a⟩)
    · exact .inr ⟨j, o, (List.getElem?_eq_some_iff.1 ho).1, ho, r⟩
theorem vg_edge {s : List OpV} (h : validS s = true) {t u : Nat} (hb : ((vgS s).getD t 0).testBit u = true) :
    t ≠ u ∧ (t : Int) ∈ survS s ∧ (u : Int) ∈ survS s ∧ (((agS4 s).getD t 0).testBit u = true ∨ commitN s t < commitN s u) := by
  rcases (vgS_bit h).1 hb with a | ⟨j, a1, a2, _⟩ | ⟨j, o, ho, hk, hm, hv, hu, hne⟩
  · have := ag_edge h a
    exact ⟨this.1, this.2.1, this.2.2.1, .inl a⟩
  · have hlt := sorted_drop (surv_sorted h) a1 a2
    exact ⟨fun e => by rw [e] at hlt; omega, List.mem_of_getElem? a1, List.mem_of_mem_drop a2, .inr hlt⟩
  · rcases verS_cases s (survS s) j o with e | e | ⟨e1, e2, _⟩
    · omega
    · omega
    · rw [hv] at e1 e2
      obtain ⟨q, hq, hqt, hqk⟩ := surv_commit h hm
      obtain ⟨q1, h1, e3, _⟩ := commitN_at hq hqk
      have h2 := stampN_le h1
      rw [e3] at h2
      rw [hqt] at h2
      rw [hu] at h2 e2 hm
      exact ⟨hne, e1, hm, .inr (by omega)⟩
theorem vg_ser {s : List OpV} (h : validS s = true) (hs : isSer s = true) {t u : Nat} (hb : ((vgS s).getD t 0).testBit u = true) : commitN s t < commitN s u := by
  obtain ⟨hne, m1, m2, a | a⟩ := vg_edge h hb
  · obtain ⟨_, _, _, hlt⟩ := ag_edge h a
    exact (ser_edge (t := (t : Int)) (u := (u : Int)) h hs (fun e => hne (by omega)) m1 m2 hlt).2.2
  · exact a

/-- The ways that the law's 'turns' adds. -/
def twIn (k : Nat) (rows : List Nat) : Nat → List Nat
  | 0 => rows
  | i + 1 => if ((twIn k rows i).getD i 0).testBit k then (twIn k rows i).set i ((twIn k rows i).getD i 0 ||| (twIn k rows i).getD k 0) else twIn k rows i
def twOut (rows : List Nat) : Nat → List Nat
  | 0 => rows
  | k + 1 => twIn k (twOut rows k) 4
def turnB (rows : List Nat) : Bool := (List.range 4).any fun i => ((twOut rows 4).getD i 0).testBit i
theorem or16 {a b : Nat} (ha : a < 16) (hb : b < 16) : a ||| b < 16 := Nat.or_lt_two_pow (n := 4) ha hb
theorem getD16 {rows : List Nat} (h : Rows4 rows) (i : Nat) : rows.getD i 0 < 16 := by
  rw [List.getD_eq_getElem?_getD]
  cases e : rows[i]? with
  | none => simp
  | some x => exact h.2 x (List.mem_of_getElem? e)
theorem set_ok {rows : List Nat} (h : Rows4 rows) {i v : Nat} (hv : v < 16) : Rows4 (rows.set i v) := by
  refine ⟨by rw [List.length_set]; exact h.1, fun r hr => ?_⟩
  rcases List.mem_or_eq_of_mem_set hr with h1 | h1
  · exact h.2 r h1
  · omega
theorem twIn_ok {k : Nat} {rows : List Nat} (h : Rows4 rows) (i : Nat) : Rows4 (twIn k rows i) := by
  induction i with
  | zero => exact h
  | succ i ih =>
    simp only [twIn]
    split
    · exact set_ok ih (or16 (getD16 ih _) (getD16 ih _))
    · exact ih
theorem twOut_ok {rows : List Nat} (h : Rows4 rows) (k : Nat) : Rows4 (twOut rows k) := by
  induction k with
  | zero => exact h
  | succ k ih => exact twIn_ok ih 4
theorem getD_set {rows : List Nat} {i j v : Nat} (hi : i < rows.length) : (rows.set i v).getD j 0 = if i = j then v else rows.getD j 0 := by
  rw [List.getD_eq_getElem?_getD, List.getElem?_set, List.getD_eq_getElem?_getD]
  split
  · rename_i e; subst e; first | rfl | (rw [if_pos hi]; rfl)
  · rfl
/-- A rank that grows along all ways grows along those that are added. -/
theorem twIn_rank {f : Nat → Nat} {k : Nat} {rows : List Nat} (h4 : Rows4 rows) (h : ∀ t u, (rows.getD t 0).testBit u = true → f t < f u) (i : Nat) (hi : i ≤ 4) : ∀ t u, ((twIn k rows i).getD t 0).testBit u = true → f t < f u := by
  induction i with
  | zero => exact h
  | succ i ih =>
    have hr := ih (by omega)
    simp only [twIn]
    split
    · rename_i hb
      intro t u htu
      rw [getD_set (by have := (twIn_ok (k := k) h4 i).1; omega)] at htu
      split at htu
      · rename_i e
        subst e
        rw [Nat.testBit_or, Bool.or_eq_true] at htu
        rcases htu with a | a
        · exact hr _ _ a
        · exact Nat.lt_trans (hr _ _ hb) (hr _ _ a)
      · exact hr _ _ htu
    · exact hr
theorem twOut_rank {f : Nat → Nat} {rows : List Nat} (h4 : Rows4 rows) (h : ∀ t u, (rows.getD t 0).testBit u = true → f t < f u) (k : Nat) : ∀ t u, ((twOut rows k).getD t 0).testBit u = true → f t < f u := by
  induction k with
  | zero => exact h
  | succ k ih => exact twIn_rank (twOut_ok h4 k) ih 4 (Nat.le_refl _)
theorem turnB_rank {f : Nat → Nat} {rows : List Nat} (h4 : Rows4 rows) (h : ∀ t u, (rows.getD t 0).testBit u = true → f t < f u) : turnB rows = false := by
  unfold turnB
  rw [List.any_eq_false]
  intro i _ hb
  have := twOut_rank h4 h 4 i i hb
  omega
theorem vg_turns {s : List OpV} (h : validS s = true) (hs : isSer s = true) : turnB (vgS s) = false :=
  turnB_rank (f := fun t => commitN s t) (vgS_ok h) (fun t u hb => vg_ser h hs hb)
theorem vg_sub {s : List OpV} (h : validS s = true) (t : Nat) : (agS4 s).getD t 0 &&& (vgS s).getD t 0 = (agS4 s).getD t 0 := by
  apply Nat.eq_of_testBit_eq
  intro u
  rw [Nat.testBit_and]
  cases hb : ((agS4 s).getD t 0).testBit u
  · rfl
  · rw [(vgS_bit h).2 (.inl hb)]; rfl
theorem vg_diag {s : List OpV} (h : validS s = true) (t : Nat) : ((vgS s).getD t 0).testBit t = false := by
  cases hb : ((vgS s).getD t 0).testBit t
  · rfl
  · exact absurd rfl (vg_edge h hb).1
end Go.Proofs.Ytofcpfabjfhjoaa
namespace Go.Proofs.Ytofcpfabjfhjoaa
open Go.RowKit Go.BigFrame
set_option linter.unusedVariables false

theorem FreshInts.blk {w0 w : World} {A : Option Addr} {n : Nat} {xs : List Int} (h : FreshInts w0 w A n xs) : ∀ ad, A = some ad → ad.block < w.heap.size := fun ad had => by
  obtain ⟨b, cur, e, _, h2, _⟩ := h.2 ad had
  rw [e]; exact lt_of_block h2
theorem asc_unique : ∀ {l1 l2 : List Int}, l1.Pairwise (fun a b => a < b) → l2.Pairwise (fun a b => a < b) → (∀ x, x ∈ l1 ↔ x ∈ l2) → l1 = l2 := by
  intro l1
  induction l1 with
  | nil =>
    intro l2 _ _ h
    cases l2 with
    | nil => rfl
    | cons y r => exact absurd ((h y).2 (by simp)) (by simp)
  | cons x r ih =>
    intro l2 h1 h2 h
    cases l2 with
    | nil => exact absurd ((h x).1 (by simp)) (by simp)
    | cons y q =>
      rw [List.pairwise_cons] at h1 h2
      have hxy : x = y := by
        rcases List.mem_cons.1 ((h x).1 (by simp)) with e | hx
        · exact e
        · rcases List.mem_cons.1 ((h y).2 (by simp)) with e | hy
          · exact e.symm
          · have := h2.1 x hx; have := h1.1 y hy; omega
      subst hxy
      rw [ih h1.2 h2.2 (fun z => ?_)]
      constructor
      · intro hz
        rcases List.mem_cons.1 ((h z).1 (by simp [hz])) with e | hq
        · have := h1.1 z hz; omega
        · exact hq
      · intro hz
        rcases List.mem_cons.1 ((h z).2 (by simp [hz])) with e | hq
        · have := h2.1 z hz; omega
        · exact hq
/-- The transactions of a list, ascending. -/
def ascOf (L : List Int) : List Int := [(0 : Int), 1, 2, 3].filter fun t => L.any fun y => y == t
theorem ascOf_asc (L : List Int) : (ascOf L).Pairwise (fun a b => a < b) := List.Pairwise.filter _ (by decide)
theorem ascOf_mem {L : List Int} (h : ∀ u ∈ L, 0 ≤ u ∧ u ≤ 3) (t : Int) : t ∈ ascOf L ↔ t ∈ L := by
  unfold ascOf
  rw [List.mem_filter, any_mem_iff]
  refine ⟨fun h => h.2, fun ht => ⟨?_, ht⟩⟩
  have := h t ht
  have : t = 0 ∨ t = 1 ∨ t = 2 ∨ t = 3 := by omega
  rcases this with rfl | rfl | rfl | rfl <;> simp
theorem ascOf_nodup (L : List Int) : (ascOf L).Nodup := (ascOf_asc L).imp (fun h => by omega)
theorem ascOf_rng (L : List Int) : ∀ t ∈ ascOf L, 0 ≤ t ∧ t ≤ 3 := by
  intro t ht
  have := (List.mem_filter.1 ht).1
  simp at this
  omega
theorem ascOf_len (L : List Int) : (ascOf L).length ≤ 4 := Nat.le_trans (List.length_filter_le _ _) (by simp)
theorem sort_asc {L : List Int} (hd : L.Nodup) (h : ∀ u ∈ L, 0 ≤ u ∧ u ≤ 3) : (L.mergeSort fun x y => decide (x ≤ y)) = ascOf L := by
  have hp : (L.mergeSort fun x y => decide (x ≤ y)).Perm L := List.mergeSort_perm _ _
  have hs : (L.mergeSort fun x y => decide (x ≤ y)).Pairwise (fun a b => decide (a ≤ b) = true) := List.pairwise_mergeSort (by intro a b c; simp; omega) (by intro a b; simp; omega) L
  have hn : (L.mergeSort fun x y => decide (x ≤ y)).Nodup := hp.nodup_iff.2 hd
  refine asc_unique ?_ (ascOf_asc L) (fun x => ?_)
  · refine (hs.and hn).imp ?_
    intro a b ⟨h1, h2⟩
    have : a ≤ b := by simpa using h1
    omega
  · rw [hp.mem_iff, ascOf_mem h]
theorem survS_nodup {s : List OpV} (h : validS s = true) : (survS s).Nodup := (surv_known h).2
/-- The orders that the program finds, and the reference. -/
def snapI (s : List OpV) : List (List Int) := ordI (ascOf (survI s)) (vgI s)
def snapS (s : List OpV) : List (List Int) := topF (ascOf (survS s)) (vgS s) (ascOf (survS s)).length []
theorem snap_eq {s : List OpV} (h : validS s = true) : snapI s = snapS s := by
  unfold snapI snapS
  rw [surv_eq h, vg_eq h]
  exact ord_eq (ascOf_nodup _) (fun t ht => by unfold edgeB; exact vg_diag h _)

set_option maxHeartbeats 1000000 in
theorem SnapshotOrders_any (A : Option Addr) (n c : Nat) (s : List OpV) (w : World) (hx : ROps w A n s) (hnc : n ≤ c) :
    Calls Try.prog 52 #[.slice A n c] w (RetListsA w (orNil (validS s) (snapI s))) := by
  have HX := Lib.hid hx
  clear hx
  go_enter Try.func52, Try.ntmps52
  go_wp2_with fail
  refine (ValidSchedule_any A n c s w HX.out hnc).mono ?_
  rintro e w1 ⟨rfl, hb⟩
  cases hv : validS s
  · have HV := Lib.hid hv
    clear hv
    go_wp2_with fail
    go_ret
    rw [HV.out]
    exact RetListsA.nil hb
  · have HV := Lib.hid hv
    clear hv
    go_wp2_with fail
    refine (survivorsOf_any A n c s w1 (HX.out.below hb (Nat.le_refl _)) (validS_items HV.out)).mono ?_
    rintro e w2 ⟨B, d, rfl, hd, hf, hb2⟩
    have hf : FreshInts w1 w2 B (survI s).length (survI s) := hf
    have hB : ∀ ad, B = some ad → ad.block < w2.heap.size := fun ad h => hf.blk ad h
    have HB := Lib.hid hB
    have HF := Lib.hid hf.1
    have hb02 := hb.trans (hb2.mono hb.size)
    have hsv : (survI s).length ≤ 1099511627776 := hf.1.2.1
    clear hf hb2 hB
    generalize hL : (survI s).length = m at *
    go_wp2_with fail
    refine (lstvalues_any B m d w2).mono ?_
    rintro e w3 ⟨rfl, rfl⟩
    have ha3 : Below w2.heap.size w2 (w2.alloc (.cells #[.slice B m d] 60)) := (Below.refl _ _).alloc (Nat.le_refl _) _
    have hc3 : (w2.alloc (.cells #[.slice B m d] 60)).cell? ⟨w2.heap.size, 0, none⟩ = some (.slice B m d) := box_at _ _ _ _ _ (by simp)
    have HS := Lib.hid (lstsorted_any w2.heap.size B m d (survI s) (w2.alloc (.cells #[.slice B m d] 60)) (by simp) hc3 (HF.out.below ha3 (Nat.le_refl _)) (fun ad h => by have := HB.out ad h; simp; omega))
    rw [sort_asc (by rw [surv_eq HV.out]; exact survS_nodup HV.out) (survI_rng HV.out)] at HS
    have HL := Lib.hid hL
    clear hc3 hL
    go_wp2_with fail
    refine HS.out.mono ?_
    rintro e w4 ⟨C, g, rfl, hg, hf4, hb4⟩
    have hb04 := (hb02.trans (ha3.mono hb02.size)).trans (hb4.mono (by have := hb02.size; simp; omega))
    have hf4 : FreshInts _ w4 C (ascOf (survI s)).length (ascOf (survI s)) := hf4
    have HC : Hid (∀ ad, C = some ad → ad.block < w4.heap.size) := fun ad h => hf4.blk ad h
    have HF4 := Lib.hid hf4.1
    have hl4 := ascOf_len (survI s)
    have HRNG := Lib.hid (ascOf_rng (survI s))
    have HSN : Hid (snapI s = ordI (ascOf (survI s)) (vgI s)) := rfl
    clear hf4 hb4 HS ha3
    generalize ascOf (survI s) = L at *
    go_wp2_with fail
    refine (versionGraph_any A n c s w4 (HX.out.below hb04 (Nat.le_refl _)) hnc HV.out).mono ?_
    rintro e w5 ⟨R, rc, rfl, hrc, ⟨hr5, _⟩, hb5⟩
    have hok : Rows4 (vgI s) := by rw [vg_eq HV.out]; exact vgS_ok HV.out
    have hlen : (rowsI (vgI s)).length = 4 := by simp [rowsI, hok.1]
    rw [hlen] at hr5 hrc ⊢
    have hb05 := hb04.trans (hb5.mono hb04.size)
    have HO := Lib.hid (ordersBy_any C R L.length g rc L (vgI s) w5 (HF4.out.below hb5 (Nat.le_refl _)) (fun ad h => by have := HC.out ad h; have := hb5.size; omega) hr5 hok HRNG.out hl4)
    rw [← HSN.out] at HO
    clear hr5 hok hlen
    go_wp2_with fail
    refine HO.out.mono ?_
    intro e w6 hret
    obtain ⟨A6, c6, rv, rfl, h2, h3, h4, h5, h6⟩ := hret
    have HR : Hid (RetListsA w (snapI s) (.returned (.slice A6 (snapI s).length c6)) w6) := by
      have hs := hb05.size
      exact ⟨A6, c6, rv, rfl, h2, ⟨h3.1, fun ad had => by obtain ⟨b, cur, e1, e2, e3⟩ := h3.2 ad had; exact ⟨b, cur, e1, by omega, e3⟩⟩, h4.since hs, h5, hb05.trans (h6.mono hs)⟩
    clear h2 h3 h4 h5 h6 HO
    go_wp2_with fail
    go_ret
    rw [HV.out]
    exact HR.out
end Go.Proofs.Ytofcpfabjfhjoaa
namespace Go.Proofs.Ytofcpfabjfhjoaa
open Go.RowKit
set_option linter.unusedVariables false

theorem topF_ne {list : List Int} {rows : List Nat} (hd : list.Nodup) (src : ∀ S : List Int, S ≠ [] → (∀ x ∈ S, x ∈ list) → ∃ t ∈ S, ∀ v ∈ S, edgeB rows v t = false) (m : Nat) :
    ∀ pre : List Int, pre.length + m = list.length → topF list rows m pre ≠ [] := by
  induction m with
  | zero => intro pre _; simp [topF]
  | succ m ih =>
    intro pre hl
    have hne : list.filter (fun x => !(pre.any fun y => y == x)) ≠ [] := by
      intro he
      rw [List.filter_eq_nil_iff] at he
      have : list.length ≤ pre.length := nodup_len hd fun x hx => by
        have := he x hx
        simp only [Bool.not_eq_true', Bool.not_eq_false] at this
        exact any_mem_iff.1 this
      omega
    obtain ⟨t, ht, hs⟩ := src _ hne (fun x hx => (List.mem_filter.1 hx).1)
    obtain ⟨htl, htp⟩ := List.mem_filter.1 ht
    have hcond : (!(pre.any fun y => y == t) && list.all (fun v => !edgeB rows v t || pre.any fun y => y == v)) = true := by
      rw [Bool.and_eq_true]
      refine ⟨htp, List.all_eq_true.2 fun v hv => ?_⟩
      cases hp : (pre.any fun y => y == v)
      · rw [hs v (List.mem_filter.2 ⟨hv, by rw [hp]; rfl⟩)]; rfl
      · simp
    simp only [topF]
    intro he
    rw [List.flatMap_eq_nil_iff] at he
    have := he t htl
    rw [if_pos hcond] at this
    exact ih (pre ++ [t]) (by simp; omega) this

/-! ### ways are closed -/
theorem twIn_bit {k : Nat} {rows : List Nat} (h4 : Rows4 rows) (hk : k < 4) (i : Nat) (hi : i ≤ 4) : ∀ t u, ((twIn k rows i).getD t 0).testBit u = ((rows.getD t 0).testBit u || (decide (t < i) && (rows.getD t 0).testBit k && (rows.getD k 0).testBit u)) := by
  induction i with
  | zero => intro t u; simp [twIn]
  | succ i ih =>
    have ih := ih (by omega)
    intro t u
    have hkk : ∀ u, ((twIn k rows i).getD k 0).testBit u = (rows.getD k 0).testBit u := by
      intro u
      rw [ih]
      cases (rows.getD k 0).testBit u <;> simp
    simp only [twIn]
    have hik : ((twIn k rows i).getD i 0).testBit k = (rows.getD i 0).testBit k := by
      rw [ih]; simp
    rw [hik]
    cases hb : (rows.getD i 0).testBit k
    · simp only [Bool.false_eq_true, if_false]
      rw [ih]
      by_cases e : t = i
      · subst e; rw [hb]; simp
      · have : decide (t < i + 1) = decide (t < i) := by rw [decide_eq_decide]; omega
        rw [this]
    · simp only [if_true]
      rw [getD_set (by have := (twIn_ok (k := k) h4 i).1; omega)]
      by_cases e : i = t
      · subst e
        rw [if_pos rfl, Nat.testBit_or, hkk, ih, hb]
        simp
      · rw [if_neg e, ih]
        have : decide (t < i + 1) = decide (t < i) := by rw [decide_eq_decide]; omega
        rw [this]
theorem getD_big {rows : List Nat} (h4 : Rows4 rows) {t : Nat} (ht : 4 ≤ t) : rows.getD t 0 = 0 := by
  rw [List.getD_eq_getElem?_getD, List.getElem?_eq_none (by rw [h4.1]; exact ht)]; rfl
theorem tw_bit {k : Nat} {rows : List Nat} (h4 : Rows4 rows) (hk : k < 4) (t u : Nat) : ((twIn k rows 4).getD t 0).testBit u = ((rows.getD t 0).testBit u || ((rows.getD t 0).testBit k && (rows.getD k 0).testBit u)) := by
  rw [twIn_bit h4 hk 4 (Nat.le_refl _)]
  by_cases ht : t < 4
  · simp [ht]
  · rw [getD_big h4 (by omega)]; simp
theorem twOut_has {rows : List Nat} (h4 : Rows4 rows) (k : Nat) (hk : k ≤ 4) {t u : Nat} (h : (rows.getD t 0).testBit u = true) : ((twOut rows k).getD t 0).testBit u = true := by
  induction k with
  | zero => exact h
  | succ k ih =>
    simp only [twOut]
    rw [tw_bit (twOut_ok h4 k) (by omega), ih (by omega)]; rfl
theorem twOut_trans {rows : List Nat} (h4 : Rows4 rows) (k : Nat) (hk : k ≤ 4) : ∀ a m c, m < k → ((twOut rows k).getD a 0).testBit m = true → ((twOut rows k).getD m 0).testBit c = true → ((twOut rows k).getD a 0).testBit c = true := by
  induction k with
  | zero => intro a m c hm; omega
  | succ k ih =>
    have ih := ih (by omega)
    intro a m c hm h1 h2
    simp only [twOut] at h1 h2 ⊢
    rw [tw_bit (twOut_ok h4 k) (by omega)] at h1 h2 ⊢
    generalize twOut rows k = W at *
    simp only [Bool.or_eq_true, Bool.and_eq_true] at h1 h2 ⊢
    rcases Nat.lt_or_ge m k with hmk | hmk
    · rcases h1 with h1 | ⟨h1, h1'⟩
      · rcases h2 with h2 | ⟨h2, h2'⟩
        · exact .inl (ih a m c hmk h1 h2)
        · exact .inr ⟨ih a m k hmk h1 h2, h2'⟩
      · rcases h2 with h2 | ⟨h2, h2'⟩
        · exact .inr ⟨h1, ih k m c hmk h1' h2⟩
        · exact .inr ⟨h1, h2'⟩
    · obtain rfl : m = k := by omega
      have ha : (W.getD a 0).testBit m = true := h1.elim id (fun h => h.1)
      have hc : (W.getD m 0).testBit c = true := h2.elim id (fun h => h.2)
      exact .inr ⟨ha, hc⟩

theorem min_by {α : Type} (f : α → Nat) : ∀ {L : List α}, L ≠ [] → ∃ x ∈ L, ∀ y ∈ L, f x ≤ f y := by
  intro L
  induction L with
  | nil => intro h; exact absurd rfl h
  | cons a r ih =>
    intro _
    by_cases hr : r = []
    · subst hr; exact ⟨a, by simp, by simp⟩
    · obtain ⟨x, hx, hm⟩ := ih hr
      by_cases h : f a ≤ f x
      · refine ⟨a, by simp, fun y hy => ?_⟩
        rcases List.mem_cons.1 hy with e | e
        · rw [e]; exact Nat.le_refl _
        · exact Nat.le_trans h (hm y e)
      · refine ⟨x, by simp [hx], fun y hy => ?_⟩
        rcases List.mem_cons.1 hy with e | e
        · rw [e]; omega
        · exact hm y e
theorem filter_lt {α : Type} {p q : α → Bool} {x : α} : ∀ {L : List α}, (∀ y ∈ L, p y = true → q y = true) → x ∈ L → p x = false → q x = true → (L.filter p).length < (L.filter q).length := by
  intro L
  induction L with
  | nil => intro _ h; cases h
  | cons a r ih =>
    intro hs hx hp hq
    have hle : ∀ {M : List α}, (∀ y ∈ M, p y = true → q y = true) → (M.filter p).length ≤ (M.filter q).length := by
      intro M
      induction M with
      | nil => intro _; simp
      | cons b s ihm =>
        intro h
        have := ihm (fun y hy => h y (by simp [hy]))
        rw [List.filter_cons, List.filter_cons]
        cases hb : p b
        · simp only [Bool.false_eq_true, if_false]
          split
          · simp; omega
          · exact this
        · rw [h b (by simp) hb]; simp; omega
    rw [List.filter_cons, List.filter_cons]
    rcases List.mem_cons.1 hx with e | hxr
    · subst e
      rw [hp, hq]
      simp only [Bool.false_eq_true, if_false, if_true, List.length_cons]
      have := hle (M := r) (fun y hy => hs y (by simp [hy]))
      omega
    · have := ih (fun y hy => hs y (by simp [hy])) hxr hp hq
      cases hb : p a
      · simp only [Bool.false_eq_true, if_false]
        split
        · simp; omega
        · exact this
      · rw [hs a (by simp) hb]; simp; omega
/-- Where nothing goes round, each set has a member that none of it is ahead of. -/
theorem turn_src {rows : List Nat} (h4 : Rows4 rows) (ht : turnB rows = false) {list : List Int} (hr : ∀ t ∈ list, 0 ≤ t ∧ t ≤ 3) : ∀ S : List Int, S ≠ [] → (∀ x ∈ S, x ∈ list) → ∃ t ∈ S, ∀ v ∈ S, edgeB rows v t = false := by
  intro S hne hsub
  have irr : ∀ i, i < 4 → ((twOut rows 4).getD i 0).testBit i = false := by
    intro i hi
    unfold turnB at ht
    rw [List.any_eq_false] at ht
    have := ht i (List.mem_range.2 hi)
    simpa using this
  obtain ⟨t, htS, hmin⟩ := min_by (fun t : Int => ((List.range 4).filter fun v => ((twOut rows 4).getD v 0).testBit t.toNat).length) hne
  refine ⟨t, htS, fun v hv => ?_⟩
  cases he : edgeB rows v t
  · rfl
  · exfalso
    have hvr := hr v (hsub v hv)
    have hvt := twOut_has h4 4 (Nat.le_refl _) (t := v.toNat) (u := t.toNat) he
    have hlt := filter_lt (x := v.toNat) (L := List.range 4) (p := fun y => ((twOut rows 4).getD y 0).testBit v.toNat) (q := fun y => ((twOut rows 4).getD y 0).testBit t.toNat)
      (fun y _ hy => twOut_trans h4 4 (Nat.le_refl _) y v.toNat t.toNat (by omega) hy hvt) (List.mem_range.2 (by omega)) (irr _ (by omega)) hvt
    have := hmin v hv
    omega

/-! ### the graph of versions -/
theorem sTo_pair {s : List OpV} (k : Nat) : (sTo s k).Pairwise (fun a b => fS s b a = true) := by
  induction k with
  | zero => simp [sTo]
  | succ k ih =>
    cases hk : s[k]? with
    | none =>
      have hl : s.length ≤ k := by rw [List.getElem?_eq_none_iff] at hk; exact hk
      rw [sTo_all (by omega), ← sTo_all hl]; exact ih
    | some o =>
      rw [sTo_succ hk]
      unfold sStep
      split
      · rename_i hc
        rw [Bool.and_eq_true, List.all_eq_true] at hc
        rw [List.pairwise_append]
        refine ⟨ih, by simp, fun a ha b hb => ?_⟩
        rw [List.mem_singleton] at hb
        subst hb
        exact hc.2 a ha
      · exact ih
theorem meetsB_symm (s : List OpV) (t u : Int) : meetsB s t u = meetsB s u t := by
  unfold meetsB
  congr 1
  funext x
  exact Bool.and_comm _ _
/-- A way of the graph of versions: by an overlap with one against the other, or forth in time. -/
theorem vg_cases {s : List OpV} (h : validS s = true) {t u : Nat} (hb : ((vgS s).getD t 0).testBit u = true) :
    (((agS4 s).getD t 0).testBit u = true ∧ ovS s t u = true) ∨ commitN s t < stampN s u := by
  have hedge := vg_edge h hb
  rcases (vgS_bit h).1 hb with a | ⟨j, a1, a2, a3⟩ | ⟨j, o, ho, hk, hm, hv, hu, hne⟩
  · have hag := ag_edge h a
    rcases Nat.lt_or_ge (stampN s u) (commitN s t) with h1 | h1
    · refine .inl ⟨a, ?_⟩
      unfold ovS
      rw [Bool.and_eq_true, decide_eq_true_eq, decide_eq_true_eq]
      exact ⟨hag.2.2.2, h1⟩
    · refine .inr (Nat.lt_of_le_of_ne h1 fun e => ?_)
      obtain ⟨q, hq, hqt, hqk⟩ := surv_commit h hag.2.1
      obtain ⟨q1, h1', e1, _⟩ := commitN_at hq hqk
      obtain ⟨p, hp, hpt, hpk⟩ := surv_commit h hag.2.2.1
      obtain ⟨p1, h2', e2⟩ := findIdx_at (p := fun x : OpV => x.tx == (u : Int)) hp (by simp [hpt])
      rw [hqt, e] at h1'
      have h3 : s[stampN s u]? = some p1 := h2'
      rw [h3] at h1'
      injection h1' with h1'
      subst h1'
      have : p1.tx = (u : Int) := by simpa using e2
      rw [e1, hqt] at this
      exact hag.1 (by omega)
  · refine .inr ?_
    have hp := sTo_pair (s := s) s.length
    rw [sTo_all (Nat.le_refl _)] at hp
    obtain ⟨i, hi⟩ := List.getElem?_of_mem a2
    rw [List.getElem?_drop] at hi
    obtain ⟨x1, y1⟩ := List.getElem?_eq_some_iff.1 a1
    obtain ⟨x2, y2⟩ := List.getElem?_eq_some_iff.1 hi
    have := (List.pairwise_iff_getElem.1 hp) j (j + 1 + i) x1 x2 (by omega)
    rw [y1, y2] at this
    unfold fS at this
    rw [meetsB_symm, a3] at this
    simpa using this
  · refine .inr ?_
    rcases verS_cases s (survS s) j o with e | e | ⟨_, e2, _⟩
    · omega
    · omega
    · rw [hv, hu] at e2; exact e2
/-- Where each of some is behind one of them there is a pivot. -/
theorem piv_of_round {s : List OpV} (h : validS s = true) {S : List Int} (hr : ∀ t ∈ S, 0 ≤ t ∧ t ≤ 3) (hne : S ≠ []) (hp : ∀ t ∈ S, ∃ v ∈ S, edgeB (vgS s) v t = true) : ∃ t u v : Nat, t < 4 ∧ u < 4 ∧ v < 4 ∧ pivF (agS4 s) (ovS s) t u v = true := by
  have lt_ : ∀ t ∈ S, stampN s t ≤ commitN s t := fun t ht => by
    obtain ⟨v, hv, he⟩ := hp t ht
    have := (vg_edge h he).2.2.1
    have htn : ((t.toNat : Nat) : Int) = t := by have := hr t ht; omega
    rw [htn] at this
    obtain ⟨q, hq, hqt, hqk⟩ := surv_commit h this
    obtain ⟨q1, h1, e1, _⟩ := commitN_at hq hqk
    have h2 := stampN_le h1
    rw [e1] at h2
    rw [hqt] at h2
    exact h2
  obtain ⟨c, hc, hmin⟩ := min_by (fun t : Int => commitN s t) hne
  obtain ⟨b, hb, hbc⟩ := hp c hc
  obtain ⟨a, ha, hab⟩ := hp b hb
  have cn : ((c.toNat : Nat) : Int) = c := by have := hr c hc; omega
  have bn : ((b.toNat : Nat) : Int) = b := by have := hr b hb; omega
  have an : ((a.toNat : Nat) : Int) = a := by have := hr a ha; omega
  have e1 := vg_cases h (t := b.toNat) (u := c.toNat) hbc
  have e2 := vg_cases h (t := a.toNat) (u := b.toNat) hab
  rw [bn, cn] at e1
  rw [an, bn] at e2
  have m1 := hmin b hb
  have m2 := hmin a ha
  have lc := lt_ c hc
  rcases e1 with ⟨g1, o1⟩ | e1
  · have ob : stampN s b < commitN s c := by
      unfold ovS at o1
      rw [Bool.and_eq_true, decide_eq_true_eq] at o1
      exact o1.1
    rcases e2 with ⟨g2, o2⟩ | e2
    · refine ⟨a.toNat, b.toNat, c.toNat, by have := hr a ha; omega, by have := hr b hb; omega, by have := hr c hc; omega, ?_⟩
      unfold pivF
      rw [an, bn, cn, g1, g2, o1, o2]; rfl
    · omega
  · omega

theorem snap_none_turn {s : List OpV} (h : validS s = true) : (snapI s = []) ↔ turnB (vgS s) = true := by
  constructor
  · intro he
    cases ht : turnB (vgS s)
    · exfalso
      rw [snap_eq h] at he
      exact topF_ne (ascOf_nodup _) (turn_src (vgS_ok h) ht (ascOf_rng _)) _ [] (by simp) he
    · rfl
  · intro ht
    cases he : snapI s with
    | nil => rfl
    | cons p r =>
      exfalso
      have hp : p ∈ snapI s := by rw [he]; simp
      unfold snapI ordI at hp
      obtain ⟨hp1, hp2⟩ := List.mem_filter.1 hp
      rw [surv_eq h] at hp1
      rw [vg_eq h] at hp2
      obtain ⟨_, hall⟩ := permF_mem (ascOf_nodup (survS s)) (ascOf (survS s)).length (pre := []) (by simp) (by simp) (by simp) p hp1
      have : turnB (vgS s) = false := by
        refine turnB_rank (f := fun t => p.idxOf (t : Int)) (vgS_ok h) fun t u hb => ?_
        have hedge := vg_edge h hb
        have mt : (t : Int) ∈ p := hall _ ((ascOf_mem (survS_rng h) _).2 hedge.2.1)
        have mu : (u : Int) ∈ p := hall _ ((ascOf_mem (survS_rng h) _).2 hedge.2.2.1)
        rcases Nat.lt_or_ge (p.idxOf (t : Int)) (p.idxOf (u : Int)) with h1 | h1
        · exact h1
        · exfalso
          have lt_t := List.idxOf_lt_length_of_mem mt
          have lt_u := List.idxOf_lt_length_of_mem mu
          have hne : p.idxOf (u : Int) ≠ p.idxOf (t : Int) := fun e => by
            have e1 := List.getElem_idxOf lt_t
            have e2 := List.getElem_idxOf lt_u
            simp only [e] at e2
            rw [e2] at e1
            omega
          -- u stands ahead of t: but the graph tells u for t
          have hsplit : p = p.take (p.idxOf (t : Int)) ++ (t : Int) :: p.drop (p.idxOf (t : Int) + 1) := by
            conv => lhs; rw [← List.take_append_drop (p.idxOf (t : Int)) p]
            rw [List.drop_eq_getElem_cons lt_t, List.getElem_idxOf]
          rw [hsplit, accB_append] at hp2
          rw [Bool.and_eq_true] at hp2
          have h3 := hp2.2
          simp only [accB, List.nil_append, Bool.and_eq_true, Bool.not_eq_true'] at h3
          rw [List.any_eq_false] at h3
          refine h3.1 (u : Int) ?_ (by unfold edgeB; simpa using hb)
          rw [List.mem_take_iff_getElem]
          exact ⟨p.idxOf (u : Int), by omega, List.getElem_idxOf _⟩
      rw [this] at ht
      cases ht
theorem snap_piv {s : List OpV} (h : validS s = true) (hp : pivR (agS4 s) (ovS s) = none) : snapI s ≠ [] := by
  rw [snap_eq h]
  refine topF_ne (ascOf_nodup _) (fun S hne hsub => ?_) _ [] (by simp)
  apply Classical.byContradiction
  intro hno
  have hall : ∀ t ∈ S, ∃ v ∈ S, edgeB (vgS s) v t = true := by
    intro t ht
    apply Classical.byContradiction
    intro hv
    refine hno ⟨t, ht, fun v hvS => ?_⟩
    cases he : edgeB (vgS s) v t
    · rfl
    · exact absurd ⟨v, hvS, he⟩ hv
  obtain ⟨t, u, v, h1, h2, h3, hx⟩ := piv_of_round h (fun t ht => ascOf_rng _ t (hsub t ht)) hne hall
  rw [← pivX_at h2 h3] at hx
  unfold pivR at hp
  rw [List.find?_eq_none] at hp
  exact hp (16 * t + 4 * u + v) (List.mem_range.2 (by omega)) hx
end Go.Proofs.Ytofcpfabjfhjoaa
namespace Go.Proofs.Ytofcpfabjfhjoaa
open Go.RowKit Go.BigFrame
set_option linter.unusedVariables false

def ascTo (L : List Int) (t : Nat) : List Int := (([(0 : Int), 1, 2, 3].take t)).filter fun t => L.any fun y => y == t
theorem ascTo_four (L : List Int) : ascTo L 4 = ascOf L := rfl
theorem ascTo_succ {L : List Int} {t : Nat} (h : t < 4) : ascTo L (t + 1) = if (L.any fun y => y == (t : Int)) then ascTo L t ++ [(t : Int)] else ascTo L t := by
  have e : [(0 : Int), 1, 2, 3][t]? = some (t : Int) := by
    rcases (by omega : t = 0 ∨ t = 1 ∨ t = 2 ∨ t = 3) with rfl | rfl | rfl | rfl <;> rfl
  unfold ascTo
  rw [take_snoc e, List.filter_append, List.filter_cons, List.filter_nil]
  cases (L.any fun y => y == (t : Int)) <;> simp

/-- What the loop over the transactions holds: the survivors' list beside the row that grows. -/
structure LstInv (w1 w2 : World) (B : Option Addr) (m : Nat) (L : List Int) (t : Nat) (ov : Value) (wr : World) : Prop where
  below : Below w1.heap.size w1 wr
  size : w2.heap.size ≤ wr.heap.size
  list : RInts wr B m L
  row : ∃ k, k ≤ t ∧ wr.ownsRow w1.heap.size 3 1 ov k (intCells (ascTo L t)) ∧ ∀ g, ov.ownBlock = some g → g = w1.heap.size ∨ w2.heap.size ≤ g
theorem LstInv.below_ {w1 w2 : World} {B : Option Addr} {m : Nat} {L : List Int} {t : Nat} {ov : Value} {wr W : World} (h : LstInv w1 w2 B m L t ov wr) (hb : Below wr.heap.size wr W) (he : ascTo L (t + 1) = ascTo L t) : LstInv w1 w2 B m L (t + 1) ov W := by
  obtain ⟨h1, h2, h3, k, h4, h5, h6⟩ := h
  exact ⟨h1.trans (hb.mono h1.size), Nat.le_trans h2 hb.size, h3.below hb (Nat.le_refl _), k, by omega, by rw [he]; exact own_below h5 hb, h6⟩

set_option maxRecDepth 100000 in
set_option maxHeartbeats 2000000 in
theorem sSnapshotOrders_any (A : Option Addr) (n c : Nat) (s : List OpV) (w : World) (hx : ROps w A n s) (hnc : n ≤ c) :
    Calls Try.prog 51 #[.slice A n c] w (RetLists w (orNil (validS s) (snapS s))) := by
  have HX := Lib.hid hx
  clear hx
  go_enter Try.func51, Try.ntmps51
  go_wp2_with fail
  refine (svalid'_any A n c s w HX.out hnc).mono ?_
  rintro e w1 ⟨rfl, hb⟩
  cases hv : validS s
  · have HV := Lib.hid hv
    clear hv
    go_wp2_with fail
    go_ret
    rw [HV.out]
    exact RetLists.nil hb
  · have HV := Lib.hid hv
    clear hv
    have HST : Hid ((w1.alloc (.cells #[] 3)).ownsRow w1.heap.size 3 1 (.slice (some ⟨w1.heap.size, 0, none⟩) 0 0) 0 (intCells [])) :=
      World.ownsRow_made w1 #[] 0 (Nat.le_refl _) (by decide) rfl
    have HB1 : Hid (Below w1.heap.size w1 (w1.alloc (.cells #[] 3))) := (Below.refl _ _).alloc (Nat.le_refl _) _
    have hs1 := hb.size
    go_wp2_with fail
    refine (survivors_any A n c s _ (HX.out.below (hb.trans (HB1.out.mono hs1)) (Nat.le_refl _))).mono ?_
    rintro e w2 ⟨B, d, rfl, hd, hfr, hb2⟩
    have hBb : ∀ ad, B = some ad → w1.heap.size < ad.block ∧ ad.block < w2.heap.size := fun ad had => by
      obtain ⟨b, cur, e, h1, h2, _⟩ := hfr.2 ad had
      have := lt_of_block h2
      rw [e]; simp at h1; simp only; omega
    have hf := hfr.1
    have hsz : w1.heap.size < w2.heap.size := by have := hb2.size; simp at this; omega
    have HB2 : Hid (Below w1.heap.size w1 w2) := HB1.out.trans (hb2.mono (by simp))
    have HST2 := Lib.hid (own_below HST.out hb2)
    have HF := Lib.hid hf
    have HBB := Lib.hid hBb
    have hl := hf.1
    have hm := hf.2.1
    have HSS : Hid (snapS s = topF (ascOf (survS s)) (vgS s) (ascOf (survS s)).length []) := rfl
    clear hf hb2 HST HB1 hfr hBb
    generalize hM : (survS s).length = m at *
    clear hM hl
    generalize survS s = L at *
    go_wp2_with fail
    go_loopw [3, 5] (fun ov i wr => ∃ (t : Nat), t ≤ 4 ∧ i = .int .i64 t ∧ LstInv w1 w2 B m L t ov wr) (fun _ i _ => 4 - (intOf i).toNat)
    case atStart => exact ⟨0, by omega, rfl, HB2.out, Nat.le_refl _, HF.out, 0, Nat.le_refl _, HST2.out, fun g hg => by simp [Value.ownBlock] at hg; exact .inl hg.symm⟩
    case round =>
      clear HST2 HF
      obtain ⟨t, ht, rfl, hinv⟩ := hrel
      have HINV := Lib.hid hinv
      obtain ⟨hbw, hsw, hbl, k, hkt, hown, hog⟩ := hinv
      obtain ⟨Ao, co, rfl, hko⟩ := own_form2 hown
      have HOWN := Lib.hid hown
      have HBW := Lib.hid hbw
      by_cases hlt : t < 4
      · have hst := ascTo_succ (L := L) hlt
        obtain ⟨bc, hbc⟩ : ∃ bc, (L.any fun y => y == (t : Int)) = bc := ⟨_, rfl⟩
        have hc := hasInt_any B m d L (t : Int) wr hbl
        rw [hbc] at hst hc
        have HS := Lib.hid hst
        have HC := Lib.hid hc
        have HBL := Lib.hid hbl
        have HOG := Lib.hid hog
        have l1 : (t : Int) < 4 := by omega
        clear hst hbc hc hown hbw hbl hog
        cases bc
        · go_wp2_with fail
          refine HC.out.mono ?_
          rintro e w3 ⟨rfl, hb3⟩
          go_wp2_with fail
          go_roundw
          case rel => exact ⟨t + 1, by omega, by go_num, HINV.out.below_ hb3 HS.out⟩
          case measure => simp [intOf]; omega
        · go_wp2_with fail
          refine HC.out.mono ?_
          rintro e w3 ⟨rfl, hb3⟩
          have HO3 := Lib.hid ((own_below HOWN.out hb3).alloc (.cells #[.int .i64 (t : Int)] 3))
          have hb3' : Below wr.heap.size wr (w3.alloc (.cells #[.int .i64 (t : Int)] 3)) := hb3.alloc hb3.size _
          have hs3 := hb3'.size
          have hw1 := HBW.out.size
          go_wp2_with (at_builtin; refine app_ints (.tmp 19) (.tmp 21) HO3.out (by omega) (lit1 rfl (t : Int)) (by omega) rfl rfl rfl rfl ?_; intro v4 w4 hown4 hg4 hat4)
          have hn : LstInv w1 w2 B m L (t + 1) v4 w4 := by
            have hgs := World.grownBy.size hg4
            refine ⟨Below.own (HBW.out.trans (hb3'.mono hw1)) HO3.out (Nat.le_refl _) hg4, by omega, ?_, k + 1, by omega, by rw [HS.out]; exact hown4, fun g hg => ?_⟩
            · refine (HBL.out.below hb3' (Nat.le_refl _)).kept hgs fun ad had => ?_
              have hbb := HBB.out ad had
              refine hg4.block _ (by omega) fun e => ?_
              have := HOG.out _ e.symm
              omega
            · rcases hat4 with h | h
              · rw [h] at hg; exact HOG.out g hg
              · rw [h] at hg; injection hg with hg; exact .inr (by omega)
          have HN := Lib.hid hn
          clear hn hown4 hg4 hat4 hb3'
          go_wp2_with fail
          go_roundw
          case rel => exact ⟨t + 1, by omega, by go_num, HN.out⟩
          case measure => simp [intOf]; omega
      · obtain rfl : t = 4 := by omega
        rw [ascTo_four] at hown
        have hri := RInts.of_own hown (by omega)
        have hlk := hri.1
        have hk4 : k ≤ 4 := by have := ascOf_len L; omega
        have hb0w := hb.trans (hbw.mono hs1)
        have hV : Hid (∀ W c', ROps W A n s → Calls Try.prog 87 #[.slice A n c'] W (RetInts W (rowsI (vgS s)))) := fun W c' h => sversionGraph_any A n c' s W h HV.out
        have hok : Rows4 (vgS s) := vgS_ok HV.out
        have HOK := Lib.hid hok
        have HRL : Hid ((rowsI (vgS s)).length = 4) := by show _ = _; simp [rowsI, hok.1]
        have HRNG := Lib.hid (ascOf_rng L)
        have HRI := Lib.hid hri
        have HB0 := Lib.hid hb0w
        have HX2 := Lib.hid (HX.out.below hb0w (Nat.le_refl _))
        rw [hlk] at HSS
        clear hok hri hb0w hown hbw hbl hog HOWN HINV HBW hlk
        generalize vgS s = R at *
        generalize ascOf L = asc at *
        go_wp2_with fail
        refine (hV.out wr c HX2.out).mono ?_
        rintro e w5 ⟨C, rc, rfl, hrc, ⟨hr5, _⟩, hb5⟩
        rw [HRL.out] at hr5 hrc
        rw [HRL.out]
        have ha5 : Below w5.heap.size w5 (w5.alloc (.cells #[] 3)) := (Below.refl _ _).alloc (Nat.le_refl _) _
        have HT : Hid (TopAt Ao (some ⟨w5.heap.size, 0, none⟩) C k 0 asc [] R (w5.alloc (.cells #[] 3))) := ⟨(HRI.out.below hb5 (Nat.le_refl _)).below ha5 (Nat.le_refl _), RInts.nil, hr5.below ha5 (Nat.le_refl _)⟩
        have HB5 : Hid (Below w.heap.size w (w5.alloc (.cells #[] 3))) := (HB0.out.trans (hb5.mono HB0.out.size)).trans (ha5.mono (HB0.out.trans (hb5.mono HB0.out.size)).size)
        have HTOP := Lib.hid (top_any k Ao (some ⟨w5.heap.size, 0, none⟩) C k co 0 0 rc asc [] R _ HT.out HOK.out HRNG.out hk4 (by omega))
        rw [← HSS.out] at HTOP
        clear hr5 hb5 ha5 HT
        go_wp2_with fail
        refine HTOP.out.mono ?_
        intro e w6 hret
        obtain ⟨A6, c6, rv, rfl, h2, h3, h4, h6⟩ := hret
        have HR : Hid (RetLists w (snapS s) (.returned (.slice A6 (snapS s).length c6)) w6) := by
          have hs := HB5.out.size
          exact ⟨A6, c6, rv, rfl, h2, ⟨h3.1, fun ad had => by obtain ⟨b, cur, e1, e2, e3⟩ := h3.2 ad had; exact ⟨b, cur, e1, by omega, e3⟩⟩, h4.since hs, HB5.out.trans (h6.mono hs)⟩
        clear h2 h3 h4 h6 HTOP
        go_wp2_with fail
        go_ret
        rw [HV.out]
        exact HR.out
end Go.Proofs.Ytofcpfabjfhjoaa
namespace Go.Proofs.Ytofcpfabjfhjoaa
open Go.RowKit Go.BigFrame
set_option linter.unusedVariables false

set_option maxHeartbeats 400000 in
theorem szOpS_any (A : Option Addr) (n c : Nat) (left : Int) (w : World) (h0 : 0 ≤ left) (h1 : left ≤ 1048576) (hn : n ≤ 9223372036854775807) :
    Calls Try.prog 25 #[.slice A n c, .int .i64 left] w fun e w' => e = .returned (.int .i64 (if left < n then -1 else left - n)) ∧ w = w' := by
  by_cases hl : left < n
  · rw [if_pos hl]
    go_enter Try.func25, Try.ntmps25
    go_wp2_with fail
    go_ret
    exact ⟨rfl, rfl⟩
  · rw [if_neg hl]
    go_enter Try.func25, Try.ntmps25
    go_wp2_with fail
    go_ret
    exact ⟨rfl, rfl⟩

set_option maxHeartbeats 400000 in
theorem toOp_any (o : OpV) (w : World) :
    Calls Try.prog 81 #[o.val] w fun e w' => e = .returned o.val ∧ Below w.heap.size w w' := by
  obtain ⟨t, k, x⟩ := o
  unfold OpV.val
  go_enter Try.func81, Try.ntmps81
  go_wp2_with fail
  (try simp only [Exit.inBlock, Exit.then])
  refine bodyPost_ret (v := .agg #[.int .i64 t, .int .i64 k, .int .i64 x]) (by simp [results, Try.results81, go_sem]) rfl ?_
  exact ⟨rfl, by (repeat (first | exact Below.refl _ _ | assumption | refine B_alloc ?_ (Nat.le_refl _) _ | refine Below.drew ?_ | refine B_drewN ?_ _ | refine B_after (by assumption) ?_ | (refine B_set ?_ ?_; rotate_left; (first | exact Nat.le_refl _ | (simp; done) | (simp at *; omega)))))⟩

set_option maxHeartbeats 400000 in
theorem eqOp_any (o p : OpV) (w : World) :
    Calls Try.prog 86 #[o.val, p.val] w fun e w' => e = .returned (.bool (o == p)) ∧ Below w.heap.size w w' := by
  obtain ⟨t, k, x⟩ := o
  obtain ⟨t', k', x'⟩ := p
  unfold OpV.val
  have hq : Hid (((⟨t, k, x⟩ : OpV) == ⟨t', k', x'⟩) = (t == t' && k == k' && x == x')) := by
    show _ = _
    rw [Bool.eq_iff_iff]; simp [and_assoc]
  by_cases h1 : t = t' <;> by_cases h2 : k = k' <;> by_cases h3 : x = x'
  all_goals
    go_enter Try.func86, Try.ntmps86
    go_wp2_with fail
    go_ret
    exact ⟨ret_bool (by rw [hq.out]; simp [h1, h2, h3]), by (repeat (first | exact Below.refl _ _ | assumption | refine B_alloc ?_ (Nat.le_refl _) _ | refine Below.drew ?_ | refine B_drewN ?_ _ | refine B_after (by assumption) ?_ | (refine B_set ?_ ?_; rotate_left; (first | exact Nat.le_refl _ | (simp; done) | (simp at *; omega)))))⟩

set_option maxRecDepth 100000 in
set_option maxHeartbeats 1000000 in
theorem toOpS_any (A : Option Addr) (n c : Nat) (s : List OpV) (w : World) (hx : ROps w A n s) (hm : n ≤ 1048576) :
    Calls Try.prog 27 #[.slice A n c] w (RetOps w s) := by
  have hl := hx.1
  have HX := Lib.hid hx
  clear hx
  obtain ⟨i0, hi, hz0, hz1, hz2⟩ := info_parts opInfo
  go_enter Try.func27, Try.ntmps27
  go_wp2_with (at_make; refine wpList_make_full _ rfl _ _ 23 rfl w.heap.size 46 i0 _ 3 Try.underlying23 hi hz0 hz1 .i64 .i64 _ _ n rfl rfl rfl rfl (by rw [hz2]; omega) (by unfold maxLen; omega) (Nat.le_refl _) ?_; intro w1 hown1 hg1)
  have hb1 : Below w.heap.size w w1 := ⟨hg1.os, hg1.tape, hg1.output, hg1.size, fun k hk => hg1.block k hk (by simp)⟩
  have hrow : ∃ cur : Array Value, w1.heap[w.heap.size]? = some (.cells cur 46 (0, 0)) ∧ cur.toList = opCells (List.replicate n OpV.zero) := by
    rcases hown1.2 with ⟨h1, _⟩ | ⟨g, cap, cur, h1, h2, h3, h4, h5, h6, h7⟩
    · cases h1
    · injection h1 with ha hb hc
      injection ha with ha
      injection ha with ha
      subst ha; subst hc
      refine ⟨cur, h3, ?_⟩
      rw [opCells_zero]
      have : cur.toList = cur.toList.take (n * 3) := by rw [List.take_of_length_le (by simpa using Nat.le_of_eq h6)]
      rw [this, h7]
      apply List.ext_getElem?
      intro j
      rw [List.getElem?_replicate]
      split
      · rename_i hj
        rw [List.getElem?_eq_getElem (by simpa [size_madeCells] using hj)]
        simp only [madeCells, Array.getElem_toList, Array.getElem_map, Array.getElem_range]
        congr 1
        show (#[Value.int .i64 0, .int .i64 0, .int .i64 0] : Array Value)[j % 3]! = _
        rcases (by omega : j % 3 = 0 ∨ j % 3 = 1 ∨ j % 3 = 2) with e | e | e <;> rw [e] <;> rfl
      · rename_i hj
        rw [List.getElem?_eq_none (by simpa [size_madeCells] using hj)]
  have HST : Hid (RowIs w1 w.heap.size 46 (opCells (s.take 0 ++ List.replicate n OpV.zero) ++ []) ∧ Below w.heap.size w w1) := by
    obtain ⟨cur, h1, h2⟩ := hrow
    refine ⟨?_, hb1⟩
    unfold RowIs
    rw [h1]
    simp [← h2]
  clear hown1 hb1 hg1 hrow hi hz0 hz1 hz2
  go_loopw [4] (fun i wr => ∃ k : Nat, k ≤ n ∧ i = .int .i64 k ∧ Below w.heap.size w wr ∧ RowIs wr w.heap.size 46 (opCells (s.take k ++ List.replicate (n - k) OpV.zero) ++ [])) (fun i _ => n - (intOf i).toNat)
  case atStart => exact ⟨0, Nat.zero_le _, rfl, HST.out.2, HST.out.1⟩
  case round =>
    clear HST
    obtain ⟨wo, rfl⟩ : ∃ wo : World, wo = wr := ⟨_, rfl⟩
    obtain ⟨k, hk, rfl, hb, hrow⟩ := hrel
    by_cases hlt : k < n
    · obtain ⟨b, off, o, rfl, hbl, ho, c0, c1, c2⟩ := (HX.out.below hb (Nat.le_refl _)).at_ hlt
      have hs := hb.size
      have hC : ∀ W, Calls Try.prog 81 #[.agg #[.int .i64 o.tx, .int .i64 o.kind, .int .i64 o.item]] W fun e w' => e = .returned (.agg #[.int .i64 o.tx, .int .i64 o.kind, .int .i64 o.item]) ∧ Below W.heap.size W w' := toOp_any o
      have HC := Lib.hid hC
      have hlen : k < (s.take k ++ List.replicate (n - k) OpV.zero).length := by simp; omega
      have HE : Hid ((s.take k ++ List.replicate (n - k) OpV.zero).set k o = s.take (k + 1) ++ List.replicate (n - (k + 1)) OpV.zero) := by
        show _ = _
        rw [show n - k = (n - (k + 1)) + 1 by omega, set_snoc _ _ _ _ _ ho]
      have HR := Lib.hid hrow
      clear ho hC hrow
      obtain ⟨tx, kd, it⟩ := o
      go_wp2_with fail
      refine (HC.out _).mono ?_
      rintro e w2 ⟨rfl, hb2⟩
      have hrow2 := HR.out.below hb2 (Nat.le_refl _)
      have HR2 := Lib.hid hrow2
      have hbw := hb.trans (hb2.mono hs)
      clear hrow2
      go_wp2_with (refine store_op (.tmp 21) (.tmp 20) ⟨tx, kd, it⟩ HR2.out hlen rfl rfl rfl rfl ?_; intro w3 hrow3 hg3; rw [HE.out] at hrow3)
      go_roundw
      case rel => exact ⟨k + 1, by omega, by go_num, hbw.grown hg3 hbw.size (fun q hq => by injection hq with hq; omega), hrow3⟩
      case measure => simp [intOf]; omega
    · obtain rfl : k = n := by omega
      have e : s.take k ++ List.replicate (k - k) OpV.zero = s := by rw [Nat.sub_self, List.take_of_length_le (by omega)]; simp
      rw [e] at hrow
      have hlt2 := hrow.lt
      have HO : Hid (RetOps w s (.returned (.slice (some ⟨w.heap.size, 0, none⟩) k k)) wo) := by
        refine RetOps.mk hl (Nat.le_refl _) ⟨hrow.ops hl (by omega), fun ad had => ?_⟩ hb
        injection had with had
        subst had
        exact ⟨_, _, rfl, Nat.le_refl _, hrow, by simp [length_opCells]; omega⟩
      clear hrow e
      go_wp2_with fail
      go_ret
      exact HO.out
end Go.Proofs.Ytofcpfabjfhjoaa
namespace Go.Proofs.Ytofcpfabjfhjoaa
open Go.RowKit Go.BigFrame
set_option linter.unusedVariables false

set_option maxHeartbeats 400000 in
theorem eqIntS_any (A B : Option Addr) (n m c d : Nat) (xs ys : List Int) (w : World) (hx : RInts w A n xs) (hy : RInts w B m ys) :
    Calls Try.prog 29 #[.slice A n c, .slice B m d] w fun e w' => e = .returned (.bool (xs == ys)) ∧ Below w.heap.size w w' := by
  have hn := hx.2.1
  have hl := hx.1
  have hm := hy.2.1
  have hly := hy.1
  have HX := Lib.hid hx
  have HY := Lib.hid hy
  clear hx hy
  by_cases hnm : n = m
  · subst hnm
    go_enter Try.func29, Try.ntmps29
    go_wp2_with fail
    go_loopw [5] (fun i wr => ∃ k : Nat, k ≤ n ∧ i = .int .i64 k ∧ Below w.heap.size w wr ∧ ∀ j, j < k → xs[j]? = ys[j]?) (fun i _ => n - (intOf i).toNat)
    case atStart => exact ⟨0, Nat.zero_le _, rfl, Below.refl _ _, by omega⟩
    case round =>
      obtain ⟨k, hk, rfl, hb, hno⟩ := hrel
      by_cases hlt : k < n
      · obtain ⟨b, off, x, rfl, hbl, hox, c0⟩ := (HX.out.below hb (Nat.le_refl _)).at_ hlt
        obtain ⟨b', off', y, rfl, hbl', hoy, d0⟩ := (HY.out.below hb (Nat.le_refl _)).at_ hlt
        have HN : Hid (x = y → ∀ j, j < k + 1 → xs[j]? = ys[j]?) := fun h j hj => by
          by_cases e : j = k
          · subst e; rw [hox, hoy, h]
          · exact hno j (by omega)
        have HT : Hid (¬ x = y → (xs == ys) = false) := fun h => by
          rw [beq_eq_false_iff_ne]
          intro e
          rw [e, hoy] at hox
          injection hox with hox
          exact h hox.symm
        have L0 := Later.cell c0
        have M0 := Later.cell d0
        have hki : (k : Int) < (n : Int) := by omega
        clear hno hox hoy c0 d0
        by_cases h1 : x = y
        · have hs := Lib.hid (HN.out h1)
          subst h1
          go_wp2_with fail
          refine region_later (by kernel_rfl) (by kernel_rfl) ?_
          repeat (go_big_quiet_step (fail))
          refine wpQuiet_nil ?_
          rintro _ ⟨u, rfl⟩
          have hbu := hb.trans (u.2.mono hb.size)
          go_wp2_with fail
          go_roundw
          case rel => exact ⟨k + 1, by omega, by go_num, hbu, hs.out⟩
          case measure => simp [intOf]; omega
        · have hs := Lib.hid (HT.out h1)
          have h1' : (x != y) = true := by simpa using h1
          go_wp2_with fail
          refine region_later (by kernel_rfl) (by kernel_rfl) ?_
          repeat (go_big_quiet_step (fail))
          refine wpQuiet_nil ?_
          rintro _ ⟨u, rfl⟩
          have hbu := hb.trans (u.2.mono hb.size)
          go_wp2_with fail
          go_ret
          exact ⟨ret_bool hs.out.symm, hbu⟩
      · have hs : Hid ((xs == ys) = true) := by
          show _ = _
          rw [beq_iff_eq]
          exact eq_of_get (by omega) (fun j hj => hno j (by omega))
        clear hno
        go_wp2_with fail
        go_ret
        exact ⟨ret_bool hs.out.symm, hb⟩
  · have hs : Hid ((xs == ys) = false) := by
      show _ = _
      rw [beq_eq_false_iff_ne]
      intro e
      rw [e] at hl
      omega
    go_enter Try.func29, Try.ntmps29
    go_wp2_with fail
    go_ret
    exact ⟨ret_bool hs.out.symm, Below.refl _ _⟩


set_option maxHeartbeats 1000000 in
theorem eqOpS_any (A B : Option Addr) (n m c d : Nat) (xs ys : List OpV) (w : World) (hx : ROps w A n xs) (hy : ROps w B m ys) :
    Calls Try.prog 30 #[.slice A n c, .slice B m d] w fun e w' => e = .returned (.bool (xs == ys)) ∧ Below w.heap.size w w' := by
  have hn := hx.2.1
  have hl := hx.1
  have hm := hy.2.1
  have hly := hy.1
  have HX := Lib.hid hx
  have HY := Lib.hid hy
  clear hx hy
  by_cases hnm : n = m
  · subst hnm
    go_enter Try.func30, Try.ntmps30
    go_wp2_with fail
    go_loopw [5] (fun i wr => ∃ k : Nat, k ≤ n ∧ i = .int .i64 k ∧ Below w.heap.size w wr ∧ ∀ j, j < k → xs[j]? = ys[j]?) (fun i _ => n - (intOf i).toNat)
    case atStart => exact ⟨0, Nat.zero_le _, rfl, Below.refl _ _, by omega⟩
    case round =>
      obtain ⟨k, hk, rfl, hb, hno⟩ := hrel
      by_cases hlt : k < n
      · obtain ⟨b, off, x, rfl, hbl, hox, c0, c1, c2⟩ := (HX.out.below hb (Nat.le_refl _)).at_ hlt
        obtain ⟨b', off', y, rfl, hbl', hoy, d0, d1, d2⟩ := (HY.out.below hb (Nat.le_refl _)).at_ hlt
        have HN : Hid (x = y → ∀ j, j < k + 1 → xs[j]? = ys[j]?) := fun h j hj => by
          by_cases e : j = k
          · subst e; rw [hox, hoy, h]
          · exact hno j (by omega)
        have HT : Hid (¬ x = y → (xs == ys) = false) := fun h => by
          rw [beq_eq_false_iff_ne]
          intro e
          rw [e, hoy] at hox
          injection hox with hox
          exact h hox.symm
        have L0 := Later.cell c0
        have L1 := Later.cell c1
        have L2 := Later.cell c2
        have M0 := Later.cell d0
        have M1 := Later.cell d1
        have M2 := Later.cell d2
        have hki : (k : Int) < (n : Int) := by omega
        obtain ⟨bb, hbb⟩ : ∃ bb, (x == y) = bb := ⟨_, rfl⟩
        have hC : ∀ u : Later wr, Calls Try.prog 86 #[.agg #[.int .i64 x.tx, .int .i64 x.kind, .int .i64 x.item], .agg #[.int .i64 y.tx, .int .i64 y.kind, .int .i64 y.item]] u.1 fun e w' => e = .returned (.bool bb) ∧ Below u.1.heap.size u.1 w' := fun u => by
          have := eqOp_any x y u.1; rw [hbb] at this; exact this
        have HC := Lib.hid hC
        have HB := Lib.hid hbb
        clear hno hox hoy c0 c1 c2 d0 d1 d2 hC hbb
        cases bb
        · have hs := Lib.hid (HT.out (by simpa using HB.out))
          obtain ⟨x0, x1, x2⟩ := x
          obtain ⟨y0, y1, y2⟩ := y
          go_wp2_with fail
          refine region_later (by kernel_rfl) (by kernel_rfl) ?_
          repeat (go_big_quiet_step ((go_at_call 86; exact later_call _ (HC.out _))))
          refine wpQuiet_nil ?_
          rintro _ ⟨u, rfl⟩
          have hbu := hb.trans (u.2.mono hb.size)
          go_wp2_with fail
          go_ret
          exact ⟨ret_bool hs.out.symm, hbu⟩
        · have hs := Lib.hid (HN.out (by simpa using HB.out))
          obtain ⟨x0, x1, x2⟩ := x
          obtain ⟨y0, y1, y2⟩ := y
          go_wp2_with fail
          refine region_later (by kernel_rfl) (by kernel_rfl) ?_
          repeat (go_big_quiet_step ((go_at_call 86; exact later_call _ (HC.out _))))
          refine wpQuiet_nil ?_
          rintro _ ⟨u, rfl⟩
          have hbu := hb.trans (u.2.mono hb.size)
          go_wp2_with fail
          go_roundw
          case rel => exact ⟨k + 1, by omega, by go_num, hbu, hs.out⟩
          case measure => simp [intOf]; omega
      · have hs : Hid ((xs == ys) = true) := by
          show _ = _
          rw [beq_iff_eq]
          exact eq_of_get (by omega) (fun j hj => hno j (by omega))
        clear hno
        go_wp2_with fail
        go_ret
        exact ⟨ret_bool hs.out.symm, hb⟩
  · have hs : Hid ((xs == ys) = false) := by
      show _ = _
      rw [beq_eq_false_iff_ne]
      intro e
      rw [e] at hl
      omega
    go_enter Try.func30, Try.ntmps30
    go_wp2_with fail
    go_ret
    exact ⟨ret_bool hs.out.symm, Below.refl _ _⟩

/-- The marks that are laid into a list. -/
def mkOps (k : Int) : Nat → List OpV
  | 0 => []
  | n + 1 => mkOps k n ++ [⟨k + 3 * n, k + 3 * n + 1, k + 3 * n + 2⟩]
def mkInts (k : Int) : Nat → List Int
  | 0 => []
  | n + 1 => mkInts k n ++ [k + n]
theorem mkOps_len (k : Int) (n : Nat) : (mkOps k n).length = n := by induction n with
  | zero => rfl
  | succ n ih => simp [mkOps, ih]
theorem mkInts_len (k : Int) (n : Nat) : (mkInts k n).length = n := by induction n with
  | zero => rfl
  | succ n ih => simp [mkInts, ih]
theorem mkOps_at (k : Int) (n : Nat) : ∀ i, i < n → (mkOps k n)[i]? = some ⟨k + 3 * i, k + 3 * i + 1, k + 3 * i + 2⟩ := by
  induction n with
  | zero => intro i h; omega
  | succ n ih =>
    intro i h
    simp only [mkOps]
    by_cases e : i = n
    · subst e; rw [List.getElem?_append_right (by rw [mkOps_len]; omega), mkOps_len]; simp
    · rw [List.getElem?_append_left (by rw [mkOps_len]; omega)]; exact ih i (by omega)
theorem mkInts_at (k : Int) (n : Nat) : ∀ i, i < n → (mkInts k n)[i]? = some (k + i) := by
  induction n with
  | zero => intro i h; omega
  | succ n ih =>
    intro i h
    simp only [mkInts]
    by_cases e : i = n
    · subst e; rw [List.getElem?_append_right (by rw [mkInts_len]; omega), mkInts_len]; simp
    · rw [List.getElem?_append_left (by rw [mkInts_len]; omega)]; exact ih i (by omega)
theorem set_mid {α : Type} {zs xs : List α} {k : Nat} (hl : zs.length = k) (hk : k < xs.length) (v : α) : (zs ++ xs.drop k).set k v = (zs ++ [v]) ++ xs.drop (k + 1) := by
  rw [List.set_append_right _ _ (by omega), hl, Nat.sub_self, List.drop_eq_getElem_cons hk, List.set_cons_zero, List.append_assoc]; rfl

def MarkedOps (A : Option Addr) (n : Nat) (k : Int) (w : World) (e : Ending) (w' : World) : Prop :=
  e = .returned (.int .i64 (k + 3 * n)) ∧ ROps w' A n (mkOps k n) ∧ w.grownBy w' (A.map Addr.block)
def MarkedInts (A : Option Addr) (n : Nat) (k : Int) (w : World) (e : Ending) (w' : World) : Prop :=
  e = .returned (.int .i64 (k + n)) ∧ RInts w' A n (mkInts k n) ∧ w.grownBy w' (A.map Addr.block)

set_option maxRecDepth 100000 in
set_option maxHeartbeats 1000000 in
theorem markIntS_any (A : Option Addr) (n c : Nat) (xs : List Int) (k0 : Int) (w0 w : World) (hx : FreshInts w0 w A n xs) (h0 : 0 ≤ k0) (h1 : k0 ≤ 1099511627776) :
    Calls Try.prog 32 #[.slice A n c, .int .i64 k0] w (MarkedInts A n k0 w) := by
  have hn := hx.1.2.1
  have hl := hx.1.1
  rcases Nat.eq_zero_or_pos n with hz | hz
  · subst hz
    clear hx
    go_enter Try.func32, Try.ntmps32
    go_wp2_with fail
    go_loopw [1, 5] (fun kv i wr => i = .int .i64 0 ∧ kv = .int .i64 k0 ∧ wr = w) (fun _ _ _ => 0)
    case atStart => exact ⟨rfl, rfl, rfl⟩
    case round =>
      obtain ⟨rfl, rfl, rfl⟩ := hrel
      go_wp2_with fail
      go_ret
      exact ⟨ret_int (by simp), RInts.nil, World.grownBy.refl _ _⟩
  · obtain ⟨g, rest, rfl, hge, hrow⟩ := hx.row hz
    have HST : Hid (RowIs w g 3 (intCells (mkInts k0 0 ++ xs.drop 0) ++ rest)) := by (show RowIs _ _ _ _); simpa [mkInts] using hrow
    clear hx hrow
    go_enter Try.func32, Try.ntmps32
    go_wp2_with fail
    go_loopw [1, 5] (fun kv i wr => ∃ k : Nat, k ≤ n ∧ i = .int .i64 k ∧ kv = .int .i64 (k0 + k) ∧ w.grownBy wr (some g) ∧ RowIs wr g 3 (intCells (mkInts k0 k ++ xs.drop k) ++ rest)) (fun _ i _ => n - (intOf i).toNat)
    case atStart => exact ⟨0, Nat.zero_le _, rfl, by simp, World.grownBy.refl _ _, HST.out⟩
    case round =>
      clear HST
      obtain ⟨k, hk, rfl, rfl, hg, hrow⟩ := hrel
      by_cases hlt : k < n
      · have hr2 := row_setInt (v := k0 + k) (k := k) hrow (by simp [mkInts_len]; omega)
        rw [set_mid (mkInts_len k0 k) (by omega)] at hr2
        obtain ⟨v, hv⟩ : ∃ v, wr.cell? ⟨g, k, none⟩ = some v := ⟨_, hrow.cell (List.getElem?_eq_getElem (by simp [intCells, mkInts_len]; omega))⟩
        have hfz := hrow.frozen k
        have HR := Lib.hid hr2
        clear hrow hr2
        go_wp2_with fail
        go_roundw
        case rel => exact ⟨k + 1, by omega, by go_num, by first | (congr 1; omega) | go_num, hg.trans grown_set, HR.out⟩
        case measure => simp [intOf]; omega
      · obtain rfl : k = n := by omega
        have HF : Hid (RInts wr (some ⟨g, 0, none⟩) k (mkInts k0 k)) := RowIs.ints (rest := rest) (by simpa [List.drop_of_length_le (show xs.length ≤ k by omega)] using hrow) (mkInts_len _ _) hn
        clear hrow
        go_wp2_with fail
        go_ret
        exact ⟨rfl, HF.out, hg⟩

set_option maxRecDepth 100000 in
set_option maxHeartbeats 1000000 in
theorem markOpS_any (A : Option Addr) (n c : Nat) (xs : List OpV) (k0 : Int) (w0 w : World) (hx : FreshOps w0 w A n xs) (h0 : 0 ≤ k0) (h1 : k0 ≤ 1099511627776) :
    Calls Try.prog 31 #[.slice A n c, .int .i64 k0] w (MarkedOps A n k0 w) := by
  have hn := hx.1.2.1
  have hl := hx.1.1
  rcases Nat.eq_zero_or_pos n with hz | hz
  · subst hz
    clear hx
    go_enter Try.func31, Try.ntmps31
    go_wp2_with fail
    go_loopw [1, 5] (fun kv i wr => i = .int .i64 0 ∧ kv = .int .i64 k0 ∧ wr = w) (fun _ _ _ => 0)
    case atStart => exact ⟨rfl, rfl, rfl⟩
    case round =>
      obtain ⟨rfl, rfl, rfl⟩ := hrel
      go_wp2_with fail
      go_ret
      exact ⟨ret_int (by simp), ROps.nil, World.grownBy.refl _ _⟩
  · obtain ⟨g, rest, rfl, hge, hrow⟩ := hx.row hz
    have HST : Hid (RowIs w g 46 (opCells (mkOps k0 0 ++ xs.drop 0) ++ rest)) := by (show RowIs _ _ _ _); simpa [mkOps] using hrow
    clear hx hrow
    go_enter Try.func31, Try.ntmps31
    go_wp2_with fail
    go_loopw [1, 5] (fun kv i wr => ∃ k : Nat, k ≤ n ∧ i = .int .i64 k ∧ kv = .int .i64 (k0 + 3 * k) ∧ w.grownBy wr (some g) ∧ RowIs wr g 46 (opCells (mkOps k0 k ++ xs.drop k) ++ rest)) (fun _ i _ => n - (intOf i).toNat)
    case atStart => exact ⟨0, Nat.zero_le _, rfl, by simp, World.grownBy.refl _ _, HST.out⟩
    case round =>
      clear HST
      obtain ⟨k, hk, rfl, rfl, hg, hrow⟩ := hrel
      by_cases hlt : k < n
      · have hlen : (opCells (mkOps k0 k ++ xs.drop k)).length = n * 3 := by rw [length_opCells]; simp [mkOps_len]; omega
        have hr1 := hrow.set (k * 3) (.int .i64 (k0 + 3 * k))
        have hr2 := hr1.set (k * 3 + 1) (.int .i64 (k0 + 3 * k + 1))
        have hr3 := hr2.set (k * 3 + 2) (.int .i64 (k0 + 3 * k + 1 + 1))
        obtain ⟨v0, z0⟩ : ∃ v, wr.cell? ⟨g, k * 3, none⟩ = some v := ⟨_, hrow.cell (List.getElem?_eq_getElem (by simp [hlen]; omega))⟩
        obtain ⟨v1, z1⟩ : ∃ v, (wr.setCell ⟨g, k * 3, none⟩ (.int .i64 (k0 + 3 * k))).cell? ⟨g, k * 3 + 1, none⟩ = some v := ⟨_, hr1.cell (List.getElem?_eq_getElem (by simp [hlen]; omega))⟩
        obtain ⟨v2, z2⟩ : ∃ v, ((wr.setCell ⟨g, k * 3, none⟩ (.int .i64 (k0 + 3 * k))).setCell ⟨g, k * 3 + 1, none⟩ (.int .i64 (k0 + 3 * k + 1))).cell? ⟨g, k * 3 + 2, none⟩ = some v := ⟨_, hr2.cell (List.getElem?_eq_getElem (by simp [hlen]; omega))⟩
        have f0 := hrow.frozen (k * 3)
        have f1 := hr1.frozen (k * 3 + 1)
        have f2 := hr2.frozen (k * 3 + 2)
        have HR : Hid (RowIs (((wr.setCell ⟨g, k * 3, none⟩ (.int .i64 (k0 + 3 * k))).setCell ⟨g, k * 3 + 1, none⟩ (.int .i64 (k0 + 3 * k + 1))).setCell ⟨g, k * 3 + 2, none⟩ (.int .i64 (k0 + 3 * k + 1 + 1))) g 46 (opCells (mkOps k0 (k + 1) ++ xs.drop (k + 1)) ++ rest)) := by
          have h4 := hr3
          rw [List.set_append_left _ _ (by omega), List.set_append_left _ _ (by simp; omega), List.set_append_left _ _ (by simp; omega)] at h4
          have e := opCells_put (mkOps k0 k ++ xs.drop k) k ⟨k0 + 3 * k, k0 + 3 * k + 1, k0 + 3 * k + 1 + 1⟩
          rw [set_mid (mkOps_len k0 k) (by omega)] at e
          rw [← e] at h4
          have e2 : k0 + 3 * (k : Int) + 1 + 1 = k0 + 3 * k + 2 := by omega
          rw [e2] at h4
          rw [e2]
          exact h4
        clear hrow hr1 hr2 hr3 hlen
        go_wp2_with fail
        go_roundw
        case rel => exact ⟨k + 1, by omega, by go_num, by first | (congr 1; omega) | go_num, ((hg.trans grown_set).trans grown_set).trans grown_set, HR.out⟩
        case measure => simp [intOf]; omega
      · obtain rfl : k = n := by omega
        have HF : Hid (ROps wr (some ⟨g, 0, none⟩) k (mkOps k0 k)) := RowIs.ops (rest := rest) (by simpa [List.drop_of_length_le (show xs.length ≤ k by omega)] using hrow) (mkOps_len _ _) hn
        clear hrow
        go_wp2_with fail
        go_ret
        exact ⟨rfl, HF.out, hg⟩

set_option maxHeartbeats 400000 in
theorem heldIntS_any (A : Option Addr) (n c : Nat) (k0 : Int) (w : World) (hx : RInts w A n (mkInts k0 n)) (h0 : 0 ≤ k0) (h1 : k0 ≤ 1099511627776) :
    Calls Try.prog 33 #[.slice A n c, .int .i64 k0] w fun e w' => e = .returned (.int .i64 (k0 + n)) ∧ Below w.heap.size w w' := by
  have hn := hx.2.1
  have HX := Lib.hid hx
  clear hx
  go_enter Try.func33, Try.ntmps33
  go_wp2_with fail
  go_loop [1, 5] (fun kv i => ∃ k : Nat, k ≤ n ∧ i = .int .i64 k ∧ kv = .int .i64 (k0 + k)) (fun _ i => n - (intOf i).toNat)
  case atStart => exact ⟨0, Nat.zero_le _, rfl, by simp⟩
  case round =>
    obtain ⟨k, hk, rfl, rfl⟩ := hrel
    by_cases hlt : k < n
    · obtain ⟨b, off, y, rfl, hbl, ho, c0⟩ := HX.out.at_ hlt
      rw [mkInts_at k0 n k hlt] at ho
      injection ho with ho
      subst ho
      go_wp2_with fail
      go_round
      case rel => exact ⟨k + 1, by omega, by go_num, by first | (congr 1; omega) | go_num⟩
      case measure => simp [intOf]; omega
    · obtain rfl : k = n := by omega
      go_wp2_with fail
      go_ret
      exact ⟨rfl, Below.refl _ _⟩

set_option maxHeartbeats 400000 in
theorem heldOpS_any (A : Option Addr) (n c : Nat) (k0 : Int) (w : World) (hx : ROps w A n (mkOps k0 n)) (h0 : 0 ≤ k0) (h1 : k0 ≤ 1099511627776) :
    Calls Try.prog 60 #[.slice A n c, .int .i64 k0] w fun e w' => e = .returned (.int .i64 (k0 + 3 * n)) ∧ Below w.heap.size w w' := by
  have hn := hx.2.1
  have HX := Lib.hid hx
  clear hx
  go_enter Try.func60, Try.ntmps60
  go_wp2_with fail
  go_loop [1, 5] (fun kv i => ∃ k : Nat, k ≤ n ∧ i = .int .i64 k ∧ kv = .int .i64 (k0 + 3 * k)) (fun _ i => n - (intOf i).toNat)
  case atStart => exact ⟨0, Nat.zero_le _, rfl, by simp⟩
  case round =>
    obtain ⟨k, hk, rfl, rfl⟩ := hrel
    by_cases hlt : k < n
    · obtain ⟨b, off, y, rfl, hbl, ho, c0, c1, c2⟩ := HX.out.at_ hlt
      rw [mkOps_at k0 n k hlt] at ho
      injection ho with ho
      subst ho
      have e2 : k0 + 3 * (k : Int) + 2 = k0 + 3 * k + 1 + 1 := by omega
      simp only [e2] at c2
      go_wp2_with fail
      go_round
      case rel => exact ⟨k + 1, by omega, by go_num, by first | (congr 1; omega) | go_num⟩
      case measure => simp [intOf]; omega
    · obtain rfl : k = n := by omega
      go_wp2_with fail
      go_ret
      exact ⟨rfl, Below.refl _ _⟩
end Go.Proofs.Ytofcpfabjfhjoaa
namespace Go.Proofs.Ytofcpfabjfhjoaa
open Go.RowKit Go.BigFrame
set_option linter.unusedVariables false

theorem FreshOps.at_ {w0 w : World} {A : Option Addr} {n : Nat} {xs : List OpV} (h : FreshOps w0 w A n xs) : ∀ ad, A = some ad → w0.heap.size ≤ ad.block ∧ ad.block < w.heap.size := by
  intro ad had
  obtain ⟨b, cur, rfl, hge, hh, _⟩ := h.2 ad had
  exact ⟨hge, lt_of_block hh⟩
theorem FreshInts.at_ {w0 w : World} {A : Option Addr} {n : Nat} {xs : List Int} (h : FreshInts w0 w A n xs) : ∀ ad, A = some ad → w0.heap.size ≤ ad.block ∧ ad.block < w.heap.size := by
  intro ad had
  obtain ⟨b, cur, rfl, hge, hh, _⟩ := h.2 ad had
  exact ⟨hge, lt_of_block hh⟩
theorem FreshOps.below {w0 w w' : World} {A : Option Addr} {n : Nat} {xs : List OpV} (h : FreshOps w0 w A n xs) (hb : Below w.heap.size w w') : FreshOps w0 w' A n xs :=
  ⟨h.1.below hb (Nat.le_refl _), fun ad had => by obtain ⟨b, cur, e, hge, hh, hs⟩ := h.2 ad had; exact ⟨b, cur, e, hge, (hb.block b (lt_of_block hh)).trans hh, hs⟩⟩
theorem FreshInts.below {w0 w w' : World} {A : Option Addr} {n : Nat} {xs : List Int} (h : FreshInts w0 w A n xs) (hb : Below w.heap.size w w') : FreshInts w0 w' A n xs :=
  ⟨h.1.below hb (Nat.le_refl _), fun ad had => by obtain ⟨b, cur, e, hge, hh, hs⟩ := h.2 ad had; exact ⟨b, cur, e, hge, (hb.block b (lt_of_block hh)).trans hh, hs⟩⟩
/-- The block of one address is not that of the other. -/
def Apart (A B : Option Addr) : Prop := ∀ a b, A = some a → B = some b → a.block ≠ b.block
theorem Apart.row {A B : Option Addr} (h : Apart A B) : ∀ b, B = some b → A.map Addr.block ≠ some b.block := by
  intro b hb e
  cases A with
  | none => cases e
  | some a => injection e with e; exact h a b rfl hb e
theorem Apart.of_lt {A B : Option Addr} {k : Nat} (h1 : ∀ a, A = some a → k ≤ a.block) (h2 : ∀ b, B = some b → b.block < k) : Apart A B := fun a b ha hb e => by have := h1 a ha; have := h2 b hb; omega
theorem Apart.symm {A B : Option Addr} (h : Apart A B) : Apart B A := fun a b ha hb e => h b a hb ha e.symm
theorem FreshInts.grown {w0 w w' : World} {A : Option Addr} {n : Nat} {xs : List Int} {row : Option Nat} (h : FreshInts w0 w A n xs) (hg : w.grownBy w' row) (hne : ∀ b, A = some b → row ≠ some b.block) : FreshInts w0 w' A n xs :=
  ⟨h.1.grown hg hne, fun ad had => by obtain ⟨b, cur, e, hge, hh, hs⟩ := h.2 ad had; exact ⟨b, cur, e, hge, (hg.block b (lt_of_block hh) (fun e2 => hne _ had (by rw [← e2, e]))).trans hh, hs⟩⟩
theorem FreshOps.grown {w0 w w' : World} {A : Option Addr} {n : Nat} {xs : List OpV} {row : Option Nat} (h : FreshOps w0 w A n xs) (hg : w.grownBy w' row) (hne : ∀ b, A = some b → row ≠ some b.block) : FreshOps w0 w' A n xs :=
  ⟨h.1.grown hg hne, fun ad had => by obtain ⟨b, cur, e, hge, hh, hs⟩ := h.2 ad had; exact ⟨b, cur, e, hge, (hg.block b (lt_of_block hh) (fun e2 => hne _ had (by rw [← e2, e]))).trans hh, hs⟩⟩
theorem below_marked {w w1 w2 : World} {A : Option Addr} (h : Below w.heap.size w w1) (hg : w1.grownBy w2 (A.map Addr.block)) (hA : ∀ a, A = some a → w.heap.size ≤ a.block) : Below w.heap.size w w2 :=
  h.grown hg h.size fun k hk => by
    cases A with
    | none => cases hk
    | some a => injection hk with hk; rw [← hk]; exact hA a rfl
end Go.Proofs.Ytofcpfabjfhjoaa
namespace Go.Proofs.Ytofcpfabjfhjoaa
open Go.RowKit Go.BigFrame
set_option linter.unusedVariables false

/-- The slice value reads as these lists. -/
structure LstsAt (w : World) (A : Option Addr) (n : Nat) (xss : List (List Int)) : Prop where
  len : xss.length = n
  small : n ≤ 1099511627776
  row : 0 < n → ∃ b off, A = some ⟨b, off, none⟩ ∧ b < w.heap.size ∧ ∀ i xs, xss[i]? = some xs → ∃ B c, w.cell? ⟨b, off + i, none⟩ = some (.slice B xs.length c) ∧ RInts w B xs.length xs
theorem LstsAt.nil {w : World} {A : Option Addr} : LstsAt w A 0 [] := ⟨rfl, by omega, fun h => absurd h (by omega)⟩
theorem LstsAt.below {w w' : World} {A : Option Addr} {n : Nat} {xss : List (List Int)} (h : LstsAt w A n xss) (hb : Below w.heap.size w w') : LstsAt w' A n xss :=
  ⟨h.len, h.small, fun hn => by
    obtain ⟨b, off, e, hlt, hc⟩ := h.row hn
    have hs := hb.size
    refine ⟨b, off, e, by omega, fun i xs hi => ?_⟩
    obtain ⟨B, c, h1, h2⟩ := hc i xs hi
    exact ⟨B, c, (hb.cell (p := ⟨b, off + i, none⟩) hlt).trans h1, h2.below hb (Nat.le_refl _)⟩⟩
theorem LstsAt.get {w : World} {A : Option Addr} {n : Nat} {xss : List (List Int)} (h : LstsAt w A n xss) {k : Nat} (hk : k < n) :
    ∃ b off xs B c, A = some ⟨b, off, none⟩ ∧ b < w.heap.size ∧ xss[k]? = some xs ∧ w.cell? ⟨b, off + k, none⟩ = some (.slice B xs.length c) ∧ RInts w B xs.length xs := by
  obtain ⟨b, off, e, hlt, hc⟩ := h.row (by omega)
  have hx : xss[k]? = some (xss[k]'(by rw [h.len]; exact hk)) := List.getElem?_eq_getElem _
  obtain ⟨B, c, h1, h2⟩ := hc k _ hx
  exact ⟨b, off, _, B, c, e, hlt, hx, h1, h2⟩
theorem OuterR.cells {w0 w : World} {A : Option Addr} {n : Nat} {rv : List Value} (h : OuterR w0 w A n rv) (hn : 0 < n) : ∃ b, A = some ⟨b, 0, none⟩ ∧ w0.heap.size ≤ b ∧ b < w.heap.size ∧ ∀ (i : Nat) (u : Value), rv[i]? = some u → w.cell? ⟨b, 0 + i, none⟩ = some u := by
  obtain ⟨ad, e, hc⟩ := h.1.2.2 hn
  obtain ⟨b, cur, e2, h1, h2⟩ := h.2 ad e
  subst e2
  refine ⟨b, e, h1, lt_of_block h2, fun i u hu => ?_⟩
  have := hc i u hu
  rwa [addr_add] at this
theorem LstsAt.of {w0 w : World} {A : Option Addr} {n : Nat} {rv : List Value} {xss : List (List Int)} (ho : OuterR w0 w A n rv) (hr : RowsR w0 w rv xss) (hl : xss.length = n) (hs : n ≤ 1099511627776) : LstsAt w A n xss :=
  ⟨hl, hs, fun hn => by
    obtain ⟨b, e, _, hlt, hc⟩ := ho.cells hn
    refine ⟨b, 0, e, hlt, fun i xs hi => ?_⟩
    obtain ⟨B, c, h1, _, h2⟩ := hr.2 i xs hi
    exact ⟨B, c, hc i _ h1, h2.1⟩⟩


set_option maxRecDepth 100000 in
set_option maxHeartbeats 1000000 in
theorem eqIntSS_any (A B : Option Addr) (n c d : Nat) (xss : List (List Int)) (w : World) (hx : LstsAt w A n xss) (hy : LstsAt w B n xss) :
    Calls Try.prog 53 #[.slice A n c, .slice B n d] w fun e w' => e = .returned (.bool true) ∧ Below w.heap.size w w' := by
  have hn := hx.small
  have HX := Lib.hid hx
  have HY := Lib.hid hy
  clear hx hy
  go_enter Try.func53, Try.ntmps53
  go_wp2_with fail
  go_loopw [5] (fun i wr => ∃ k : Nat, k ≤ n ∧ i = .int .i64 k ∧ Below w.heap.size w wr) (fun i _ => n - (intOf i).toNat)
  case atStart => exact ⟨0, Nat.zero_le _, rfl, Below.refl _ _⟩
  case round =>
    obtain ⟨k, hk, rfl, hb⟩ := hrel
    by_cases hlt : k < n
    · obtain ⟨b, off, xs, C, e, rfl, hbl, ho, c0, hr0⟩ := (HX.out.below hb).get hlt
      obtain ⟨b', off', ys, C', e', rfl, hbl', ho', d0, hr1⟩ := (HY.out.below hb).get hlt
      rw [ho] at ho'
      injection ho' with ho'
      subst ho'
      have L0 := Later.cell c0
      have M0 := Later.cell d0
      have hc : ∀ u : Later wr, Calls Try.prog 29 #[.slice C xs.length e, .slice C' xs.length e'] u.1 fun e w' => e = .returned (.bool true) ∧ Below u.1.heap.size u.1 w' := fun u => by
        have := eqIntS_any C C' xs.length xs.length e e' xs xs u.1 (hr0.below u.2 (Nat.le_refl _)) (hr1.below u.2 (Nat.le_refl _)); rw [beq_self_eq_true] at this; exact this
      have HC := Lib.hid hc
      have hki : (k : Int) < (n : Int) := by omega
      clear ho c0 d0 hr0 hr1 hc
      generalize xs.length = xl at *
      go_wp2_with fail
      refine region_later (by kernel_rfl) (by kernel_rfl) ?_
      repeat (go_big_quiet_step ((go_at_call 29; exact later_call _ (HC.out _))))
      refine wpQuiet_nil ?_
      rintro _ ⟨u, rfl⟩
      have hbu := hb.trans (u.2.mono hb.size)
      go_wp2_with fail
      go_roundw
      case rel => exact ⟨k + 1, by omega, by go_num, hbu⟩
      case measure => simp [intOf]; omega
    · go_wp2_with fail
      go_ret
      exact ⟨rfl, hb⟩


/-- The lengths of the first i lists. -/
def totL (xss : List (List Int)) (i : Nat) : Nat := ((xss.take i).map List.length).sum
theorem totL_succ {xss : List (List Int)} {i : Nat} {xs : List Int} (h : xss[i]? = some xs) : totL xss (i + 1) = totL xss i + xs.length := by
  unfold totL; rw [take_snoc h]; simp
theorem totL_le {xss : List (List Int)} (h4 : ∀ xs ∈ xss, xs.length ≤ 4) (i : Nat) : totL xss i ≤ 4 * i := by
  induction i with
  | zero => simp [totL]
  | succ i ih =>
    cases hx : xss[i]? with
    | none =>
      have hl : xss.length ≤ i := by rw [List.getElem?_eq_none_iff] at hx; exact hx
      have : totL xss (i + 1) = totL xss i := by unfold totL; rw [List.take_of_length_le (by omega), List.take_of_length_le hl]
      omega
    | some xs =>
      have := h4 xs (List.mem_of_getElem? hx)
      rw [totL_succ hx]; omega

/-- Rows that have been marked up to k. -/
structure MkInv (w0 w : World) (b n : Nat) (rv : List Value) (xss : List (List Int)) (k0 : Int) (k : Nat) (wr : World) : Prop where
  below : Below w0.heap.size w wr
  outer : wr.heap[b]? = w.heap[b]?
  marked : ∀ i xs, i < k → xss[i]? = some xs → ∃ B c, rv[i]? = some (.slice B xs.length c) ∧ RInts wr B xs.length (mkInts (k0 + totL xss i) xs.length)
  rest : ∀ i xs, k ≤ i → xss[i]? = some xs → ∃ B c, rv[i]? = some (.slice B xs.length c) ∧ FreshInts w0 wr B xs.length xs
/-- What the marks leave: the rows hold them. -/
def MarkedLists (w0 w : World) (A : Option Addr) (n : Nat) (xss : List (List Int)) (k0 : Int) (e : Ending) (w' : World) : Prop :=
  e = .returned (.int .i64 (k0 + totL xss n)) ∧ Below w0.heap.size w w' ∧ (0 < n → ∃ b, A = some ⟨b, 0, none⟩ ∧ b < w'.heap.size ∧ ∀ i xs, xss[i]? = some xs → ∃ B c, w'.cell? ⟨b, 0 + i, none⟩ = some (.slice B xs.length c) ∧ RInts w' B xs.length (mkInts (k0 + totL xss i) xs.length))

theorem RInts.kept2 {V W : World} {A : Option Addr} {n : Nat} {xs : List Int} (h : RInts V A n xs) (hs : V.heap.size ≤ W.heap.size) (hA : ∀ ad, A = some ad → ad.block < V.heap.size → W.heap[ad.block]? = V.heap[ad.block]?) : RInts W A n xs := by
  refine ⟨h.1, h.2.1, fun hn => ?_⟩
  obtain ⟨b, off, hA', hl, hc⟩ := h.2.2 hn
  have hk := hA _ hA' hl
  exact ⟨b, off, hA', by omega, fun i x hx => (World.cell?_of_block (w := V) (a := ⟨b, off + i, none⟩) hk).trans (hc i x hx)⟩
theorem MkInv.step {w0 w : World} (h00 : w0.heap.size ≤ w.heap.size) {b n : Nat} {rv : List Value} {xss : List (List Int)} {k0 : Int} {k : Nat} {wr w2 : World} {B : Option Addr} {c : Nat} {xs : List Int} (hap : ApartR rv) (h : MkInv w0 w b n rv xss k0 k wr) (hx : xss[k]? = some xs) (hrv : rv[k]? = some (.slice B xs.length c))
    (hf : FreshInts w0 wr B xs.length xs) (hbt : ∃ cur, wr.heap[b]? = some (.cells cur 25 (0, 0))) (hm : RInts w2 B xs.length (mkInts (k0 + totL xss k) xs.length)) (hg : wr.grownBy w2 (B.map Addr.block)) : MkInv w0 w b n rv xss k0 (k + 1) w2 := by
  obtain ⟨h1, h2, h3, h4⟩ := h
  have hs := World.grownBy.size hg
  have hBb : ∀ ad, B = some ad → w0.heap.size ≤ ad.block ∧ ∃ cur, wr.heap[ad.block]? = some (.cells cur 3 (0, 0)) := fun ad had => by
    obtain ⟨g, cur, e, e1, e2, _⟩ := hf.2 ad had
    rw [e]; exact ⟨e1, cur, e2⟩
  have hgrow : ∀ j, (B.map Addr.block) = some j → w0.heap.size ≤ j := fun j hj => by
    cases hB : B with
    | none => rw [hB] at hj; cases hj
    | some ad => rw [hB] at hj; injection hj with hj; have := (hBb ad hB).1; rw [← hj]; exact this
  have other : ∀ i D m d, i ≠ k → rv[i]? = some (.slice D m d) → ∀ ad, D = some ad → some ad.block ≠ B.map Addr.block := by
    intro i D m d hik hi ad had e
    subst had
    cases hB : B with
    | none => rw [hB] at e; cases e
    | some bd =>
      rw [hB] at e
      injection e with e
      rw [hB] at hrv
      exact hap i k ad bd _ _ _ _ hik hi hrv e
  refine ⟨h1.trans ?_, ?_, fun i ys hi hy => ?_, fun i ys hi hy => ?_⟩
  · exact (Below.refl _ wr).grown hg (by have := h1.size; omega) (fun j hj => hgrow j hj)
  · obtain ⟨cur, hcur⟩ := hbt
    refine (hg.block b (lt_of_block hcur) fun e => ?_).trans h2
    cases hB : B with
    | none => rw [hB] at e; cases e
    | some ad =>
      rw [hB] at e
      injection e with e
      obtain ⟨_, cur2, hc2⟩ := hBb ad hB
      rw [← e, hcur] at hc2
      injection hc2 with hc2
      injection hc2 with _ ht _
      exact absurd ht (by decide)
  · rcases Nat.lt_or_ge i k with hik | hik
    · obtain ⟨D, d, e1, e2⟩ := h3 i ys hik hy
      refine ⟨D, d, e1, e2.kept2 hs fun ad had hb => ?_⟩
      exact hg.block _ hb (other i D _ d (by omega) e1 ad had)
    · obtain rfl : i = k := by omega
      rw [hx] at hy
      injection hy with hy
      subst hy
      exact ⟨B, c, hrv, hm⟩
  · obtain ⟨D, d, e1, e2⟩ := h4 i ys (by omega) hy
    refine ⟨D, d, e1, ⟨e2.1.kept2 hs fun ad had hb => ?_, fun ad had => ?_⟩⟩
    · exact hg.block _ hb (other i D _ d (by omega) e1 ad had)
    · obtain ⟨g, cur, e, q1, q2, q3⟩ := e2.2 ad had
      refine ⟨g, cur, e, q1, ?_, q3⟩
      have := other i D _ d (by omega) e1 ad had
      rw [e] at this
      exact (hg.block g (lt_of_block q2) this).trans q2

set_option maxRecDepth 100000 in
set_option maxHeartbeats 2000000 in
theorem markIntSS_any (A : Option Addr) (n c : Nat) (rv : List Value) (xss : List (List Int)) (k0 : Int) (w0 w : World) (ho : OuterR w0 w A n rv) (hr : RowsR w0 w rv xss) (hap : ApartR rv) (hl : xss.length = n) (h4 : ∀ xs ∈ xss, xs.length ≤ 4) (hn : n ≤ 1024) (h0 : 0 ≤ k0) (h1 : k0 ≤ 1048576) (h00 : w0.heap.size ≤ w.heap.size) :
    Calls Try.prog 54 #[.slice A n c, .int .i64 k0] w (MarkedLists w0 w A n xss k0) := by
  rcases Nat.eq_zero_or_pos n with hz | hz
  · subst hz
    clear ho hr hap
    have ht : Hid (totL xss 0 = 0) := by show _ = _; simp [totL]
    go_enter Try.func54, Try.ntmps54
    go_wp2_with fail
    go_loopw [1, 5] (fun kv i wr => i = .int .i64 0 ∧ kv = .int .i64 k0 ∧ wr = w) (fun _ _ _ => 0)
    case atStart => exact ⟨rfl, rfl, rfl⟩
    case round =>
      obtain ⟨rfl, rfl, rfl⟩ := hrel
      go_wp2_with fail
      go_ret
      exact ⟨ret_int (by rw [ht.out]; simp), Below.refl _ _, fun h => absurd h (by omega)⟩
  · obtain ⟨b, hA, hb0, hbl, hc⟩ := ho.cells hz
    obtain ⟨cur, hcur⟩ : ∃ cur, w.heap[b]? = some (.cells cur 25 (0, 0)) := by
      obtain ⟨b', cur, e, _, h⟩ := ho.2 _ hA
      injection e with e1 _ _
      subst e1
      exact ⟨cur, h⟩
    subst hA
    have HT := fun i => totL_le h4 i
    have HTT := Lib.hid HT
    have HST : Hid (MkInv w0 w b n rv xss k0 0 w) := ⟨Below.refl _ _, rfl, fun i xs h => absurd h (by omega), fun i xs _ hi => by obtain ⟨B, c, e, _, hf⟩ := hr.2 i xs hi; exact ⟨B, c, e, hf⟩⟩
    have HC := Lib.hid hc
    have HCUR := Lib.hid hcur
    have HAP := Lib.hid hap
    have HL := Lib.hid hl
    have H4 := Lib.hid h4
    clear hc hcur hap ho hr HT hl h4
    go_enter Try.func54, Try.ntmps54
    go_wp2_with fail
    go_loopw [1, 5] (fun kv i wr => ∃ k : Nat, k ≤ n ∧ i = .int .i64 k ∧ kv = .int .i64 (k0 + totL xss k) ∧ MkInv w0 w b n rv xss k0 k wr) (fun _ i _ => n - (intOf i).toNat)
    case atStart => exact ⟨0, Nat.zero_le _, rfl, by simp [totL], HST.out⟩
    case round =>
      clear HST
      obtain ⟨k, hk, rfl, rfl, hinv⟩ := hrel
      have HINV := Lib.hid hinv
      have htk := HTT.out k
      clear hinv
      by_cases hlt : k < n
      · have hx : xss[k]? = some (xss[k]'(by rw [HL.out]; exact hlt)) := List.getElem?_eq_getElem _
        obtain ⟨xs, hxs⟩ : ∃ xs, xss[k]'(by rw [HL.out]; exact hlt) = xs := ⟨_, rfl⟩
        rw [hxs] at hx
        obtain ⟨B, cB, hrv, hf⟩ := HINV.out.rest k xs (Nat.le_refl _) hx
        have c0 : wr.cell? ⟨b, 0 + k, none⟩ = some (.slice B xs.length cB) := (World.cell?_of_block (w := w) (a := ⟨b, 0 + k, none⟩) HINV.out.outer).trans (HC.out k _ hrv)
        rw [Nat.zero_add] at c0
        have hx4 : xs.length ≤ 4 := H4.out xs (List.mem_of_getElem? hx)
        have hM := markIntS_any B xs.length cB xs (k0 + totL xss k) w0 wr hf (by omega) (by omega)
        have HM := Lib.hid hM
        have HST : Hid (∀ w2, RInts w2 B xs.length (mkInts (k0 + totL xss k) xs.length) → wr.grownBy w2 (B.map Addr.block) → MkInv w0 w b n rv xss k0 (k + 1) w2) := fun w2 hm hg =>
          HINV.out.step h00 HAP.out hx hrv hf ⟨cur, HINV.out.outer.trans HCUR.out⟩ hm hg
        have HTS := Lib.hid (totL_succ hx)
        clear hM hf hrv hx hxs
        generalize xs.length = xl at *
        generalize totL xss k = tk at *
        have l1 : (k : Int) < n := by omega
        have l2 : (0 : Int) ≤ (k : Int) := by omega
        go_wp2_with fail
        refine HM.out.mono ?_
        rintro e w2 ⟨rfl, hm, hg⟩
        have HN := Lib.hid (HST.out w2 hm hg)
        clear hm hg HST
        go_wp2_with fail
        go_roundw
        case rel => exact ⟨k + 1, by omega, by go_num, by rw [HTS.out]; first | go_num | (congr 1; omega), HN.out⟩
        case measure => simp [intOf]; omega
      · obtain rfl : k = n := by omega
        have HF : Hid (MarkedLists w0 w (some ⟨b, 0, none⟩) k xss k0 (.returned (.int .i64 (k0 + totL xss k))) wr) := by
          refine ⟨rfl, HINV.out.below, fun _ => ⟨b, rfl, by have := HINV.out.below.size; omega, fun i xs hi => ?_⟩⟩
          have hik : i < k := by rw [← HL.out]; exact (List.getElem?_eq_some_iff.1 hi).1
          obtain ⟨B, c', e1, e2⟩ := HINV.out.marked i xs hik hi
          exact ⟨B, c', (World.cell?_of_block (w := w) (a := ⟨b, 0 + i, none⟩) HINV.out.outer).trans (HC.out i _ e1), e2⟩
        go_wp2_with fail
        go_ret
        exact HF.out

/-- The rows that hold the marks. -/
def HeldAt_ (w : World) (A : Option Addr) (n : Nat) (xss : List (List Int)) (k0 : Int) : Prop :=
  0 < n → ∃ b, A = some ⟨b, 0, none⟩ ∧ b < w.heap.size ∧ ∀ i xs, xss[i]? = some xs → ∃ B c, w.cell? ⟨b, 0 + i, none⟩ = some (.slice B xs.length c) ∧ RInts w B xs.length (mkInts (k0 + totL xss i) xs.length)
theorem HeldAt_.below {w w' : World} {A : Option Addr} {n : Nat} {xss : List (List Int)} {k0 : Int} (h : HeldAt_ w A n xss k0) (hb : Below w.heap.size w w') : HeldAt_ w' A n xss k0 := fun hn => by
  obtain ⟨b, e, hl, hc⟩ := h hn
  have hs := hb.size
  refine ⟨b, e, by omega, fun i xs hi => ?_⟩
  obtain ⟨B, c, h1, h2⟩ := hc i xs hi
  exact ⟨B, c, (hb.cell (p := ⟨b, 0 + i, none⟩) hl).trans h1, h2.below hb (Nat.le_refl _)⟩

set_option maxRecDepth 100000 in
set_option maxHeartbeats 2000000 in
theorem heldIntSS_any (A : Option Addr) (n c : Nat) (xss : List (List Int)) (k0 : Int) (w : World) (hx : HeldAt_ w A n xss k0) (hl : xss.length = n) (h4 : ∀ xs ∈ xss, xs.length ≤ 4) (hn : n ≤ 1024) (h0 : 0 ≤ k0) (h1 : k0 ≤ 1048576) :
    Calls Try.prog 55 #[.slice A n c, .int .i64 k0] w fun e w' => e = .returned (.int .i64 (k0 + totL xss n)) ∧ Below w.heap.size w w' := by
  have HX := Lib.hid hx
  have HTT := Lib.hid (fun i => totL_le h4 i)
  have HL := Lib.hid hl
  have H4 := Lib.hid h4
  clear hx hl h4
  go_enter Try.func55, Try.ntmps55
  go_wp2_with fail
  go_loopw [1, 5] (fun kv i wr => ∃ k : Nat, k ≤ n ∧ i = .int .i64 k ∧ kv = .int .i64 (k0 + totL xss k) ∧ Below w.heap.size w wr) (fun _ i _ => n - (intOf i).toNat)
  case atStart => exact ⟨0, Nat.zero_le _, rfl, by simp [totL], Below.refl _ _⟩
  case round =>
    obtain ⟨k, hk, rfl, rfl, hb⟩ := hrel
    have htk := HTT.out k
    by_cases hlt : k < n
    · have hx : xss[k]? = some (xss[k]'(by rw [HL.out]; exact hlt)) := List.getElem?_eq_getElem _
      obtain ⟨xs, hxs⟩ : ∃ xs, xss[k]'(by rw [HL.out]; exact hlt) = xs := ⟨_, rfl⟩
      rw [hxs] at hx
      obtain ⟨b, rfl, hbl, hc⟩ := (HX.out.below hb) (by omega)
      obtain ⟨B, cB, c0, hm⟩ := hc k xs hx
      rw [Nat.zero_add] at c0
      have hx4 : xs.length ≤ 4 := H4.out xs (List.mem_of_getElem? hx)
      have HH := Lib.hid (heldIntS_any B xs.length cB (k0 + totL xss k) wr hm (by omega) (by omega))
      have HTS := Lib.hid (totL_succ hx)
      clear hm hc hx hxs
      generalize xs.length = xl at *
      generalize totL xss k = tk at *
      have l1 : (k : Int) < n := by omega
      have l2 : (0 : Int) ≤ (k : Int) := by omega
      have l3 : ¬ (k0 + (tk : Int) + (xl : Int) < 0) := by omega
      go_wp2_with fail
      refine HH.out.mono ?_
      rintro e w2 ⟨rfl, hb2⟩
      go_wp2_with fail
      go_roundw
      case rel => exact ⟨k + 1, by omega, by go_num, by rw [HTS.out]; first | go_num | (congr 1; omega), hb.trans (hb2.mono hb.size)⟩
      case measure => simp [intOf]; omega
    · obtain rfl : k = n := by omega
      go_wp2_with fail
      go_ret
      exact ⟨rfl, hb⟩

/-- The lists that the call has handed back, made since w0. -/
structure GLists (w0 w : World) (A : Option Addr) (n : Nat) (rv : List Value) (xss : List (List Int)) : Prop where
  outer : OuterR w0 w A n rv
  rows : RowsR w0 w rv xss
theorem GLists.turned {w0 V W : World} {A : Option Addr} {n : Nat} {rv : List Value} {xss : List (List Int)} (h : GLists w0 V A n rv xss) (hs : V.heap.size ≤ W.heap.size) (hk : ∀ g, w0.heap.size ≤ g → g < V.heap.size → W.heap[g]? = V.heap[g]?) : GLists w0 W A n rv xss := by
  have hblk : ∀ ad, A = some ad → ∃ b cur, ad = ⟨b, 0, none⟩ ∧ w0.heap.size ≤ b ∧ V.heap[b]? = some (.cells cur 25 (0, 0)) ∧ W.heap[b]? = V.heap[b]? := fun ad had => by
    obtain ⟨b, cur, e, h1, h2⟩ := h.outer.2 ad had
    exact ⟨b, cur, e, h1, h2, hk b h1 (lt_of_block h2)⟩
  refine ⟨⟨⟨h.outer.1.1, h.outer.1.2.1, fun hn => ?_⟩, fun ad had => ?_⟩, h.rows.turned hs fun g h1 h2 _ => hk g h1 h2⟩
  · obtain ⟨ad, e, hc⟩ := h.outer.1.2.2 hn
    obtain ⟨b, cur, e2, _, _, hkb⟩ := hblk ad e
    subst e2
    refine ⟨_, e, fun j u hu => ?_⟩
    have := hc j u hu
    rw [addr_add] at this ⊢
    exact (World.cell?_of_block (w := V) (a := ⟨b, 0 + j, none⟩) hkb).trans this
  · obtain ⟨b, cur, e, h1, h2, hkb⟩ := hblk ad had
    exact ⟨b, cur, e, h1, hkb.trans h2⟩
theorem GLists.below {w0 w w' : World} {A : Option Addr} {n : Nat} {rv : List Value} {xss : List (List Int)} (h : GLists w0 w A n rv xss) (hb : Below w.heap.size w w') : GLists w0 w' A n rv xss := h.turned hb.size fun g _ hg => hb.block g hg
theorem GLists.marked {w0 w w' : World} {A X : Option Addr} {n : Nat} {rv : List Value} {xss : List (List Int)} (h : GLists w0 w A n rv xss) (hg : w.grownBy w' (X.map Addr.block)) (hX : ∀ a, X = some a → a.block < w0.heap.size) : GLists w0 w' A n rv xss :=
  h.turned (World.grownBy.size hg) fun g h1 h2 => hg.block g h2 fun e => by
    cases hx : X with
    | none => rw [hx] at e; cases e
    | some a => rw [hx] at e; injection e with e; have := hX a hx; omega
theorem GLists.at_ {w0 w : World} {A : Option Addr} {n : Nat} {rv : List Value} {xss : List (List Int)} (h : GLists w0 w A n rv xss) (hl : xss.length = n) (hs : n ≤ 1099511627776) : LstsAt w A n xss := LstsAt.of h.outer h.rows hl hs
end Go.Proofs.Ytofcpfabjfhjoaa
namespace Go.Proofs.Ytofcpfabjfhjoaa
open Go.RowKit Go.BigFrame
set_option linter.unusedVariables false

theorem retL {P : Program} {f : FuncId} {args : Array Value} {w : World} {R R' : Ending → World → Prop} (h : ∀ e w, R e w → R' e w) (hc : Calls P f args w R) : Calls P f args w R' := hc.mono h

set_option maxRecDepth 100000 in
set_option maxHeartbeats 1000000 in
theorem equalLists_any (A B : Option Addr) (n c d : Nat) (xss : List (List Int)) (w : World) (hx : LstsAt w A n xss) (hy : LstsAt w B n xss) :
    Calls Try.prog 57 #[.slice A n c, .slice B n d] w fun e w' => e = .returned (.bool true) ∧ Below w.heap.size w w' := by
  have hn := hx.small
  have HX := Lib.hid hx
  have HY := Lib.hid hy
  clear hx hy
  go_enter Try.func57, Try.ntmps57
  go_wp2_with fail
  go_loopw [5] (fun i wr => ∃ k : Nat, k ≤ n ∧ i = .int .i64 k ∧ Below w.heap.size w wr) (fun i _ => n - (intOf i).toNat)
  case atStart => exact ⟨0, Nat.zero_le _, rfl, Below.refl _ _⟩
  case round =>
    obtain ⟨k, hk, rfl, hb⟩ := hrel
    by_cases hlt : k < n
    · obtain ⟨b, off, xs, C, e, rfl, hbl, ho, c0, hr0⟩ := (HX.out.below hb).get hlt
      obtain ⟨b', off', ys, C', e', rfl, hbl', ho', d0, hr1⟩ := (HY.out.below hb).get hlt
      rw [ho] at ho'
      injection ho' with ho'
      subst ho'
      have L0 := Later.cell c0
      have M0 := Later.cell d0
      have hc : ∀ u : Later wr, Calls Try.prog 17 #[.slice C xs.length e, .slice C' xs.length e'] u.1 fun e w' => e = .returned (.bool true) ∧ Below u.1.heap.size u.1 w' := fun u => by
        have := equalInts_any C C' xs.length xs.length e e' xs xs u.1 (hr0.below u.2 (Nat.le_refl _)) (hr1.below u.2 (Nat.le_refl _)); rw [beq_self_eq_true] at this; exact this
      have HC := Lib.hid hc
      have hki : (k : Int) < (n : Int) := by omega
      clear ho c0 d0 hr0 hr1 hc
      generalize xs.length = xl at *
      go_wp2_with fail
      refine region_later (by kernel_rfl) (by kernel_rfl) ?_
      repeat (go_big_quiet_step ((go_at_call 17; exact later_call _ (HC.out _))))
      refine wpQuiet_nil ?_
      rintro _ ⟨u, rfl⟩
      have hbu := hb.trans (u.2.mono hb.size)
      go_wp2_with fail
      go_roundw
      case rel => exact ⟨k + 1, by omega, by go_num, hbu⟩
      case measure => simp [intOf]; omega
    · go_wp2_with fail
      go_ret
      exact ⟨rfl, hb⟩

end Go.Proofs.Ytofcpfabjfhjoaa
namespace Go.Proofs.Ytofcpfabjfhjoaa
open Go.RowKit Go.BigFrame
set_option linter.unusedVariables false

theorem ordI_bd {L : List Int} {R : List Nat} (h : L.length ≤ 4) : (ordI L R).length ≤ 1024 ∧ ∀ xs ∈ ordI L R, xs.length ≤ 4 := by
  unfold ordI
  refine ⟨Nat.le_trans (List.length_filter_le _ _) (Nat.le_trans (permF_len h _ _) ?_), fun xs hx => ?_⟩
  · have : (4:Nat) ^ L.length ≤ 4 ^ 4 := Nat.pow_le_pow_right (by omega) h
    omega
  · have := permF_length _ _ _ (List.mem_filter.1 hx).1
    simp at this
    omega
theorem snapI_bd {s : List OpV} (h : validS s = true) : (orNil true (snapI s)).length ≤ 1024 ∧ ∀ xs ∈ orNil true (snapI s), xs.length ≤ 4 := ordI_bd (ascOf_len _)
set_option maxRecDepth 100000 in
set_option maxHeartbeats 4000000 in
theorem exact_snapshotOrders (A : Option Addr) (n c : Nat) (w : World) (hin : OpsIn w A n c) :
    Calls Try.prog 10 #[.slice A n c] w fun e w' => e = .returned (.bool true) ∧ Below w.heap.size w w' := by
  obtain ⟨hnc, hcm, hx0⟩ := hin
  unfold maxLen at hcm
  by_cases hbig : 1048576 < n
  · clear hx0
    go_enter Try.func10, Try.ntmps10
    go_wp2_with fail
    refine (szOpS_any A n c 1048576 w (by omega) (by omega) (by omega)).mono ?_
    rw [if_pos (by omega)]
    rintro e w1 ⟨rfl, rfl⟩
    go_wp2_with fail
    go_ret
    exact ⟨rfl, Below.refl _ _⟩
  · obtain ⟨s, hx⟩ := hx0 (by omega)
    have HX := Lib.hid hx
    obtain rfl : n = s.length := hx.1.symm
    clear hx0 hx
    obtain ⟨ys, hys⟩ : ∃ ys, orNil (validS s) (snapS s) = ys := ⟨_, rfl⟩
    have hys1 : orNil (validS s) (snapI s) = ys := by
      rw [← hys]
      cases hv : validS s
      · rfl
      · rw [snap_eq hv]
    have HBD : Hid (ys.length ≤ 1024 ∧ ∀ xs ∈ ys, xs.length ≤ 4) := by
      show _ ∧ _
      rw [← hys1]
      cases hv : validS s
      · exact ⟨by simp [orNil], fun xs h => by simp [orNil] at h⟩
      · exact snapI_bd hv
    have c1 : ∀ (W : World) (B : Option Addr) (d : Nat), ROps W B s.length s → s.length ≤ d → Calls Try.prog 52 #[.slice B s.length d] W (RetListsA W ys) := fun W B d h hd => by
      have := SnapshotOrders_any B _ d s W h hd; rw [hys1] at this; exact this
    have c2 : ∀ (W : World) (B : Option Addr) (d : Nat), ROps W B s.length s → s.length ≤ d → Calls Try.prog 51 #[.slice B s.length d] W (RetLists W ys) := fun W B d h hd => by
      have := sSnapshotOrders_any B _ d s W h hd; rw [hys] at this; exact this
    have c3 : ∀ (W : World), Below w.heap.size w W → Calls Try.prog 27 #[.slice A s.length c] W (RetOps W s) := fun W h => toOpS_any A s.length c s W (HX.out.below h (Nat.le_refl _)) (by omega)
    have C1 := Lib.hid c1
    have C2 := Lib.hid c2
    have C3 := Lib.hid c3
    clear c1 c2 c3 hys hys1
    obtain ⟨N, hN⟩ : ∃ N, ys.length = N := ⟨_, rfl⟩
    have HN := Lib.hid hN
    have hN1 : N ≤ 1024 := by have := HBD.out.1; omega
    have htt := totL_le HBD.out.2 N
    clear hN
    go_enter Try.func10, Try.ntmps10
    go_wp2_with fail
    refine (szOpS_any A s.length c 1048576 w (by omega) (by omega) (by omega)).mono ?_
    rw [if_neg (by omega)]
    rintro e w1 ⟨rfl, rfl⟩
    have hsz0 : ¬ ((1048576 : Int) - (s.length : Int) < 0) := by omega
    go_wp2_with fail
    refine (C3.out w (Below.refl _ _)).mono ?_
    rintro e w1 ⟨B1, d1, rfl, hd1, ⟨hr1, _⟩, hb1⟩
    go_wp2_with fail
    refine (C2.out w1 B1 d1 hr1 hd1).mono ?_
    rintro e w2 ⟨Y, dy, rvy, rfl, hdy, hoy, hry, hb2⟩
    rw [HN.out] at hdy hoy ⊢
    have HY : Hid (LstsAt w2 Y N ys) := LstsAt.of hoy hry HN.out (by omega)
    have hbw2 := hb1.trans (hb2.mono hb1.size)
    clear hr1 hb1 hb2 hoy hry
    go_wp2_with fail
    refine (C3.out w2 hbw2).mono ?_
    rintro e w3 ⟨X, dx, rfl, hdx, hfx, hb3⟩
    have hbw3 := hbw2.trans (hb3.mono hbw2.size)
    have hXge : ∀ a, X = some a → w2.heap.size ≤ a.block := fun a ha => (hfx.at_ a ha).1
    have hXlt : ∀ a, X = some a → a.block < w3.heap.size := fun a ha => (hfx.at_ a ha).2
    have hsz23 := hb3.size
    have hwz := hbw2.size
    have HY3 := Lib.hid hb3
    have rx3 := Lib.hid hfx
    have hX1 := Lib.hid hfx.1
    clear hfx hb3 hbw2
    go_wp2_with fail
    refine (C1.out w3 X dx hX1.out hdx).mono ?_
    rintro e w4 ⟨G, dg, rv, rfl, hdg, hog, hrg, hapg, hb4⟩
    rw [HN.out] at hdg hog ⊢
    have hbw4 := hbw3.trans (hb4.mono hbw3.size)
    have HAP := Lib.hid hapg
    have HY4 : Hid (Below w2.heap.size w2 w4) := HY3.out.trans (hb4.mono hsz23)
    have rx4 := Lib.hid (rx3.out.below hb4)
    have rg4 : Hid (GLists w3 w4 G N rv ys) := ⟨hog, hrg⟩
    have HXw : Hid (∀ a, X = some a → w.heap.size ≤ a.block) := fun a ha => Nat.le_trans hwz (hXge a ha)
    have HX2 := Lib.hid hXge
    have HX3 := Lib.hid hXlt
    have hw03 := hbw3.size
    have h34 := hb4.size
    clear hog hrg hapg hb4 rx3 hX1 hXge hXlt hbw3 HY3
    go_wp2_with fail
    refine (eqIntSS_any G Y N dg dy ys w4 (rg4.out.at_ HN.out (by omega)) (HY.out.below HY4.out)).mono ?_
    rintro e w5 ⟨rfl, hb5⟩
    have hbw5 := hbw4.trans (hb5.mono hbw4.size)
    have HY5 : Hid (Below w2.heap.size w2 w5) := HY4.out.trans (hb5.mono HY4.out.size)
    have rx5 := Lib.hid (rx4.out.below hb5)
    have rg5 := Lib.hid (rg4.out.below hb5)
    have h45 := hb5.size
    clear HY4 rx4 rg4 hb5 hbw4
    go_wp2_with fail
    refine (C3.out w5 hbw5).mono ?_
    rintro e w6 ⟨Z, dz, rfl, hdz, ⟨hrz, _⟩, hb6⟩
    have hbw6 := hbw5.trans (hb6.mono hbw5.size)
    have HY6 : Hid (Below w2.heap.size w2 w6) := HY5.out.trans (hb6.mono HY5.out.size)
    have rx6 := Lib.hid (rx5.out.below hb6)
    have rg6 := Lib.hid (rg5.out.below hb6)
    have h56 := hb6.size
    have hrz := Lib.hid hrz
    clear HY5 rx5 rg5 hb6 hbw5
    go_wp2_with fail
    refine (eqOpS_any X Z _ _ dx dz s s w6 rx6.out.1 hrz.out).mono ?_
    rw [beq_self_eq_true]
    rintro e w7 ⟨rfl, hb7⟩
    have hbw7 := hbw6.trans (hb7.mono hbw6.size)
    have HY7 : Hid (Below w2.heap.size w2 w7) := HY6.out.trans (hb7.mono HY6.out.size)
    have rx7 := Lib.hid (rx6.out.below hb7)
    have rg7 := Lib.hid (rg6.out.below hb7)
    have h67 := hb7.size
    clear HY6 rx6 rg6 hrz hb7 hbw6
    go_wp2_with fail
    refine (markOpS_any X s.length dx s 1 w2 w7 rx7.out (by omega) (by omega)).mono ?_
    rintro e w8 ⟨rfl, _, hg8⟩
    have hbw8 := below_marked hbw7 hg8 HXw.out
    have HY8 : Hid (Below w2.heap.size w2 w8) := below_marked HY7.out hg8 HX2.out
    have rg8 := Lib.hid (rg7.out.marked hg8 HX3.out)
    have h78 := World.grownBy.size hg8
    clear HY7 rx7 rg7 hg8 hbw7
    have hk0 : ¬ ((1 : Int) + 3 * (s.length : Int) < 0) := by omega
    go_wp2_with fail
    refine (eqIntSS_any G Y N dg dy ys w8 (rg8.out.at_ HN.out (by omega)) (HY.out.below HY8.out)).mono ?_
    rintro e w9 ⟨rfl, hb9⟩
    have hbw9 := hbw8.trans (hb9.mono hbw8.size)
    have HY9 : Hid (Below w2.heap.size w2 w9) := HY8.out.trans (hb9.mono HY8.out.size)
    have rg9 := Lib.hid (rg8.out.below hb9)
    have h39 : w3.heap.size ≤ w9.heap.size := by have := hb9.size; omega
    clear HY8 rg8 hb9 hbw8
    go_wp2_with fail
    refine (markIntSS_any G N dg rv ys 1 w3 w9 rg9.out.1 rg9.out.2 HAP.out HN.out HBD.out.2 hN1 (by omega) (by omega) h39).mono ?_
    rintro e w10 ⟨rfl, hbm, hm10⟩
    have hbw10 := hbw9.trans (hbm.mono hw03)
    have HY10 : Hid (Below w2.heap.size w2 w10) := HY9.out.trans (hbm.mono hsz23)
    have rm10 : Hid (HeldAt_ w10 G N ys 1) := hm10
    clear HY9 rg9 hbm hbw9 hm10
    go_wp2_with fail
    refine (heldIntSS_any G N dg ys 1 w10 rm10.out HN.out HBD.out.2 hN1 (by omega) (by omega)).mono ?_
    rintro e w11 ⟨rfl, hb11⟩
    have hbw11 := hbw10.trans (hb11.mono hbw10.size)
    have HY11 : Hid (Below w2.heap.size w2 w11) := HY10.out.trans (hb11.mono HY10.out.size)
    have rm11 := Lib.hid (rm10.out.below hb11)
    clear HY10 rm10 hb11 hbw10
    have hq0 : ¬ ((1 : Int) + (totL ys N : Int) < 0) := by omega
    go_wp2_with fail
    refine (C3.out w11 hbw11).mono ?_
    rintro e w12 ⟨V, dv, rfl, hdv, ⟨hrv, _⟩, hb12⟩
    have hbw12 := hbw11.trans (hb12.mono hbw11.size)
    have HY12 : Hid (Below w2.heap.size w2 w12) := HY11.out.trans (hb12.mono HY11.out.size)
    have rm12 := Lib.hid (rm11.out.below hb12)
    have hrv := Lib.hid hrv
    clear HY11 rm11 hb12 hbw11
    go_wp2_with fail
    refine (C1.out w12 V dv hrv.out hdv).mono ?_
    rintro e w13 ⟨U, du, rvu, rfl, hdu, hou, hru, _, hb13⟩
    rw [HN.out] at hdu hou ⊢
    have hbw13 := hbw12.trans (hb13.mono hbw12.size)
    have HY13 : Hid (Below w2.heap.size w2 w13) := HY12.out.trans (hb13.mono HY12.out.size)
    have rm13 := Lib.hid (rm12.out.below hb13)
    have HU : Hid (LstsAt w13 U N ys) := LstsAt.of hou hru HN.out (by omega)
    clear HY12 rm12 hb13 hbw12 hou hru
    go_wp2_with fail
    refine (eqIntSS_any U Y N du dy ys w13 HU.out (HY.out.below HY13.out)).mono ?_
    rintro e w14 ⟨rfl, hb14⟩
    have hbw14 := hbw13.trans (hb14.mono hbw13.size)
    have rm14 := Lib.hid (rm13.out.below hb14)
    clear HY13 rm13 hb14 hbw13
    go_wp2_with fail
    refine (heldIntSS_any G N dg ys 1 w14 rm14.out HN.out HBD.out.2 hN1 (by omega) (by omega)).mono ?_
    rintro e w15 ⟨rfl, hb15⟩
    have hbw15 := hbw14.trans (hb15.mono hbw14.size)
    clear rm14 hb15 hbw14
    go_wp2_with fail
    go_ret
    exact ⟨rfl, hbw15⟩

end Go.Proofs.Ytofcpfabjfhjoaa
namespace Go.Proofs.Ytofcpfabjfhjoaa
open Go.RowKit Go.BigFrame
set_option linter.unusedVariables false


set_option maxHeartbeats 400000 in
theorem lpower_any (n : Nat) (w : World) (hn : n ≤ 61) : Calls Try.prog 89 #[.int .i64 (n : Int)] w fun e w' => e = .returned (.int .i64 ((2 ^ n : Nat) : Int)) ∧ w = w' := by
  go_enter Try.func89, Try.ntmps89
  go_wp2_with fail
  go_loop [0, 3] (fun a b => ∃ k : Nat, k ≤ n ∧ a = .int .i64 ((n : Int) - k) ∧ b = .int .i64 ((2 ^ k : Nat) : Int)) (fun a _ => (intOf a).toNat)
  case atStart => exact ⟨0, Nat.zero_le _, by simp, rfl⟩
  case round =>
    obtain ⟨k, hk, rfl, rfl⟩ := hrel
    by_cases hlt : k < n
    · have h2 : 2 ^ k ≤ 2 ^ 61 := Nat.pow_le_pow_right (by omega) (by omega)
      have h3 : Hid (2 ^ (k + 1) = 2 * 2 ^ k) := by show _ = _; rw [Nat.pow_succ]; omega
      generalize hP : 2 ^ k = p at *
      have HP := Lib.hid hP
      clear hP
      have h4 : p ≤ 2305843009213693952 := by have : (2:Nat) ^ 61 = 2305843009213693952 := by decide
                                              omega
      clear h2
      go_wp2_with fail
      go_round
      case rel => exact ⟨k + 1, by omega, by first | go_num | (congr 1; omega), by rw [h3.out]; first | go_num | (congr 1; omega)⟩
      case measure => simp [intOf]; omega
    · obtain rfl : k = n := by omega
      go_wp2_with fail
      go_ret
      exact ⟨rfl, rfl⟩


set_option maxHeartbeats 400000 in
theorem lbit_any (x j : Nat) (w : World) (hx : x ≤ 4611686018427387904) (hj : j ≤ 61) : Calls Try.prog 38 #[.int .i64 (x : Int), .int .i64 (j : Int)] w fun e w' => e = .returned (.int .i64 (if x.testBit j then 1 else 0)) ∧ w = w' := by
  have HP := Lib.hid (lpower_any j w hj)
  have hp : 0 < 2 ^ j := Nat.two_pow_pos _
  have hq : (2 ^ j : Nat) ≤ 2305843009213693952 := by
    have : 2 ^ j ≤ 2 ^ 61 := Nat.pow_le_pow_right (by omega) hj
    have h2 : (2:Nat) ^ 61 = 2305843009213693952 := by decide
    omega
  obtain ⟨r, hr⟩ : ∃ r : Int, (if x.testBit j then 1 else 0) = r := ⟨_, rfl⟩
  rw [hr]
  have HR : Hid (((x / 2 ^ j % 2 : Nat) : Int) = r) := by
    show _ = _
    rw [← hr]
    rw [Nat.testBit_eq_decide_div_mod_eq]
    by_cases h : x / 2 ^ j % 2 = 1
    · rw [h]; simp
    · have : x / 2 ^ j % 2 = 0 := by omega
      rw [this]; simp
  generalize hP : 2 ^ j = p at *
  have hdiv : x / p ≤ x := Nat.div_le_self _ _
  clear hP hr
  have hpi : (p : Int) ≠ 0 := by omega
  have HD : Hid ((wrap64 ((x : Int) / (p : Int))).tmod 2 = ((x / p % 2 : Nat) : Int)) := by
    show _ = _
    have e1 : ((x : Int) / (p : Int)) = ((x / p : Nat) : Int) := by simp
    rw [e1]
    have e2 : wrap64 ((x / p : Nat) : Int) = ((x / p : Nat) : Int) := by
      generalize x / p = q at *
      unfold wrap64
      omega
    rw [e2]
    rfl
  go_enter Try.func38, Try.ntmps38
  go_wp2_with fail
  refine HP.out.mono ?_
  rintro e w1 ⟨rfl, rfl⟩
  go_wp2_with fail
  go_ret
  exact ⟨ret_int (by rw [← HR.out]; exact HD.out), rfl⟩


set_option maxRecDepth 100000 in
set_option maxHeartbeats 1000000 in
theorem only_any (A B : Option Addr) (n m c d : Nat) (xs ys : List Int) (w : World) (hx : RInts w A n xs) (hy : RInts w B m ys) :
    Calls Try.prog 43 #[.slice A n c, .slice B m d] w (RetInts w (xs.filter fun x => ys.any fun y => y == x)) := by
  have hn := hx.2.1
  have hl := hx.1
  have HX := Lib.hid hx
  have HY := Lib.hid hy
  clear hx hy
  have HST : Hid ((w.alloc (.cells #[] 3)).ownsRow w.heap.size 3 1 (.slice (some ⟨w.heap.size, 0, none⟩) 0 0) 0 (intCells ((xs.take 0).filter fun x => ys.any fun y => y == x))) :=
    World.ownsRow_made w #[] 0 (Nat.le_refl _) (by decide) rfl
  go_enter Try.func43, Try.ntmps43
  go_wp2_with fail
  go_loopw [5, 6] (fun ov i wr => ∃ (k q : Nat), k ≤ n ∧ q ≤ k ∧ i = .int .i64 k ∧ Below w.heap.size w wr ∧ wr.ownsRow w.heap.size 3 1 ov q (intCells ((xs.take k).filter fun x => ys.any fun y => y == x))) (fun _ i _ => n - (intOf i).toNat)
  case atStart => exact ⟨0, 0, Nat.zero_le _, Nat.le_refl _, rfl, (Below.refl _ _).alloc (Nat.le_refl _) _, HST.out⟩
  case round =>
    clear HST
    obtain ⟨k, q, hk, hqk, rfl, hb, hown⟩ := hrel
    by_cases hlt : k < n
    · obtain ⟨b, off, x, rfl, hbl, ho, c0⟩ := (HX.out.below hb (Nat.le_refl _)).at_ hlt
      have hs := hb.size
      have hst : (xs.take (k + 1)).filter (fun x => ys.any fun y => y == x) = (xs.take k).filter (fun x => ys.any fun y => y == x) ++ if (ys.any fun y => y == x) then [x] else [] := by
        rw [take_snoc ho, List.filter_append, List.filter_cons, List.filter_nil]
      obtain ⟨bb, hbb⟩ : ∃ b, (ys.any fun y => y == x) = b := ⟨_, rfl⟩
      have hcl : Calls Try.prog 21 #[.slice B m d, .int .i64 x] wr fun e w' => e = .returned (.bool bb) ∧ Below wr.heap.size wr w' := by
        have := isIn_any B m d ys x wr (HY.out.below hb (Nat.le_refl _)); rw [hbb] at this; exact this
      rw [hbb] at hst
      have HS := Lib.hid hst
      have HC := Lib.hid hcl
      have L0 := Later.cell c0
      clear hst ho hcl hbb
      go_wp2_with fail
      refine HC.out.mono ?_
      rintro e w1 ⟨rfl, hb1⟩
      have hb2 := hb.trans (hb1.mono hb.size)
      have hown1 := own_below hown hb1
      have e0 := L0 ⟨w1, hb1⟩
      simp only at e0
      have hs1 := hb2.size
      cases bb
      · go_wp2_with fail
        go_roundw
        case rel => exact ⟨k + 1, q, by omega, by omega, by go_num, hb2, by rw [HS.out]; simpa using hown1⟩
        case measure => simp [intOf]; omega
      · go_wp2_with (at_builtin; refine app_ints (.tmp 20) (.tmp 25) (hown1.alloc _) (by simp; omega) (lit1 rfl _) (by omega) rfl rfl rfl rfl ?_; intro v5 w5 hown5 hg5 hat5)
        have hg5' := World.grownBy.trans (World.grownBy_alloc w1 _ _) hg5
        have hb5 := Below.own hb2 hown1 (Nat.le_refl _) hg5'
        go_roundw
        case rel => exact ⟨k + 1, q + 1, by omega, by omega, by go_num, hb5, by rw [HS.out, if_pos (by first | rfl | trivial)]; exact hown5⟩
        case measure => simp [intOf]; omega
    · rw [List.take_of_length_le (by omega)] at hown
      obtain ⟨Ao, co, rfl, hmc⟩ := own_form2 hown
      have HO := Lib.hid (RetInts.mk (c := co) (own_lenInts hown) (by omega) (FreshInts.of_own hown (Nat.le_refl _) (by omega)) hb)
      clear hown
      go_wp2_with fail
      go_ret
      exact HO.out
end Go.Proofs.Ytofcpfabjfhjoaa
