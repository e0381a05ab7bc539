/-
  Texts that the proof rests on, joined: part 6.
-/
import Derived.IntWalk
import Derived.Maps.Keyed
import Derived.Maps.Own
import Derived.Maps.OwnOps
import Derived.Maps.Range
import Derived.Maps.RangeWalk
import Derived.Maps.Views
import Derived.DeepKeys4
import Derived.Test.YtncebpmckbcabaaSKp4
import Derived.Test.YtncebpmckbcabaaSKp5
namespace Go.Proofs.Ytncebpmckbcabaa
open Go.RowKit Go.BigFrame
set_option linter.unusedVariables false

/-- Whether the commit at place k is met: by one with a commit ahead, behind an operation of its own. -/
def metIn (s : List OpV) (k : Nat) (q o p : OpV) : Bool := o.tx == q.tx && confB o p && endOf (s.take k) p.tx == 2
def metTo (s : List OpV) (k : Nat) (q o : OpV) (j : Nat) : Nat → Bool
  | 0 => false
  | m + 1 => metTo s k q o j m || match s[j + 1 + m]? with | some p => metIn s k q o p | none => false
def metUp (s : List OpV) (k : Nat) (q : OpV) : Nat → Bool
  | 0 => false
  | j + 1 => metUp s k q j || match s[j]? with | some o => metTo s k q o j (k - (j + 1)) | none => false
def commB (s : List OpV) (k : Nat) : Bool := match s[k]? with | some q => q.kind == 2 && metUp s k q k | none => false

set_option maxRecDepth 100000 in
set_option maxHeartbeats 1000000 in
theorem rules5_any (A : Option Addr) (n c k : Nat) (s : List OpV) (w : World) (hx : ROps w A n s) (hnc : n ≤ c) (hk : k < n) :
    Calls Try.prog 145 #[.slice A n c, .int .i64 (k : Int)] w fun e w' => e = .returned (.bool (commB s k)) ∧ Below w.heap.size w w' := by
  have hl := hx.1
  have hn := hx.2.1
  obtain ⟨b, off, q, rfl, hbl, hq, c0, c1, c2⟩ := hx.at_ hk
  have hC0 : commB s k = (q.kind == 2 && metUp s k q k) := by unfold commB; rw [hq]
  have HCB := Lib.hid hC0
  have HX := Lib.hid hx
  obtain ⟨qt, qk, qi⟩ := q
  simp only at c0 c1 c2 HCB
  clear hx hC0 hq
  have hki : (k : Int) < (n : Int) := by omega
  have hk0 : (0 : Int) ≤ (k : Int) := by omega
  have hkc : (k : Int) ≤ (c : Int) := by omega
  by_cases h2 : qk = 2
  · subst h2
    go_enter Try.func145, Try.ntmps145
    go_wp2_with fail
    go_loopw [19] (fun i wr => ∃ j : Nat, j ≤ k ∧ i = .int .i64 j ∧ Below w.heap.size w wr ∧ metUp s k ⟨qt, 2, qi⟩ j = false) (fun i _ => k - (intOf i).toNat)
    case atStart => exact ⟨0, Nat.zero_le _, rfl, Below.refl _ _, rfl⟩
    case round =>
      obtain ⟨wo, rfl⟩ : ∃ wo : World, wo = wr := ⟨_, rfl⟩
      obtain ⟨j, hj, rfl, hbo, hno⟩ := hrel
      by_cases hlt : j < k
      · obtain ⟨b', off', o, hA', _, ho, e0, e1, e2⟩ := (HX.out.below hbo (Nat.le_refl _)).at_ (k := j) (by omega)
        injection hA' with hA'; injection hA' with q1 q2 _; subst q1; subst q2
        have hup : metUp s k ⟨qt, 2, qi⟩ (j + 1) = metTo s k ⟨qt, 2, qi⟩ o j (k - (j + 1)) := by
          simp only [metUp, ho, hno, Bool.false_or]
        have HU := Lib.hid hup
        obtain ⟨ot, ok, oi⟩ := o
        simp only at e0 e1 e2
        obtain ⟨W, hW⟩ : ∃ W : World, W = wo.alloc (.cells #[.int .i64 ot, .int .i64 ok, .int .i64 oi] 62) := ⟨_, rfl⟩
        obtain ⟨L0, L1, L2, hbW, hWs⟩ := op_box hW
        have HW := Lib.hid hW
        have hji : (j : Int) < (k : Int) := by omega
        have hj0 : (0 : Int) ≤ (j : Int) := by omega
        have hj1 : ((j : Int) + 1) ≤ (k : Int) := by omega
        have hbwW := hbo.trans (hbW.mono hbo.size)
        have hmax : Hid (∀ m, m ≤ k - (j + 1) → metTo s k ⟨qt, 2, qi⟩ ⟨ot, ok, oi⟩ j m = true → metTo s k ⟨qt, 2, qi⟩ ⟨ot, ok, oi⟩ j (k - (j + 1)) = true) := by
          intro m hm h
          obtain ⟨d, hd⟩ := Nat.le.dest hm
          rw [← hd]
          clear hd
          induction d with
          | zero => exact h
          | succ d ih => show (metTo s k ⟨qt, 2, qi⟩ ⟨ot, ok, oi⟩ j (m + d) || _) = true; rw [ih]; rfl
        have HUT : Hid (metUp s k ⟨qt, 2, qi⟩ (j + 1) = true → commB s k = true) := by
          intro h
          rw [HCB.out]
          have : ∀ d, metUp s k ⟨qt, 2, qi⟩ (j + 1 + d) = true := by
            intro d
            induction d with
            | zero => exact h
            | succ d ih => show (metUp s k ⟨qt, 2, qi⟩ (j + 1 + d) || _) = true; rw [ih]; rfl
          have h3 := this (k - (j + 1))
          rw [Nat.add_sub_cancel' (by omega)] at h3
          rw [h3]; rfl
        have hjc : ¬ (j + 1 = c) := by omega
        have hjc2 : ¬ ((j : Int) + 1 = (c : Int)) := by omega
        have hjc3 : ¬ (c ≤ j + 1) := by omega
        have hjw : IntKind.i64.wrap ((j : Int) + 1) = (j : Int) + 1 := IntWalk.i64_in _ (by omega)
        have hjt : ((j : Int) + 1).toNat = j + 1 := by omega
        clear hW hup ho hno
        obtain ⟨M, hM⟩ : ∃ M : Nat, M = k - (j + 1) := ⟨_, rfl⟩
        have hMi : (k : Int) - ((j : Int) + 1) = (M : Int) := by omega
        go_wp2_with fail
        rw [← HW.out]
        go_loopw [30] (fun i wr => ∃ m : Nat, m ≤ M ∧ i = .int .i64 m ∧ Below W.heap.size W wr ∧ metTo s k ⟨qt, 2, qi⟩ ⟨ot, ok, oi⟩ j m = false) (fun i _ => M - (intOf i).toNat)
        case atStart => exact ⟨0, Nat.zero_le _, rfl, Below.refl _ _, rfl⟩
        case round =>
          obtain ⟨wi, rfl⟩ : ∃ wi : World, wi = wr := ⟨_, rfl⟩
          obtain ⟨m, hm, rfl, hbi, hnm⟩ := hrel
          have hbwi := hbwW.trans (hbi.mono hbwW.size)
          by_cases hltm : m < M
          · obtain ⟨b', off', p, hA', _, hp, f0, f1, f2⟩ := (HX.out.below hbwi (Nat.le_refl _)).at_ (k := j + 1 + m) (by omega)
            injection hA' with hA'; injection hA' with q1 q2 _; subst q1; subst q2
            obtain ⟨E, hE⟩ : ∃ E, endOf (s.take k) p.tx = E := ⟨_, rfl⟩
            obtain ⟨r1, hr1⟩ : ∃ z, (ot == qt) = z := ⟨_, rfl⟩
            obtain ⟨r2, hr2⟩ : ∃ z, confB ⟨ot, ok, oi⟩ p = z := ⟨_, rfl⟩
            obtain ⟨r3, hr3⟩ : ∃ z, (E == 2) = z := ⟨_, rfl⟩
            have hnx : metTo s k ⟨qt, 2, qi⟩ ⟨ot, ok, oi⟩ j (m + 1) = (r1 && r2 && r3) := by
              simp only [metTo, hp, hnm, Bool.false_or]
              unfold metIn
              rw [hE, hr2, hr3]
              simp only
              rw [hr1]
            have HNX := Lib.hid hnx
            have hCf : ∀ u : Later (wi.alloc (.cells #[.int .i64 p.tx, .int .i64 p.kind, .int .i64 p.item] 62)), Calls Try.prog 146 #[.agg #[.int .i64 ot, .int .i64 ok, .int .i64 oi], .agg #[.int .i64 p.tx, .int .i64 p.kind, .int .i64 p.item]] u.1 fun e w' => e = .returned (.bool r2) ∧ Below u.1.heap.size u.1 w' := fun u => by
              have := conflicts_any ⟨ot, ok, oi⟩ p u.1; rw [hr2] at this; exact this
            have hEn : ∀ u : Later wi, Calls Try.prog 70 #[.slice (some ⟨b, off, none⟩) k c, .int .i64 p.tx] u.1 fun e w' => e = .returned (.int .i64 E) ∧ Below u.1.heap.size u.1 w' := fun u => by
              have := endOf_any (some ⟨b, off, none⟩) k c (s.take k) p.tx u.1 (((HX.out.below hbwi (Nat.le_refl _)).take (by omega)).later u); rw [hE] at this; exact this
            obtain ⟨pt, pk, pit⟩ := p
            simp only at f0 f1 f2 hCf hEn
            obtain ⟨W3, hW3⟩ : ∃ W : World, W = wi.alloc (.cells #[.int .i64 pt, .int .i64 pk, .int .i64 pit] 62) := ⟨_, rfl⟩
            rw [← hW3] at hCf
            obtain ⟨M0, M1, M2, hbW3, hWs3⟩ := op_box hW3
            have HW3 := Lib.hid hW3
            have HC := Lib.hid hCf
            have hE3 : ∀ u : Later W3, Calls Try.prog 70 #[.slice (some ⟨b, off, none⟩) k c, .int .i64 pt] u.1 fun e w' => e = .returned (.int .i64 E) ∧ Below u.1.heap.size u.1 w' := fun u => hEn ⟨u.1, hbW3.trans (u.2.mono hbW3.size)⟩
            have HE := Lib.hid hE3
            have hbi3 := hbi.trans (hbW3.mono hbi.size)
            have hbo3 := hbwi.trans (hbW3.mono hbwi.size)
            have l0 : ∀ u : Later W3, u.1.cell? ⟨wo.heap.size, 0, none⟩ = some (.int .i64 ot) := fun u => L0 ⟨u.1, hbi3.trans (u.2.mono hbi3.size)⟩
            have l1 : ∀ u : Later W3, u.1.cell? ⟨wo.heap.size, 1, none⟩ = some (.int .i64 ok) := fun u => L1 ⟨u.1, hbi3.trans (u.2.mono hbi3.size)⟩
            have l2 : ∀ u : Later W3, u.1.cell? ⟨wo.heap.size, 2, none⟩ = some (.int .i64 oi) := fun u => L2 ⟨u.1, hbi3.trans (u.2.mono hbi3.size)⟩
            have n0 : ∀ u : Later W3, u.1.cell? ⟨b, off + k * 3, none⟩ = some (.int .i64 qt) := fun u => Later.cell c0 ⟨u.1, hbo3.trans (u.2.mono hbo3.size)⟩
            have eo : off + (j + 1) * 3 + m * 3 = off + (j + 1 + m) * 3 := by omega
            have g0 : wi.cell? ⟨b, off + (j + 1) * 3 + m * 3, none⟩ = some (.int .i64 pt) := by rw [eo]; exact f0
            have g1 : wi.cell? ⟨b, off + (j + 1) * 3 + m * 3 + 1, none⟩ = some (.int .i64 pk) := by rw [eo]; exact f1
            have g2 : wi.cell? ⟨b, off + (j + 1) * 3 + m * 3 + 2, none⟩ = some (.int .i64 pit) := by rw [eo]; exact f2
            have hmi : (m : Int) < (M : Int) := by omega
            have hm0 : (0 : Int) ≤ (m : Int) := by omega
            clear hCf hEn hE3 hW3 hp hnx hnm eo f0 f1 f2 hE hr2
            go_wp2_with fail
            rw [← HW3.out]
            clear g0 g1 g2
            cases r1
            · refine region_later (by kernel_rfl) (by kernel_rfl) ?_
              repeat (go_big_quiet_step ((first | (go_at_call 146; exact later_call _ (HC.out _)) | (go_at_call 70; exact later_call _ (HE.out _)))))
              refine wpQuiet_nil ?_
              rintro _ ⟨u, rfl⟩
              have hbu := hbi3.trans (u.2.mono hbi3.size)
              go_wp2_with fail
              go_roundw
              case rel => exact ⟨m + 1, by omega, by go_num, hbu, by rw [HNX.out]; rfl⟩
              case measure => simp [intOf]; omega
            · cases r2
              · refine region_later (by kernel_rfl) (by kernel_rfl) ?_
                repeat (go_big_quiet_step ((first | (go_at_call 146; exact later_call _ (HC.out _)) | (go_at_call 70; exact later_call _ (HE.out _)))))
                refine wpQuiet_nil ?_
                rintro _ ⟨u, rfl⟩
                have hbu := hbi3.trans (u.2.mono hbi3.size)
                go_wp2_with fail
                go_roundw
                case rel => exact ⟨m + 1, by omega, by go_num, hbu, by rw [HNX.out]; rfl⟩
                case measure => simp [intOf]; omega
              · cases r3
                · refine region_later (by kernel_rfl) (by kernel_rfl) ?_
                  repeat (go_big_quiet_step ((first | (go_at_call 146; exact later_call _ (HC.out _)) | (go_at_call 70; exact later_call _ (HE.out _)))))
                  refine wpQuiet_nil ?_
                  rintro _ ⟨u, rfl⟩
                  have hbu := hbi3.trans (u.2.mono hbi3.size)
                  go_wp2_with fail
                  go_roundw
                  case rel => exact ⟨m + 1, by omega, by go_num, hbu, by rw [HNX.out]; rfl⟩
                  case measure => simp [intOf]; omega
                · have hend : Hid (commB s k = true) := by
                    refine HUT.out ?_
                    rw [HU.out, ← hM]
                    have := hmax.out (m + 1) (by omega) HNX.out
                    rw [← hM] at this
                    exact this
                  refine region_later (by kernel_rfl) (by kernel_rfl) ?_
                  repeat (go_big_quiet_step ((first | (go_at_call 146; exact later_call _ (HC.out _)) | (go_at_call 70; exact later_call _ (HE.out _)))))
                  refine wpQuiet_nil ?_
                  rintro _ ⟨u, rfl⟩
                  have hbu := hbo3.trans (u.2.mono hbo3.size)
                  go_wp2_with fail
                  go_ret
                  exact ⟨ret_bool hend.out.symm, hbu⟩
          · have hfin : Hid (metUp s k ⟨qt, 2, qi⟩ (j + 1) = false) := by
              show _ = _
              rw [HU.out, ← hM]
              have : m = M := by omega
              rw [← this]; exact hnm
            clear hnm
            go_wp2_with fail
            go_roundw
            case rel => exact ⟨j + 1, by omega, by go_num, hbwi, hfin.out⟩
            case measure => simp [intOf]; omega
      · have hfin : Hid (commB s k = false) := by
          show _ = _
          rw [HCB.out]
          have : j = k := by omega
          rw [← this] at hno ⊢
          rw [hno]; rfl
        clear hno
        go_wp2_with fail
        go_ret
        exact ⟨ret_bool hfin.out.symm, hbo⟩
  · have hfin : Hid (commB s k = false) := by
      show _ = _
      rw [HCB.out]
      have : (qk == 2) = false := by simpa using h2
      rw [this]; rfl
    go_enter Try.func145, Try.ntmps145
    go_wp2_with fail
    go_ret
    exact ⟨ret_bool hfin.out.symm, Below.refl _ _⟩
end Go.Proofs.Ytncebpmckbcabaa
namespace Go.Proofs.Ytncebpmckbcabaa
open Go.RowKit
set_option linter.unusedVariables false

def okStep (s : OpV) : Bool := inR s.tx 0 3 && inR s.kind 0 4 && inR s.item 0 2
theorem okStep_iff {s : OpV} : okStep s = true ↔ (0 ≤ s.tx ∧ s.tx ≤ 3) ∧ (0 ≤ s.kind ∧ s.kind ≤ 4) ∧ 0 ≤ s.item ∧ s.item ≤ 2 := by
  simp only [okStep, inR, Bool.and_eq_true, decide_eq_true_eq]
  omega
/-- What a step does to the lock of t on x. -/
def hStep (t x h : Int) (s : OpV) : Int := if s.tx = t ∧ s.item = x then (if s.kind = 2 then -1 else if s.kind ≤ 1 then s.kind else h) else h
def heldI (st : List OpV) (t x : Int) : Int := st.foldl (hStep t x) (-1)
theorem heldI_snoc (st : List OpV) (s : OpV) (t x : Int) : heldI (st ++ [s]) t x = hStep t x (heldI st t x) s := by simp [heldI]
theorem heldI_succ {st : List OpV} {k : Nat} {s : OpV} (h : st[k]? = some s) (t x : Int) : heldI (st.take (k + 1)) t x = hStep t x (heldI (st.take k) t x) s := by
  rw [take_snoc h, heldI_snoc]
theorem heldI_rng {st : List OpV} (h : ∀ s ∈ st, okStep s = true) (t x : Int) : heldI st t x = -1 ∨ heldI st t x = 0 ∨ heldI st t x = 1 := by
  have : ∀ (l : List OpV) (a : Int), (∀ s ∈ l, okStep s = true) → (a = -1 ∨ a = 0 ∨ a = 1) → (l.foldl (hStep t x) a = -1 ∨ l.foldl (hStep t x) a = 0 ∨ l.foldl (hStep t x) a = 1) := by
    intro l
    induction l with
    | nil => intro a _ ha; exact ha
    | cons s r ih =>
      intro a hl ha
      rw [List.foldl_cons]
      refine ih _ (fun q hq => hl q (List.mem_cons_of_mem _ hq)) ?_
      have := okStep_iff.1 (hl s (by simp))
      unfold hStep
      split
      · split
        · exact .inl rfl
        · split
          · omega
          · exact ha
      · exact ha
  exact this st (-1) h (.inl rfl)
/-- Another one than t has a lock on x of at least a kind. -/
def othersB (p : List OpV) (t x least : Int) : Bool := [0, 1, 2, 3].any fun u => u != t && decide (least ≤ heldI p u x)
/-- The step o behind p is illegal. -/
def illB (p : List OpV) (o : OpV) : Bool :=
  if o.kind = 0 then decide (0 ≤ heldI p o.tx o.item) || othersB p o.tx o.item 1
  else if o.kind = 1 then heldI p o.tx o.item == 1 || othersB p o.tx o.item 0
  else if o.kind = 4 then heldI p o.tx o.item != 1
  else decide (heldI p o.tx o.item < 0)
def illAtB (st : List OpV) (i : Nat) : Bool := match st[i]? with | some o => illB (st.take i) o | none => false
end Go.Proofs.Ytncebpmckbcabaa
namespace Go.Proofs.Ytncebpmckbcabaa
open Go.RowKit
set_option linter.unusedVariables false


theorem gpcells : Try.prog.cellsOf 167 = 2 := by kernel_rfl
theorem gprow : (167 : TypeId) < Try.prog.types.size := of_decide_eq_true (by kernel_rfl)
theorem gpwide : (match Try.prog.underlying 167 with | some (.array _ _) | some (.struct _) => true | _ => false) = true := by rw [Try.underlying167]
theorem gplaid : laidOutB Try.prog = true := by kernel_rfl
set_option maxRecDepth 100000 in
theorem gplaw : WideMaps.KeyLaw Try.prog 167 := deep_law_laid gplaid (m := 2) (by omega) gprow (by kernel_rfl) gpwide
theorem gpkeyed : Maps.Keyed Try.prog 167 := Maps.Keyed.of_law gplaw
theorem gpkt : Try.prog.keyType 167 = true := by kernel_rfl
def gpval (t u : Int) : Value := .agg #[.int .i64 t, .int .i64 u]
theorem gpformed {a b : Value} : (Value.agg #[a, b]).formed Try.prog 167 = true := by simp [Value.formed, Try.underlying167, gpcells]
def gplit (t u : Int) : Lit := .string (keyBytes [.int .i64 t, .int .i64 u])
theorem gpkey {t u : Int} (ht : (Lit.int .i64 t).wf = true) (hu : (Lit.int .i64 u).wf = true) : keyOf Try.prog 167 (gpval t u) = some (gplit t u) := by
  obtain ⟨d, hd⟩ : ∃ d, Try.prog.types.size = d + 1 := ⟨Try.prog.types.size - 1, by have h : (167 : Nat) < Try.prog.types.size := gprow; omega⟩
  have hc : Try.prog.cellsOf 3 = 1 := by kernel_rfl
  unfold keyOf gpval gplit
  rw [Try.underlying167]
  simp only [gpkt, gpformed, Bool.and_self, if_true]
  rw [hd]
  simp [Program.keyLits, Try.underlying167, Try.underlying3, gpcells, hc, Value.cells, ht, hu]
set_option maxRecDepth 100000 in
theorem gpinv {v : Value} {kl : Lit} (h : keyOf Try.prog 167 v = some kl) : ∃ t u : Int, v = gpval t u ∧ (Lit.int .i64 t).wf = true ∧ (Lit.int .i64 u).wf = true ∧ kl = gplit t u := by
  have h0 := h
  have hf : v.formed Try.prog 167 = true := by
    unfold keyOf at h
    rw [Try.underlying167] at h
    simp only [gpkt, Bool.true_and] at h
    cases hv : v.formed Try.prog 167
    · rw [hv] at h; simp at h
    · rfl
  obtain ⟨cs, rfl⟩ : ∃ cs, v = .agg cs := by
    cases v <;> simp [Value.formed, Try.underlying167] at hf ⊢
  have hsz : cs.size = 2 := by
    simp only [Value.formed, Try.underlying167, gpcells, beq_iff_eq] at hf
    exact hf
  obtain ⟨a, b, rfl⟩ : ∃ a b, cs = #[a, b] := by
    obtain ⟨l⟩ := cs
    match l, hsz with
    | [a, b], _ => exact ⟨a, b, rfl⟩
  obtain ⟨d, hd⟩ : ∃ d, Try.prog.types.size = d + 1 := ⟨Try.prog.types.size - 1, by have h : (167 : Nat) < Try.prog.types.size := gprow; omega⟩
  have hc : Try.prog.cellsOf 3 = 1 := by kernel_rfl
  have key : ∀ x : Value, (∃ n : Int, x = .int .i64 n ∧ (Lit.int .i64 n).wf = true) ∨ Try.prog.keyLits (d + 1) 3 [x] = none := by
    intro x
    cases x
    case int q n =>
      by_cases hq : q = .i64 ∧ (Lit.int .i64 n).wf = true
      · obtain ⟨rfl, hw⟩ := hq
        exact .inl ⟨n, rfl, hw⟩
      · right
        simp only [Program.keyLits, Try.underlying3]
        rw [if_neg hq]
    all_goals (right; simp [Program.keyLits, Try.underlying3])
  unfold keyOf at h
  rw [Try.underlying167] at h
  simp only [gpkt, gpformed, Bool.and_self, if_true] at h
  rw [hd] at h
  rw [Program.keyLits.eq_def] at h
  simp only [Try.underlying167, Value.cells] at h
  rcases key a with ⟨t, rfl, ht⟩ | ha
  · rcases key b with ⟨u, rfl, hu⟩ | hb
    · refine ⟨t, u, rfl, ht, hu, ?_⟩
      have h1 := gpkey ht hu
      unfold gpval at h1
      rw [h1] at h0
      injection h0 with h0
      exact h0.symm
    · simp [gpcells, hc, hb] at h
  · simp [gpcells, hc, ha] at h


theorem gpbool_inv0 {P : Program} {e : TypeId} (he : P.underlying e = some .bool) {v : Value} {z : DataW Unit × List MemPlace} (h : plainElem (H := Unit) P e v = some z) : ∃ c : Bool, v = .bool c ∧ z = (.lit (.bool c), []) := by
  unfold plainElem at h
  rw [he] at h
  cases v <;> simp at h
  exact ⟨_, rfl, h.symm⟩
theorem gpbool_inv {v : Value} {z : DataW Unit × List MemPlace} (h : plainElem (H := Unit) Try.prog 4 v = some z) : ∃ c : Bool, v = .bool c ∧ z = (.lit (.bool c), []) := gpbool_inv0 Try.underlying4 h
section
variable {w : World} {ops : Array Oper} {rest : List Oper} {o : Oper} {a : Act} {Q : Exit → Act → World → Prop}
set_option maxRecDepth 100000 in
theorem gpbool_next (hg : o.guard = none) (it : Operand) (hop : o.op = Op.next it false) (b r n : Nat) (D : DataW Unit) (left : Lit → Bool) (cnt : Nat)
    (hit : a.eval it = .pointer (some ⟨r, 0, none⟩)) (h : w.ranges Try.prog 167 (plainElem (H := Unit) Try.prog 4) b r n D left cnt)
    (hDone : cnt = 0 → (∀ kl, left kl = false) → wpList Try.prog ops Q rest (a.put o.dst (.tuple #[.bool false])) w)
    (hMore : ∀ (t u : Int) (c : Bool) (w' : World) (cnt' : Nat), (Lit.int .i64 t).wf = true → (Lit.int .i64 u).wf = true → left (gplit t u) = true → (∀ zd, D.atKey (gplit t u) zd = .lit (.bool c)) → w'.ranges Try.prog 167 (plainElem (H := Unit) Try.prog 4) b r n D (fun z => left z && !z.sameKey (gplit t u)) cnt' → cnt' < cnt →
      w.grownBy w' (some r) → w'.heap.size = w.heap.size → (Instr.entry (.pointer (some ⟨r, 0, none⟩))).run Try.prog w' = .ok (.tuple #[.agg #[.int .i64 t, .int .i64 u], .bool c]) w' → wpList Try.prog ops Q rest (a.put o.dst (.tuple #[.bool true, .agg #[.int .i64 t, .int .i64 u], .bool c])) w') :
    wpList Try.prog ops Q (o :: rest) a w := by
  refine wpList_next_ranges w hg it hop 167 gpkeyed (plainElem (H := Unit) Try.prog 4) (fun p : Int × Int => gpval p.1 p.2) (fun c : Bool => .bool c) (fun key kl hk => ?_) (fun v y hv => ?_) b r n D left cnt hit h hDone ?_
  · obtain ⟨t, u, rfl, _⟩ := gpinv hk
    exact ⟨(t, u), rfl⟩
  · obtain ⟨c, rfl, _⟩ := gpbool_inv hv
    exact ⟨c, rfl⟩
  · rintro ⟨x1, x2⟩ c kl y w' cnt' hk hl hv hat hrg hlt hgr hsz hen
    obtain ⟨t, u, e, ht, hu, rfl⟩ := gpinv hk
    unfold gpval at e
    simp only [Value.agg.injEq, Array.mk.injEq, List.cons.injEq, Value.int.injEq, true_and, and_true] at e
    obtain ⟨rfl, rfl⟩ := e
    obtain ⟨c', e, rfl⟩ := gpbool_inv hv
    obtain rfl : c = c' := by simpa using e
    exact hMore x1 x2 c w' cnt' ht hu hl hat hrg hlt hgr hsz hen
end

end Go.Proofs.Ytncebpmckbcabaa
