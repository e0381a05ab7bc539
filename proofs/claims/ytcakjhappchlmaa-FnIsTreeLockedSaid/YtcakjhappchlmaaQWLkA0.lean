/-
  AccessesOf of the program.
-/
import Derived.Test.YtcakjhappchlmaaQWLkP2
import Derived.Test.YtcakjhappchlmaaPkLkG
import Derived.Test.YtcakjhappchlmaaPkLkA
namespace Go.Proofs.Ytcakjhappchlmaa
open Go.RowKit Go.BigFrame
set_option linter.unusedVariables false

def accOK (st : List OpV) : Bool := validL st && decide ((accI st).length ≤ 16)
def AccPost (w : World) (st : List OpV) (e : Ending) (w' : World) : Prop :=
  ∃ A c, e = .returned (.tuple #[.slice A (orNil (accOK st) (accI st)).length c, .bool (accOK st)]) ∧ (orNil (accOK st) (accI st)).length ≤ c ∧ ROps w' A (orNil (accOK st) (accI st)).length (orNil (accOK st) (accI st)) ∧ Below w.heap.size w w'
theorem AccPost.bad {w w' : World} {st : List OpV} (h : accOK st = false) (hb : Below w.heap.size w w') : AccPost w st (.returned (.tuple #[.slice none 0 0, .bool false])) w' := by
  unfold AccPost
  rw [h]
  exact ⟨none, 0, rfl, Nat.le_refl _, ROps.nil, hb⟩
theorem AccPost.good {w w' : World} {st : List OpV} {A : Option Addr} {m c : Nat} (h : accOK st = true) (hm : (accI st).length = m) (hc : m ≤ c) (hr : ROps w' A m (accI st)) (hb : Below w.heap.size w w') : AccPost w st (.returned (.tuple #[.slice A m c, .bool true])) w' := by
  unfold AccPost
  rw [h]
  subst hm
  exact ⟨A, c, rfl, hc, hr, hb⟩
theorem accOps_snoc {st : List OpV} {k : Nat} {o : OpV} (h : st[k]? = some o) : accOps (st.take (k + 1)) = accOps (st.take k) ++ if 3 ≤ o.kind then [accOp o] else [] := by
  rw [take_snoc h]
  unfold accOps
  rw [List.filter_append, List.map_append]
  congr 1
  by_cases h3 : 3 ≤ o.kind
  · simp [h3]
  · simp [h3]
theorem comsOf_snoc {ts : List Int} {k : Nat} {t : Int} (h : ts[k]? = some t) : comsOf (ts.take (k + 1)) = comsOf (ts.take k) ++ [⟨t, 2, 0⟩] := by
  unfold comsOf
  rw [List.take_add_one, h, List.map_append]
  rfl

/-- The list of the transactions stays readable beside the row that grows. -/
def TsAt (w : World) (T : Option Addr) (ts : List Int) (v : Value) : Prop := RInts w T ts.length ts ∧ ∀ ad, T = some ad → ad.block < w.heap.size ∧ v.ownBlock ≠ some ad.block
theorem TsAt.grown {w w' : World} {T : Option Addr} {ts : List Int} {v v' : Value} (h : TsAt w T ts v) (hg : w.grownBy w' v.ownBlock) (hv : v'.ownBlock = v.ownBlock ∨ v'.ownBlock = some w.heap.size) : TsAt w' T ts v' := by
  refine ⟨h.1.grown hg fun b hb => (h.2 b hb).2, fun ad had => ?_⟩
  have hs := hg.size
  obtain ⟨h1, h2⟩ := h.2 ad had
  refine ⟨by omega, ?_⟩
  rcases hv with e | e
  · rw [e]; exact h2
  · rw [e]; intro e2; injection e2 with e2; omega
theorem TsAt.alloc {w : World} {T : Option Addr} {ts : List Int} {v : Value} (h : TsAt w T ts v) (b : Obj) : TsAt (w.alloc b) T ts v :=
  ⟨h.1.below ((Below.refl _ _).alloc (Nat.le_refl _) _) (Nat.le_refl _), fun ad had => ⟨by have := (h.2 ad had).1; simp; omega, (h.2 ad had).2⟩⟩
theorem TsAt.fresh {w w2 : World} {T Ao : Option Addr} {ts : List Int} {base n c : Nat} {xs : List Value} {e : TypeId} (hf : FreshInts w w2 T ts.length ts) (ho : w.ownsRow base e 3 (.slice Ao n c) n xs) : TsAt w2 T ts (.slice Ao n c) := by
  refine ⟨hf.1, fun ad had => ?_⟩
  obtain ⟨b, cur, rfl, h1, h2, h3⟩ := hf.2 ad had
  have hb : b < w2.heap.size := by
    rcases Nat.lt_or_ge b w2.heap.size with h | h
    · exact h
    · rw [Array.getElem?_eq_none (by omega)] at h2; cases h2
  refine ⟨hb, fun e => ?_⟩
  have := (World.ownsRow.lt ho b e).2
  skip
  omega

set_option maxRecDepth 100000 in
set_option maxHeartbeats 4000000 in
theorem AccessesOf_any (A : Option Addr) (n c : Nat) (st : List OpV) (w : World) (hx : ROps w A n st) :
    Calls Try.prog 30 #[.slice A n c] w (AccPost w st) := by
  have hn := hx.2.1
  have hl := hx.1
  have HX := Lib.hid hx
  have hva := ValidSteps_any A n c st w hx
  obtain ⟨bv, hbv⟩ : ∃ b, validL st = b := ⟨_, rfl⟩
  rw [hbv] at hva
  have HVA := Lib.hid hva
  have HBV := Lib.hid hbv
  clear hx hva hbv
  cases bv
  · have HB : Hid (accOK st = false) := by show _ = _; unfold accOK; rw [HBV.out]; rfl
    go_enter Try.func30, Try.ntmps30
    go_wp2_with (go_at_call 16; refine HVA.out.mono ?_; rintro e w1 ⟨rfl, hbw⟩)
    go_ret2
    exact AccPost.bad HB.out hbw
  · have HOK : Hid (∀ s ∈ st, okStep s = true) := (validL_iff.1 HBV.out).2
    have h40 : n ≤ 40 := by have := (validL_iff.1 HBV.out).1; omega
    go_enter Try.func30, Try.ntmps30
    go_wp2_with (go_at_call 16; refine HVA.out.mono ?_; rintro e w1 ⟨rfl, hbw⟩; have HST : Hid ((w1.alloc (.cells #[] 92)).ownsRow w.heap.size 92 3 (.slice (some ⟨w1.heap.size, 0, none⟩) 0 0) 0 (opCells (accOps (st.take 0)))) := World.ownsRow_made w1 #[] 0 hbw.size (by decide) rfl; have HB1 : Hid (Below w.heap.size w (w1.alloc (.cells #[] 92))) := hbw.alloc hbw.size _)
    go_loopw [4, 15] (fun ov i wr => ∃ (k m : Nat), k ≤ n ∧ m ≤ k ∧ i = .int .i64 k ∧ Below w.heap.size w wr ∧ wr.ownsRow w.heap.size 92 3 ov m (opCells (accOps (st.take k)))) (fun _ i _ => n - (intOf i).toNat)
    case atStart => exact ⟨0, 0, by omega, by omega, rfl, HB1.out, HST.out⟩
    case round =>
      clear HST HB1
      obtain ⟨k, m, hk, hmk, rfl, hb, hown⟩ := hrel
      obtain ⟨Ao, co, rfl, hmc⟩ := own_form2 hown
      by_cases hlt : k < n
      · obtain ⟨b, off, o, rfl, hbl, ho, c0, c1, c2⟩ := (HX.out.below hb (Nat.le_refl _)).at_ hlt
        have hok := okStep_iff.1 (HOK.out o (List.mem_of_getElem? ho))
        have HT := Lib.hid (accOps_snoc ho)
        have hs := hb.size
        have hkd : decide ((k : Int) < (n : Int)) = true := by simp; omega
        clear ho
        obtain ⟨tx, kd, it⟩ := o
        simp only at c0 c1 c2 hok HT
        by_cases h3 : kd = 3
        · subst h3
          have HT2 : Hid (accOps (st.take (k + 1)) = accOps (st.take k) ++ [⟨tx, 0, it⟩]) := by show _ = _; rw [HT.out]; rfl
          clear HT
          go_wp2_with (at_builtin; go_loud (refine app_ops (.tmp 23) (.tmp 29) ((hown.alloc _).alloc _) (by simp; omega) (ROps.litH (by simp) ⟨_, _, _⟩ _) (by omega) rfl rfl rfl rfl ?_; intro v3 w3 hown3 hg3 hat3; have hb3 := Below.own hb hown (Nat.le_refl _) (World.grownBy.trans (World.grownBy.trans (World.grownBy_alloc wr _ _) (World.grownBy_alloc _ _ _)) hg3); have HF := Lib.hid (And.intro hb3 hown3); clear hb3 hown3 hg3 hat3))
          go_roundw
          case rel => exact ⟨k + 1, m + 1, by omega, by omega, by go_num, HF.out.1, by rw [HT2.out]; exact HF.out.2⟩
          case measure => simp [intOf]; omega
        · have e3 : (kd == 3) = false := by simpa using h3
          by_cases h4 : kd = 4
          · subst h4
            have HT2 : Hid (accOps (st.take (k + 1)) = accOps (st.take k) ++ [⟨tx, 1, it⟩]) := by show _ = _; rw [HT.out]; rfl
            clear HT e3 h3
            go_wp2_with (at_builtin; go_loud (refine app_ops (.tmp 33) (.tmp 39) ((hown.alloc _).alloc _) (by simp; omega) (ROps.litH (by simp) ⟨_, _, _⟩ _) (by omega) rfl rfl rfl rfl ?_; intro v3 w3 hown3 hg3 hat3; have hb3 := Below.own hb hown (Nat.le_refl _) (World.grownBy.trans (World.grownBy.trans (World.grownBy_alloc wr _ _) (World.grownBy_alloc _ _ _)) hg3); have HF := Lib.hid (And.intro hb3 hown3); clear hb3 hown3 hg3 hat3))
            go_roundw
            case rel => exact ⟨k + 1, m + 1, by omega, by omega, by go_num, HF.out.1, by rw [HT2.out]; exact HF.out.2⟩
            case measure => simp [intOf]; omega
          · have e4 : (kd == 4) = false := by simpa using h4
            have HT2 : Hid (accOps (st.take (k + 1)) = accOps (st.take k)) := by show _ = _; rw [HT.out, if_neg (by omega), List.append_nil]
            have HF : Hid (Below w.heap.size w (wr.alloc (.cells #[.int .i64 tx, .int .i64 kd, .int .i64 it] 31)) ∧ (wr.alloc (.cells #[.int .i64 tx, .int .i64 kd, .int .i64 it] 31)).ownsRow w.heap.size 92 3 (.slice Ao m co) m (opCells (accOps (st.take k)))) := ⟨hb.alloc hs _, hown.alloc _⟩
            clear HT
            go_wp2_with fail
            go_roundw
            case rel => exact ⟨k + 1, m, by omega, by omega, by go_num, HF.out.1, by rw [HT2.out]; exact HF.out.2⟩
            case measure => simp [intOf]; omega
      · have e : st.take k = st := List.take_of_length_le (by omega)
        rw [e] at hown
        clear e
        have hkd : decide ((k : Int) < (n : Int)) = false := by simp; omega
        have hro : ROps wr Ao m (accOps st) := ROps.of_own hown (by omega)
        have htx := txsOf_any Ao m co (accOps st) wr hro
        have HTX := Lib.hid htx
        have HOWN := Lib.hid hown
        have HB := Lib.hid hb
        obtain ⟨ts, hts⟩ : ∃ ts, txsOf (accOps st) = ts := ⟨_, rfl⟩
        rw [hts] at HTX
        have htl : ts.length ≤ 4 := by rw [← hts]; exact txsOf_len _
        have HTS := Lib.hid hts
        clear htx hro hown hts hkd
        obtain ⟨bb, hbb⟩ : ∃ b, decide ((accI st).length ≤ 16) = b := ⟨_, rfl⟩
        have hac : accOK st = bb := by unfold accOK; rw [HBV.out, hbb]; rfl
        have hlen : (accI st).length = m + ts.length := by unfold accI; rw [HTS.out, List.length_append, own_lenOps HOWN.out]; simp [comsOf]
        rw [hlen] at hbb
        have hai : accI st = accOps st ++ comsOf ts := by unfold accI; rw [HTS.out]
        have HAC := Lib.hid hac
        have HLEN := Lib.hid hlen
        have HAI := Lib.hid hai
        have HBB := Lib.hid hbb
        clear hac hlen hai hbb
        go_wp2_with (go_at_call 90; go_loud (refine HTX.out.mono ?_; rintro e w2 ⟨T, tc, rfl, htc, hft, hb2⟩; have HTS2 : Hid (TsAt w2 T ts (.slice Ao m co)) := TsAt.fresh hft HOWN.out; have HB2 : Hid (Below w.heap.size w w2) := HB.out.trans (hb2.mono HB.out.size); have HO2 : Hid (w2.ownsRow w.heap.size 92 3 (.slice Ao m co) m (opCells (accOps st ++ comsOf (ts.take 0)))) := (by show World.ownsRow _ _ _ _ _ _ _; simpa [comsOf] using own_below HOWN.out hb2); clear hft hb2))
        go_loopw [4, 45] (fun ov i wr2 => ∃ (k2 : Nat), k2 ≤ ts.length ∧ i = .int .i64 k2 ∧ TsAt wr2 T ts ov ∧ Below w.heap.size w wr2 ∧ wr2.ownsRow w.heap.size 92 3 ov (m + k2) (opCells (accOps st ++ comsOf (ts.take k2)))) (fun _ i _ => ts.length - (intOf i).toNat)
        case atStart => exact ⟨0, by omega, rfl, HTS2.out, HB2.out, HO2.out⟩
        case round =>
          clear HTS2 HB2 HO2 HB HOWN HTX
          obtain ⟨k2, hk2, rfl, hta, hbr, hown2⟩ := hrel
          obtain ⟨Ap, cp, rfl, hmcp⟩ := own_form2 hown2
          by_cases hlt2 : k2 < ts.length
          · obtain ⟨b, off, x, rfl, hbl, hx, c0⟩ := hta.1.at_ hlt2
            have HT := Lib.hid (comsOf_snoc hx)
            have HTA := Lib.hid hta
            have hkd : decide ((k2 : Int) < (ts.length : Int)) = true := by simp; omega
            have hs2 := hbr.size
            clear hx hta
            go_wp2_with (at_builtin; go_loud (refine app_ops (.tmp 49) (.tmp 52) (hown2.alloc _) (by simp; omega) (ROps.lit1 _ ⟨_, _, _⟩ _) (by omega) rfl rfl rfl rfl ?_; intro v3 w3 hown3 hg3 hat3; have hb3 := Below.own hbr hown2 (Nat.le_refl _) (World.grownBy.trans (World.grownBy_alloc _ _ _) hg3); have HF := Lib.hid (And.intro hb3 (And.intro hown3 ((HTA.out.alloc _).grown hg3 hat3))); clear hb3 hown3 hg3 hat3))
            go_roundw
            case rel => exact ⟨k2 + 1, by omega, by go_num, HF.out.2.2, HF.out.1, by rw [HT.out, ← List.append_assoc]; exact HF.out.2.1⟩
            case measure => simp [intOf]; omega
          · obtain rfl : k2 = ts.length := by omega
            rw [List.take_length] at hown2
            have HRO : Hid (ROps wr Ap (m + ts.length) (accI st)) := by show ROps _ _ _ _; rw [HAI.out]; exact ROps.of_own hown2 (by omega)
            clear hta hown2
            cases bb
            · have hgt : ¬ m + ts.length ≤ 16 := by simpa using HBB.out
              have hgtd : decide ((16 : Int) < ((m + ts.length : Nat) : Int)) = true := by simp; omega
              go_wp2_with fail
              go_ret2
              exact AccPost.bad HAC.out hbr
            · have hgt : m + ts.length ≤ 16 := by simpa using HBB.out
              have hgtd : decide ((16 : Int) < ((m + ts.length : Nat) : Int)) = false := by simp; omega
              have hcl := ClipOps_any Ap (m + ts.length) cp wr (by omega) hmcp
              have HCL := Lib.hid hcl
              clear hcl
              go_wp2_with (go_at_call 91; refine HCL.out.mono ?_; rintro e w5 ⟨rfl, rfl⟩)
              go_ret2
              exact AccPost.good HAC.out HLEN.out (Nat.le_refl _) HRO.out hbr
end Go.Proofs.Ytcakjhappchlmaa
