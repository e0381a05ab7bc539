/-
  ahead and TimeOrders of the reference: the walks.
-/
import Derived.Test.YtkbclcgdkbhgdaaQTimTimeP0
import Derived.Test.YtkbclcgdkbhgdaaPkOrdX3
import Derived.IntWalk
namespace Go.Proofs.Ytkbclcgdkbhgdaa
open Go.RowKit Go.BigFrame
set_option linter.unusedVariables false

def ahRow (c : List OpV) (t u : Int) (i : Nat) (a : OpV) (q : Nat) : Prop := ∀ j b, i < j → j < q → c[j]? = some b → ¬ (a.tx = u ∧ b.tx = t)
def ahPre (c : List OpV) (t u : Int) (k : Nat) : Prop := ∀ i a, i < k → c[i]? = some a → ahRow c t u i a c.length
theorem ahPre_zero {c : List OpV} {t u : Int} : ahPre c t u 0 := fun i a h => by omega
theorem ahPre_succ {c : List OpV} {t u : Int} {k : Nat} {a : OpV} (h : ahPre c t u k) (ha : c[k]? = some a) (hr : ahRow c t u k a c.length) : ahPre c t u (k + 1) := by
  intro i b hi hb
  by_cases e : i = k
  · subst e; rw [ha] at hb; injection hb with hb; subst hb; exact hr
  · exact h i b (by omega) hb
theorem ahRow_zero {c : List OpV} {t u : Int} {k : Nat} {a : OpV} : ahRow c t u k a (k + 1 + 0) := fun j b h1 h2 => by omega
theorem ahRow_succ {c : List OpV} {t u : Int} {k q : Nat} {a b : OpV} (h : ahRow c t u k a (k + 1 + q)) (hb : c[k + 1 + q]? = some b) (hl : ¬ (a.tx = u ∧ b.tx = t)) : ahRow c t u k a (k + 1 + (q + 1)) := by
  intro j v h1 h2 hv
  by_cases e : j = k + 1 + q
  · subst e; rw [hb] at hv; injection hv with hv; subst hv; exact hl
  · exact h j v h1 (by omega) hv
theorem ahead_of {c : List OpV} {t u : Int} (h : ahPre c t u c.length) : aheadB c t u = true := by
  unfold aheadB
  rw [decide_eq_true_eq, List.pairwise_iff_getElem]
  intro i j hi hj hij
  exact h i _ hi (List.getElem?_eq_getElem hi) j _ hij hj (List.getElem?_eq_getElem hj)
theorem ahead_not {c : List OpV} {t u : Int} {i j : Nat} {a b : OpV} (hij : i < j) (ha : c[i]? = some a) (hb : c[j]? = some b) (h1 : a.tx = u) (h2 : b.tx = t) : aheadB c t u = false := by
  cases h : aheadB c t u
  · rfl
  · unfold aheadB at h
    rw [decide_eq_true_eq, List.pairwise_iff_getElem] at h
    obtain ⟨hi, rfl⟩ := List.getElem?_eq_some_iff.1 ha
    obtain ⟨hj, rfl⟩ := List.getElem?_eq_some_iff.1 hb
    exact absurd ⟨h1, h2⟩ (h i j hi hj hij)

set_option maxRecDepth 100000 in
set_option maxHeartbeats 1000000 in
theorem ahead_any (A : Option Addr) (n c : Nat) (s : List OpV) (t u : Int) (w : World) (hx : ROps w A n s) :
    Calls Try.prog 81 #[.slice A n c, .int .i64 t, .int .i64 u] w fun e w' => e = .returned (.bool (aheadB s t u)) ∧ Below w.heap.size w w' := by
  have hn := hx.2.1
  have hl := hx.1
  have HX := Lib.hid hx
  have HLN := Lib.hid hl
  clear hx hl
  go_enter Try.func81, Try.ntmps81
  go_wp2_with fail
  go_loopw [7] (fun i wr => ∃ k : Nat, k ≤ n ∧ i = .int .i64 k ∧ Below w.heap.size w wr ∧ ahPre s t u k) (fun i _ => n - (intOf i).toNat)
  case atStart => exact ⟨0, Nat.zero_le _, rfl, Below.refl _ _, ahPre_zero⟩
  case round =>
    obtain ⟨wo, rfl⟩ : ∃ wo : World, wo = wr := ⟨_, rfl⟩
    obtain ⟨k, hk, rfl, hb, hpre⟩ := hrel
    have HPRE := Lib.hid hpre
    by_cases hlt : k < n
    · obtain ⟨b0, off, a, rfl, hbl, ha, c0, _, _⟩ := (HX.out.below hb (Nat.le_refl _)).at_ hlt
      have HA := Lib.hid ha
      obtain ⟨at_, ak, ai⟩ := a
      simp only at c0
      clear ha c0 hpre
      go_wp2_with fail
      go_loopw [8] (fun i wr => ∃ q : Nat, k + 1 + q ≤ n ∧ i = .int .i64 ((k + 1 + q : Nat) : Int) ∧ Below w.heap.size w wr ∧ ahRow s t u k ⟨at_, ak, ai⟩ (k + 1 + q)) (fun i _ => n - (intOf i).toNat)
      case atStart => exact ⟨0, by omega, by go_num, hb, ahRow_zero⟩
      case round =>
        obtain ⟨wi, rfl⟩ : ∃ wi : World, wi = wr := ⟨_, rfl⟩
        obtain ⟨q, hq, rfl, hbi, hrow⟩ := hrel
        have HROW := Lib.hid hrow
        obtain ⟨K, hK⟩ : ∃ K : Nat, k + 1 + q = K := ⟨_, rfl⟩
        have HKK := Lib.hid hK
        by_cases hltk : k + 1 + q < n
        · have hxi := HX.out.below hbi (Nat.le_refl _)
          obtain ⟨b1, off1, a1, hA1, hbl1, ha1, c0, _, _⟩ := hxi.at_ hlt
          injection hA1 with hA1; injection hA1 with q1 q2 _; subst q1; subst q2
          rw [HA.out] at ha1
          injection ha1 with ha1
          subst ha1
          obtain ⟨b2, off2, p, hA2, hbl2, hp, d0, _, _⟩ := hxi.at_ hltk
          injection hA2 with hA2; injection hA2 with q1 q2 _; subst q1; subst q2
          obtain ⟨pt, pk, pi⟩ := p
          simp only at c0 d0
          have HP := Lib.hid hp
          rw [hK] at d0 hltk ⊢
          have hKi : (K : Int) < (n : Int) := by omega
          have hK0 : (0 : Int) ≤ (K : Int) := by omega
          have hki : (k : Int) < (n : Int) := by omega
          have hk0 : (0 : Int) ≤ (k : Int) := by omega
          clear hp hxi hrow hK
          by_cases h1 : at_ = u
          · by_cases h2 : pt = t
            · have HF : Hid (aheadB s t u = false) := ahead_not (i := k) (j := k + 1 + q) (by omega) HA.out HP.out h1 h2
              subst h1; subst h2
              go_wp2_with fail
              go_ret
              exact ⟨ret_bool HF.out.symm, hbi.trans ((by (repeat (first | exact Below.refl _ _ | assumption | refine B_alloc ?_ (Nat.le_refl _) _ | refine Below.drew ?_ | refine B_drewN ?_ _ | refine B_after (by assumption) ?_ | (refine B_set ?_ ?_; rotate_left; (first | exact Nat.le_refl _ | (simp; done) | (simp at *; omega))))) : Below wi.heap.size wi _).mono hbi.size)⟩
            · have HN := Lib.hid (ahRow_succ HROW.out HP.out (fun h => h2 h.2))
              subst h1
              go_wp2_with fail
              go_roundw
              case rel => exact ⟨q + 1, by have := HKK.out; omega, by have := HKK.out; go_num, hbi.trans ((by (repeat (first | exact Below.refl _ _ | assumption | refine B_alloc ?_ (Nat.le_refl _) _ | refine Below.drew ?_ | refine B_drewN ?_ _ | refine B_after (by assumption) ?_ | (refine B_set ?_ ?_; rotate_left; (first | exact Nat.le_refl _ | (simp; done) | (simp at *; omega))))) : Below wi.heap.size wi _).mono hbi.size), HN.out⟩
              case measure => have := HKK.out; simp [intOf]; omega
          · have HN := Lib.hid (ahRow_succ HROW.out HP.out (fun h => h1 h.1))
            go_wp2_with fail
            go_roundw
            case rel => exact ⟨q + 1, by have := HKK.out; omega, by have := HKK.out; go_num, hbi.trans ((by (repeat (first | exact Below.refl _ _ | assumption | refine B_alloc ?_ (Nat.le_refl _) _ | refine Below.drew ?_ | refine B_drewN ?_ _ | refine B_after (by assumption) ?_ | (refine B_set ?_ ?_; rotate_left; (first | exact Nat.le_refl _ | (simp; done) | (simp at *; omega))))) : Below wi.heap.size wi _).mono hbi.size), HN.out⟩
            case measure => have := HKK.out; simp [intOf]; omega
        · have hkn : k + 1 + q = n := by omega
          have HN : Hid (ahPre s t u (k + 1)) := ahPre_succ HPRE.out HA.out (by rw [HLN.out]; rw [hkn] at hrow; exact hrow)
          rw [hK] at hltk ⊢
          have hKi : ¬ (K : Int) < (n : Int) := by omega
          clear hrow hK hkn
          go_wp2_with fail
          go_roundw
          case rel => exact ⟨k + 1, by omega, by go_num, hbi, HN.out⟩
          case measure => simp [intOf]; omega
    · obtain rfl : k = n := by omega
      have HF : Hid (aheadB s t u = true) := ahead_of (by rw [HLN.out]; exact HPRE.out)
      clear hpre
      go_wp2_with fail
      go_ret
      exact ⟨ret_bool HF.out.symm, hb⟩

/-- What lies while the rows that time adds are laid. -/
structure TsInv (w : World) (g : Nat) (rest : List Value) (C : Option Addr) (n : Nat) (K : List OpV) (L : Option Addr) (m : Nat) (LL : List Int) (rows : List Nat) (wr : World) : Prop where
  below : Below w.heap.size w wr
  row : RowIs wr g 3 (intCells (rowsI rows) ++ rest)
  c : ROps wr C n K
  l : RInts wr L m LL
section
variable {w wr : World} {g : Nat} {rest : List Value} {C : Option Addr} {n : Nat} {K : List OpV} {L : Option Addr} {m : Nat} {LL : List Int} {rows : List Nat}
theorem TsInv.later {W : World} (h : TsInv w g rest C n K L m LL rows wr) (hb : Below wr.heap.size wr W) : TsInv w g rest C n K L m LL rows W :=
  ⟨h.below.trans (hb.mono h.below.size), h.row.below hb (Nat.le_refl _), h.c.below hb (Nat.le_refl _), h.l.below hb (Nat.le_refl _)⟩
theorem TsInv.drew (h : TsInv w g rest C n K L m LL rows wr) : TsInv w g rest C n K L m LL rows wr.drew := h.later (Below.refl _ wr).drew
theorem TsInv.set {T : Nat} {u : Int} (h : TsInv w g rest C n K L m LL rows wr) (hge : w.heap.size ≤ g) (hC : ∀ ad, C = some ad → g ≠ ad.block) (hL : ∀ ad, L = some ad → g ≠ ad.block) (hT : T ≤ 3) (h4 : Rows4 rows) {v : Int}
    (hv : v = ((rows.getD T 0 ||| (1 <<< u.toNat) : Nat) : Int)) : TsInv w g rest C n K L m LL (rowSet rows T u) (wr.setCell ⟨g, T, none⟩ (.int .i64 v)) := by
  subst hv
  refine ⟨h.below.setCell (by simpa using hge) _, ?_, h.c.grown grown_set (fun b hb e => hC b hb (by injection e)), h.l.grown grown_set (fun b hb e => hL b hb (by injection e))⟩
  rw [rowsI_set]
  exact row_setInt h.row (by simp [rowsI, h4.1]; omega)
theorem TsInv.at_ (h : TsInv w g rest C n K L m LL rows wr) (h4 : Rows4 rows) {T : Nat} (hT : T ≤ 3) : wr.cell? ⟨g, T, none⟩ = some (.int .i64 ((rows.getD T 0 : Nat) : Int)) ∧ wr.frozen? ⟨g, T, none⟩ = false ∧ rows.getD T 0 < 16 := by
  obtain ⟨h1, h2⟩ := rowsI_at h4 hT
  refine ⟨h.row.cell ?_, h.row.frozen T, h2⟩
  rw [List.getElem?_append_left (List.getElem?_eq_some_iff.1 h1).1]
  exact h1
end

set_option maxRecDepth 100000 in
set_option maxHeartbeats 4000000 in
theorem sTimeOrders_any (A : Option Addr) (n c : Nat) (s : List OpV) (w : World) (hx : ROps w A n s) (hnc : n ≤ c) :
    Calls Try.prog 37 #[.slice A n c] w (RetLists w (orNil (validS s) (timeS s))) := by
  have HX := Lib.hid hx
  clear hx
  go_enter Try.func37, Try.ntmps37
  go_wp2_with fail
  refine (svalid_any A n c s w HX.out).mono ?_
  rintro e w1 ⟨rfl, hb⟩
  cases hv : validS s
  · have HV := Lib.hid hv
    clear hv
    go_wp2_with fail
    go_ret
    rw [HV.out]
    exact RetLists.nil hb
  · have HV := Lib.hid hv
    have HC := Lib.hid (scommitted_any A n c s w1 (HX.out.below hb (Nat.le_refl _)))
    have hcv : ∀ o ∈ committed s, validOp o = true := fun o ho => validS_ops hv o (comm_sub ho)
    have HCV := Lib.hid hcv
    have HR4 : Hid (Rows4 (grI (committed s))) := grI_ok (comm_tx4 hv)
    have HOO : Hid (timeS s = topF (txsOf (committed s)) (tmTo (committed s) (txsOf (committed s)) (grI (committed s)) (txsOf (committed s)).length) (txsOf (committed s)).length []) := rfl
    have HRL := Lib.hid (txsOf_rng0 (committed s))
    have hL4 : (txsOf (committed s)).length ≤ 4 := txsOf_len _
    clear hv hcv
    generalize committed s = K at *
    go_wp2_with fail
    refine HC.out.mono ?_
    rintro e w2 ⟨C, cc, rfl, hcc, hfr, hb2⟩
    have hfc := hfr.1
    have HFC := Lib.hid hfc
    have hb02 := hb.trans (hb2.mono hb.size)
    have HCB : Hid (∀ ad, C = some ad → ad.block < w2.heap.size) := fun ad had => by
      obtain ⟨b, cur, e, _, h2, _⟩ := hfr.2 ad had
      rw [e]; exact lt_of_block h2
    have HG := Lib.hid (sgraph_any C K.length cc K w2 hfc HCV.out)
    clear hfc hfr HC hb2
    go_wp2_with fail
    refine HG.out.mono ?_
    rintro e w3 ⟨G, gc, rfl, hgc, hg3, hb3⟩
    have hlen : (rowsI (grI K)).length = 4 := by simp [rowsI, HR4.out.1]
    rw [hlen] at hg3 hgc ⊢
    obtain ⟨g, rest, rfl, hge, hrow⟩ := hg3.row (by omega)
    have hT := stxs_any C K.length cc K w3 (HFC.out.below hb3 (Nat.le_refl _))
    have HT := Lib.hid hT
    have hb03 := hb02.trans (hb3.mono hb02.size)
    have HROW := Lib.hid hrow
    have HFC3 := Lib.hid (HFC.out.below hb3 (Nat.le_refl _))
    have hgl := hrow.lt
    clear hg3 hlen HG hT hrow HFC
    go_wp2_with fail
    refine HT.out.mono ?_
    rintro e w4 ⟨L, lc, rfl, hlc, hfl, hb4⟩
    have hb04 := hb03.trans (hb4.mono hb03.size)
    have HLB : Hid (∀ ad, L = some ad → g ≠ ad.block) := fun ad had => by
      obtain ⟨b, cur, e, h1, h2, _⟩ := hfl.2 ad had
      rw [e]; simp only; omega
    have HCB2 : Hid (∀ ad, C = some ad → g ≠ ad.block) := fun ad had => by
      have := HCB.out ad had; omega
    have hge0 : w.heap.size ≤ g := by have := hb02.size; omega
    have HST : Hid (TsInv w g rest C K.length K L (txsOf K).length (txsOf K) (tmTo K (txsOf K) (grI K) 0) w4) :=
      ⟨hb04, HROW.out.below hb4 (Nat.le_refl _), HFC3.out.below hb4 (Nat.le_refl _), hfl.1⟩
    clear hfl hb4 hb04 HT HROW HFC3 hb3
    generalize txsOf K = LL at *
    obtain ⟨m, hm⟩ : ∃ m, LL.length = m := ⟨_, rfl⟩
    obtain ⟨kn, hkn⟩ : ∃ kn, K.length = kn := ⟨_, rfl⟩
    rw [hm] at HST HOO hlc hL4 ⊢
    rw [hkn] at HST hcc ⊢
    have HM := Lib.hid hm
    clear hm hkn
    go_wp2_with fail
    go_loopw [6] (fun i wr => ∃ k : Nat, k ≤ m ∧ i = .int .i64 k ∧ TsInv w g rest C kn K L m LL (tmTo K LL (grI K) k) wr) (fun i _ => m - (intOf i).toNat)
    case atStart => exact ⟨0, Nat.zero_le _, rfl, HST.out⟩
    case round =>
      clear HST
      obtain ⟨wo, rfl⟩ : ∃ wo : World, wo = wr := ⟨_, rfl⟩
      obtain ⟨k, hk, rfl, hI⟩ := hrel
      have HI := Lib.hid hI
      by_cases hlt : k < m
      · obtain ⟨bL, offL, t, hLe, hbl, htk, hct⟩ := hI.l.at_ hlt
        subst hLe
        have htr := HRL.out t (List.mem_of_getElem? htk)
        have HTK := Lib.hid htk
        have HGS := Lib.hid (tmTo_succ (c := K) (rows := grI K) htk)
        obtain ⟨T, rfl⟩ := Int.eq_ofNat_of_zero_le htr.1
        have hT3 : T ≤ 3 := by omega
        have HOK0 : Hid (Rows4 (tmTo K LL (grI K) k)) := tmTo_ok HRL.out HR4.out k
        generalize hRO : tmTo K LL (grI K) k = RO at *
        rw [HM.out] at HGS
        have HRO := Lib.hid hRO
        clear hI htk hct hRO
        go_wp2_with fail
        go_loopw [7] (fun i wr => ∃ q : Nat, q ≤ m ∧ i = .int .i64 q ∧ TsInv w g rest C kn K (some ⟨bL, offL, none⟩) m LL (tmIn K LL k (T : Int) RO q) wr) (fun i _ => m - (intOf i).toNat)
        case atStart => exact ⟨0, Nat.zero_le _, rfl, HI.out⟩
        case round =>
          clear HI
          obtain ⟨wi, rfl⟩ : ∃ wi : World, wi = wr := ⟨_, rfl⟩
          obtain ⟨q, hq, rfl, hJ⟩ := hrel
          have HJ := Lib.hid hJ
          by_cases hltq : q < m
          · obtain ⟨b1, off1, t1, hA1, hbl1, ht1, c0⟩ := hJ.l.at_ hlt
            injection hA1 with hA1; injection hA1 with q1 q2 _; subst q1; subst q2
            rw [HTK.out] at ht1
            injection ht1 with ht1
            subst ht1
            obtain ⟨b2, off2, u, hA2, hbl2, hu, d0⟩ := hJ.l.at_ hltq
            injection hA2 with hA2; injection hA2 with q1 q2 _; subst q1; subst q2
            have hur := HRL.out u (List.mem_of_getElem? hu)
            have hsn := tmIn_succ (c := K) (i := k) (t := (T : Int)) (rows := RO) hu
            have hok2 : Rows4 (tmIn K LL k (T : Int) RO q) := tmIn_ok HRL.out HOK0.out q
            obtain ⟨U, rfl⟩ := Int.eq_ofNat_of_zero_le hur.1
            have hU3 : U ≤ 3 := by omega
            have L0 := Later.cell c0
            have M0 := Later.cell d0
            have hki : (k : Int) < (m : Int) := by omega
            have hk0 : (0 : Int) ≤ (k : Int) := by omega
            have hqi : (q : Int) < (m : Int) := by omega
            have hq0 : (0 : Int) ≤ (q : Int) := by omega
            unfold tmStep at hsn
            have HOK2 := Lib.hid hok2
            by_cases hkq : k = q
            · subst hkq
              rw [if_neg (by simp)] at hsn
              have HSN := Lib.hid hsn
              have hkk : decide ((k : Int) = (k : Int)) = true := by simp
              clear hJ hsn hok2 c0 d0 hu
              go_wp2_with fail
              refine region_later (by kernel_rfl) (by kernel_rfl) ?_
              repeat (go_big_quiet_step (fail))
              refine wpQuiet_nil ?_
              rintro _ ⟨u, rfl⟩
              have hn2 : Hid (TsInv w g rest C kn K (some ⟨bL, offL, none⟩) m LL (tmIn K LL k (T : Int) RO (k + 1)) u.1) := by show TsInv _ _ _ _ _ _ _ _ _ _ _; rw [HSN.out]; exact HJ.out.later u.2
              clear HSN
              go_wp2_with fail
              go_roundw
              case rel => exact ⟨k + 1, by omega, by go_num, hn2.out⟩
              case measure => simp [intOf]; omega
            · have hne : decide ((k : Int) = (q : Int)) = false := by simp; omega
              obtain ⟨cb, hcb⟩ : ∃ cb, aheadB K (T : Int) (U : Int) = cb := ⟨_, rfl⟩
              have hcf : ∀ u : Later wi, Calls Try.prog 81 #[.slice C kn cc, .int .i64 (T : Int), .int .i64 (U : Int)] u.1 fun e w' => e = .returned (.bool cb) ∧ Below u.1.heap.size u.1 w' := fun u => by
                have := ahead_any C kn cc K (T : Int) (U : Int) u.1 (HJ.out.c.below u.2 (Nat.le_refl _)); rw [hcb] at this; exact this
              have hnq : ((k : Int) != (q : Int)) = true := by rw [bne_iff_ne]; omega
              have hbne : (k != q) = true := by simpa using hkq
              rw [hcb, hbne, Bool.true_and] at hsn
              have HSN := Lib.hid hsn
              have HCF := Lib.hid hcf
              clear hJ hsn hok2 hcf hcb c0 d0 hu hbne
              go_wp2_with fail
              refine region_later (by kernel_rfl) (by kernel_rfl) ?_
              repeat (go_big_quiet_step ((go_at_call 81; exact later_call _ (HCF.out _))))
              refine wpQuiet_nil ?_
              rintro _ ⟨u, rfl⟩
              have HJU := Lib.hid (HJ.out.later u.2)
              cases cb
              · have hn2 : Hid (TsInv w g rest C kn K (some ⟨bL, offL, none⟩) m LL (tmIn K LL k (T : Int) RO (q + 1)) u.1) := by show TsInv _ _ _ _ _ _ _ _ _ _ _; rw [HSN.out]; exact HJU.out
                clear HSN HCF
                go_wp2_with fail
                go_roundw
                case rel => exact ⟨q + 1, by omega, by go_num, hn2.out⟩
                case measure => simp [intOf]; omega
              · obtain ⟨hcr, hfz, hr16⟩ := HJU.out.at_ HOK2.out hT3
                have n0 := L0 u
                have m0 := M0 u
                obtain ⟨uj, huj⟩ : ∃ uj : World, u.1 = uj := ⟨_, rfl⟩
                rw [huj] at HJU hcr hfz n0 m0
                rw [huj]
                obtain ⟨r, hr⟩ : ∃ r, (tmIn K LL k (T : Int) RO q).getD T 0 = r := ⟨_, rfl⟩
                obtain ⟨wd, hwd⟩ : ∃ wd : World, wd = uj.drew := ⟨_, rfl⟩
                have hP2 : (2 ^ U : Nat) < 16 := by
                  rcases (by omega : U = 0 ∨ U = 1 ∨ U = 2 ∨ U = 3) with e | e | e | e <;> rw [e] <;> decide
                have HSET : Hid (∀ v : Int, v = ((r ||| 2 ^ U : Nat) : Int) → TsInv w g rest C kn K (some ⟨bL, offL, none⟩) m LL (tmIn K LL k (T : Int) RO (q + 1)) (wd.setCell ⟨g, T, none⟩ (.int .i64 v))) := by
                  intro v hv
                  rw [HSN.out, if_pos rfl, hwd]
                  exact HJU.out.drew.set hge0 HCB2.out HLB.out hT3 HOK2.out (by rw [hr, hv, Int.toNat_natCast, Nat.one_shiftLeft])
                rw [hr] at hcr hr16
                have hor := or_nat r (2 ^ U) (by omega) (by omega)
                have hPW : ∀ W : World, Calls Try.prog 82 #[.int .i64 (U : Int)] W fun e w' => e = .returned (.int .i64 ((2 ^ U : Nat) : Int)) ∧ w' = W := fun W => (spower_any U W (by omega)).mono fun e w' h => ⟨h.1, h.2.symm⟩
                generalize hPP : 2 ^ U = p2 at *
                have HPW := Lib.hid hPW
                have hT4 : (T : Int) < 4 := by omega
                have hT0 : (0 : Int) ≤ (T : Int) := by omega
                have hcr2 : wd.cell? ⟨g, T, none⟩ = some (.int .i64 (r : Int)) := by rw [hwd]; exact hcr
                have hfz2 : wd.frozen? ⟨g, T, none⟩ = false := by rw [hwd]; exact hfz
                have HHS := Lib.hid hP2
                clear hr huj HCF L0 M0 HSN hPP hPW hP2
                go_wp2_with fail
                refine wp_region_still_tail 19 (by kernel_rfl) (by kernel_rfl) ?_
                simp only [List.take_succ_cons, List.take_zero, List.drop_succ_cons, List.drop_zero]
                repeat (first | still_step | still_call (HPW.out _))
                refine wpStill_nil ?_
                change wpList _ _ _ _ _ uj.drew
                rw [← hwd]
                go_wp2_with fail
                go_roundw
                case rel => exact ⟨q + 1, by omega, by go_num, by first | exact HSET.out _ rfl | (have h := HSET.out _ rfl; rw [hwd] at h; exact h)⟩
                case measure => simp [intOf]; omega
          · obtain rfl : q = m := by omega
            have hfin : Hid (TsInv w g rest C kn K (some ⟨bL, offL, none⟩) q LL (tmTo K LL (grI K) (k + 1)) wi) := by
              show TsInv _ _ _ _ _ _ _ _ _ _ _
              rw [HGS.out]
              exact HJ.out
            clear hJ
            go_wp2_with fail
            go_roundw
            case rel => exact ⟨k + 1, by omega, by go_num, hfin.out⟩
            case measure => simp [intOf]; omega
      · obtain rfl : k = m := by omega
        have hok : Rows4 (tmTo K LL (grI K) k) := tmTo_ok HRL.out HR4.out k
        have hl4 : (rowsI (tmTo K LL (grI K) k)).length = 4 := by simp [rowsI, hok.1]
        have ha4 : Below wo.heap.size wo (wo.alloc (.cells #[] 3)) := (Below.refl _ _).alloc (Nat.le_refl _) _
        have hTa : TopAt L (some ⟨wo.heap.size, 0, none⟩) (some ⟨g, 0, none⟩) k 0 LL [] (tmTo K LL (grI K) k) (wo.alloc (.cells #[] 3)) := ⟨hI.l.below ha4 (Nat.le_refl _), RInts.nil, (hI.row.ints hl4 (by omega)).below ha4 (Nat.le_refl _)⟩
        have HTOP := Lib.hid (top_any k L (some ⟨wo.heap.size, 0, none⟩) (some ⟨g, 0, none⟩) k lc 0 0 gc LL [] (tmTo K LL (grI K) k) _ hTa hok HRL.out hL4 (by omega))
        rw [← HOO.out] at HTOP
        have HB : Hid (Below w.heap.size w (wo.alloc (.cells #[] 3))) := hI.below.trans (ha4.mono hI.below.size)
        clear hI hok hl4 ha4 hTa HI
        go_wp2_with fail
        refine HTOP.out.mono ?_
        intro e w6 hret
        obtain ⟨A6, c6, rv, rfl, h2, h3, h4, h6⟩ := hret
        have HR : Hid (RetLists w (timeS s) (.returned (.slice A6 (timeS s).length c6)) w6) := RetLists.from HB.out ⟨A6, c6, rv, rfl, h2, h3, h4, h6⟩
        clear h2 h3 h4 h6 HTOP
        go_wp2_with fail
        go_ret
        rw [HV.out]
        exact HR.out
end Go.Proofs.Ytkbclcgdkbhgdaa
