/-
  What is serial is serializable; what is serializable stays so when less is committed. Plain.
-/
import Derived.Test.YtcakjhappchlmaaPkLkA
namespace Go.Proofs.Ytcakjhappchlmaa
open Go.RowKit
set_option linter.unusedVariables false

theorem least_by {α : Type} (f : α → Nat) : ∀ {L : List α}, L ≠ [] → ∃ x ∈ L, ∀ y ∈ L, f x ≤ f y := by
  intro L
  induction L with
  | nil => intro h; exact absurd rfl h
  | cons a r ih =>
    intro _
    by_cases hr : r = []
    · subst hr; exact ⟨a, by simp, by simp⟩
    · obtain ⟨x, hx, hm⟩ := ih hr
      by_cases h : f a ≤ f x
      · refine ⟨a, by simp, fun y hy => ?_⟩
        rcases List.mem_cons.1 hy with e | e
        · rw [e]; exact Nat.le_refl _
        · exact Nat.le_trans h (hm y e)
      · refine ⟨x, by simp [hx], fun y hy => ?_⟩
        rcases List.mem_cons.1 hy with e | e
        · rw [e]; omega
        · exact hm y e
theorem cf_pair {L : List OpV} {t u : Int} : Cf L t u ↔ ¬ L.Pairwise (fun a b => ¬ (confB a b = true ∧ a.tx = t ∧ b.tx = u)) := by
  rw [List.pairwise_iff_getElem]
  constructor
  · rintro ⟨i, k, a, b, hik, ha, hb, r⟩ h
    obtain ⟨h1, e1⟩ := List.getElem?_eq_some_iff.1 ha
    obtain ⟨h2, e2⟩ := List.getElem?_eq_some_iff.1 hb
    have := h i k h1 h2 hik
    rw [e1, e2] at this
    exact this r
  · intro h
    apply Classical.byContradiction
    intro hn
    refine h fun i k h1 h2 hik r => hn ⟨i, k, _, _, hik, List.getElem?_eq_getElem h1, List.getElem?_eq_getElem h2, r⟩
theorem Cf.sub {L M : List OpV} {t u : Int} (h : Cf M t u) (hs : List.Sublist M L) : Cf L t u := by
  rw [cf_pair] at h ⊢
  exact fun hp => h (hp.sublist hs)
theorem stamp_inj {s : List OpV} {a b : OpV} (ha : a ∈ s) (hb : b ∈ s) (h : stampN s a.tx = stampN s b.tx) : a.tx = b.tx := by
  obtain ⟨q, hq, e⟩ := stampN_at ha
  obtain ⟨p, hp, e'⟩ := stampN_at hb
  rw [h, hp] at hq
  injection hq with hq
  rw [← e, ← e', hq]
/-- In a serial schedule conflicts go by the first operations. -/
theorem Cf.serial {s : List OpV} (hs : isSer s = true) {L : List OpV} (hL : List.Sublist L s) {t u : Int} (h : Cf L t u) : stampN s t < stampN s u := by
  have h2 := h.sub hL
  obtain ⟨i, k, a, b, hik, ha, hb, hc, rfl, rfl⟩ := h2
  have hp := ser_sorted hs
  rw [List.pairwise_iff_getElem] at hp
  obtain ⟨h1, e1⟩ := List.getElem?_eq_some_iff.1 ha
  obtain ⟨h3, e3⟩ := List.getElem?_eq_some_iff.1 hb
  have := hp i k h1 h3 hik
  rw [e1, e3] at this
  rcases Nat.lt_or_ge (stampN s a.tx) (stampN s b.tx) with h' | h'
  · exact h'
  · exact absurd (stamp_inj (List.mem_of_getElem? ha) (List.mem_of_getElem? hb) (Nat.le_antisymm this h')) h.ne
theorem serial_src {s : List OpV} (hv : validS s = true) (hs : isSer s = true) : Srcs (txsOf (committed s)) (grI (committed s)) := by
  intro S hne hsub
  obtain ⟨t, ht, hmin⟩ := least_by (fun t => stampN s t) hne
  refine ⟨t, ht, fun v hv2 => ?_⟩
  cases he : edgeB (grI (committed s)) v t
  · rfl
  · exfalso
    have h1 := (gr_edge (comm_tx4 hv) (txsOf_rng0 _ v (hsub v hv2)).1 (txsOf_rng0 _ t (hsub t ht)).1).1 he
    have h2 := h1.serial hs List.filter_sublist
    have := hmin v hv2
    omega
theorem endOf_take2 {s : List OpV} {i : Nat} {u : Int} (h : endOf (s.take i) u = 2) : endOf s u = 2 := by
  unfold endOf at h ⊢
  cases e : (s.take i).find? (fun o => o.tx == u && isEnd o) with
  | none => rw [e] at h; simp at h
  | some q =>
    rw [e] at h
    have : s.find? (fun o => o.tx == u && isEnd o) = some q := by
      calc s.find? (fun o => o.tx == u && isEnd o) = (s.take i ++ s.drop i).find? (fun o => o.tx == u && isEnd o) := by rw [List.take_append_drop]
        _ = some q := by rw [List.find?_append, e]; rfl
    rw [this]; exact h
theorem comm_take (s : List OpV) (i : Nat) : List.Sublist (committed (s.take i)) (committed s) := by
  have h1 : committed (s.take i) = ((s.take i).filter fun o => endOf s o.tx == 2).filter fun o => endOf (s.take i) o.tx == 2 := by
    unfold committed
    rw [List.filter_filter]
    refine List.filter_congr fun o _ => ?_
    cases h : endOf (s.take i) o.tx == 2
    · rfl
    · have := endOf_take2 (s := s) (by simpa using h)
      rw [this]; rfl
  rw [h1]
  exact List.filter_sublist.trans ((List.take_sublist i s).filter _)
theorem src_sub {L M : List OpV} (hL : Tx4 L) (hM : List.Sublist M L) (h : Srcs (txsOf L) (grI L)) : Srcs (txsOf M) (grI M) := by
  intro S hne hsub
  have hM4 : Tx4 M := fun o ho => hL o (hM.subset ho)
  have hin : ∀ x ∈ S, x ∈ txsOf L := fun x hx => by
    have := hsub x hx
    unfold txsOf at this ⊢
    rw [List.mem_filter, hasTx_iff] at this ⊢
    obtain ⟨h1, o, ho, e⟩ := this
    exact ⟨h1, o, hM.subset ho, e⟩
  obtain ⟨t, ht, h2⟩ := h S hne hin
  refine ⟨t, ht, fun v hv => ?_⟩
  cases he : edgeB (grI M) v t
  · rfl
  · exfalso
    have a := (txsOf_rng0 _ v (hin v hv)).1
    have b := (txsOf_rng0 _ t (hin t ht)).1
    have h3 := ((gr_edge hM4 a b).1 he).sub hM
    have := h2 v hv
    rw [(gr_edge hL a b).2 h3] at this
    cases this
theorem len_pos {α : Type} {l : List α} : decide (0 < l.length) = true ↔ l ≠ [] := by
  cases l <;> simp
theorem iser_serial {s : List OpV} (hv : validS s = true) (hs : isSerV s = true) : 0 < (ordO s).length := by
  have : isSer s = true := by unfold isSerV at hs; rw [Bool.and_eq_true] at hs; exact hs.1
  exact List.length_pos_iff.2 ((ordO_src hv).2 (serial_src hv this))
theorem iser_less {s : List OpV} (hv : validS s = true) (i : Nat) (h : 0 < (ordO s).length) : (validS (s.take i) && decide (0 < (ordO (s.take i)).length)) = true := by
  have hvi : validS (s.take i) = true := validS_sub hv (List.take_sublist i s)
  rw [hvi, Bool.true_and, len_pos, ordO_src hvi]
  exact src_sub (comm_tx4 hv) (comm_take s i) ((ordO_src hv).1 (List.length_pos_iff.1 h))
end Go.Proofs.Ytcakjhappchlmaa
