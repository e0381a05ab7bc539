/-
  Of a serial schedule there is one order of time, that of its first operations; and the walk of among.
-/
import Derived.Test.YtcakjhappchlmaaQWTimeP0
import Derived.Test.YtcakjhappchlmaaPkLkB2
import Derived.Test.YtcakjhappchlmaaQWExL0
namespace Go.Proofs.Ytcakjhappchlmaa
open Go.RowKit Go.BigFrame
set_option linter.unusedVariables false

theorem permF_pre {list : List Int} (m : Nat) : ∀ pre, ∀ p ∈ permF list m pre, ∃ q, p = pre ++ q := by
  induction m with
  | zero => intro pre p hp; simp only [permF, List.mem_singleton] at hp; exact ⟨[], by rw [hp]; simp⟩
  | succ m ih =>
    intro pre p hp
    simp only [permF, List.mem_flatMap] at hp
    obtain ⟨t, _, h⟩ := hp
    split at h
    · cases h
    · obtain ⟨q, hq⟩ := ih _ p h
      exact ⟨t :: q, by rw [hq]; simp⟩
theorem permF_dist {list : List Int} (hd : list.Nodup) (m : Nat) : ∀ pre, (permF list m pre).Nodup := by
  induction m with
  | zero => intro pre; simp [permF]
  | succ m ih =>
    intro pre
    simp only [permF]
    rw [List.Nodup, List.pairwise_flatMap]
    refine ⟨fun t _ => ?_, ?_⟩
    · split
      · exact List.Pairwise.nil
      · exact ih _
    · refine hd.imp fun {a b} hab x hx y hy e => ?_
      subst e
      split at hx
      · cases hx
      · split at hy
        · cases hy
        · obtain ⟨q, hq⟩ := permF_pre _ _ _ hx
          obtain ⟨r, hr⟩ := permF_pre _ _ _ hy
          rw [hq] at hr
          rw [List.append_assoc, List.append_assoc] at hr
          have := List.append_cancel_left hr
          simp at this
          exact hab this.1
theorem one_of {α : Type} {l : List α} {x : α} (hd : l.Nodup) (hne : l ≠ []) (h : ∀ y ∈ l, y = x) : l = [x] := by
  match l, hd, hne, h with
  | [a], _, _, h => rw [h a (by simp)]
  | a :: b :: r, hd, _, h =>
    exfalso
    rw [List.nodup_cons] at hd
    exact hd.1 (by rw [h a (by simp), h b (by simp)]; simp)
theorem ahead_ser {c : List OpV} (hs : isSer c = true) {t u : Int} (h : stampN c u < stampN c t) : aheadB c u t = true := by
  unfold aheadB
  rw [decide_eq_true_eq]
  refine (ser_sorted hs).imp fun {a b} hab he => ?_
  rw [he.1, he.2] at hab
  omega
theorem ahead_lt {c : List OpV} {t u : Int} (htu : t ≠ u) (ht : ∃ o ∈ c, o.tx = t) (hu : ∃ o ∈ c, o.tx = u) (h : aheadB c t u = true) : stampN c t < stampN c u := by
  obtain ⟨o, ho, rfl⟩ := ht
  obtain ⟨p, hp, rfl⟩ := hu
  obtain ⟨a, ha, hat⟩ := stampN_at ho
  obtain ⟨b, hb, hbt⟩ := stampN_at hp
  unfold aheadB at h
  rw [decide_eq_true_eq, List.pairwise_iff_getElem] at h
  rcases Nat.lt_trichotomy (stampN c o.tx) (stampN c p.tx) with h1 | h1 | h1
  · exact h1
  · rw [h1] at ha; rw [ha] at hb; injection hb with hb; subst hb; exact absurd (hat.symm.trans hbt) htu
  · obtain ⟨i1, e1⟩ := List.getElem?_eq_some_iff.1 ha
    obtain ⟨i2, e2⟩ := List.getElem?_eq_some_iff.1 hb
    have := h _ _ i2 i1 h1
    rw [e1, e2] at this
    exact absurd ⟨hbt, hat⟩ this
theorem time_src {s : List OpV} (hv : validS s = true) (hs : isSer (committed s) = true) : Srcs (txsOf (committed s)) (tmR s) := by
  intro S hne hsub
  obtain ⟨t, ht, hmin⟩ := least_by (fun t => stampN (committed s) t) hne
  refine ⟨t, ht, fun v hv2 => ?_⟩
  cases he : edgeB (tmR s) v t
  · rfl
  · exfalso
    have hmem : ∀ x ∈ S, ∃ o ∈ committed s, o.tx = x := fun x hx => (mem_txsOf (validS_committed hv)).1 (hsub x hx)
    have := hmin v hv2
    rcases (tmR_edge hv (hsub v hv2) (hsub t ht)).1 he with h1 | ⟨h1, h2⟩
    · have h3 := (gr_edge (comm_tx4 hv) (txsOf_rng0 _ v (hsub v hv2)).1 (txsOf_rng0 _ t (hsub t ht)).1).1 h1
      have h4 := h3.serial hs (List.Sublist.refl _)
      omega
    · have := ahead_lt h1 (hmem v hv2) (hmem t ht) h2
      omega
theorem time_serial {s : List OpV} (hv : validS s = true) (hs : isSer (committed s) = true) : timeI s = [stI (committed s)] := by
  have hd := nodup_txsOf (committed s)
  have hvc := validS_committed hv
  refine one_of ?_ ?_ ?_
  · unfold timeI ordO ordI
    exact ((permF_dist hd _ _).filter _).filter _
  · rw [time_eq hv]
    exact topF_ne' hd (time_src hv hs) _ [] (by simp)
  · intro p hp
    unfold timeI at hp
    obtain ⟨hpo, hok⟩ := List.mem_filter.1 hp
    unfold ordO ordI at hpo
    have hpp := (List.mem_filter.1 hpo).1
    obtain ⟨_, hall⟩ := permF_mem hd (txsOf (committed s)).length (pre := []) (by simp) (by simp) (by simp) p hpp
    have hsub : ∀ x ∈ p, x ∈ txsOf (committed s) := fun x hx => by
      rcases permF_sub _ [] p hpp x hx with h | h
      · cases h
      · exact h
    have hpd : p.Nodup := permF_nodup _ [] (by simp) p hpp
    have hmem : ∀ x ∈ p, ∃ o ∈ committed s, o.tx = x := fun x hx => (mem_txsOf hvc).1 (hsub x hx)
    refine srt_unique (f := stampN (committed s)) ?_ (stI_sorted _) fun x => ?_
    · have h1 := okT_iff.1 hok
      rw [List.pairwise_iff_getElem] at h1 ⊢
      intro i j hi hj hij
      have h2 := h1 i j hi hj hij
      have hne : p[i] ≠ p[j] := fun e => by have := nodup_idx hpd hi hj e; omega
      rcases Nat.lt_trichotomy (stampN (committed s) p[i]) (stampN (committed s) p[j]) with h3 | h3 | h3
      · exact h3
      · obtain ⟨a, ha, ea⟩ := hmem _ (List.getElem_mem hi)
        obtain ⟨b, hb, eb⟩ := hmem _ (List.getElem_mem hj)
        rw [← ea, ← eb] at h3
        exact absurd (by rw [← ea, ← eb]; exact stamp_inj ha hb h3) hne
      · exact absurd ((ahead_last hv hne.symm (hsub _ (List.getElem_mem hj)) (hsub _ (List.getElem_mem hi))).1 (ahead_ser hs h3)) h2
    · rw [mem_stI_txs hvc]
      exact ⟨hsub x, hall x⟩
theorem time_sub {s : List OpV} : ∀ xs ∈ timeI s, xs ∈ ordO s := fun xs h => (List.mem_filter.1 h).1

theorem RLists.of {w0 w : World} {A : Option Addr} {n : Nat} {rv : List Value} {xss : List (List Int)} (ho : OuterR w0 w A n rv) (hr : RowsR w0 w rv xss) (hl : xss.length = n) (hs : n ≤ 1099511627776) : RLists w A n xss := by
  refine ⟨hl, hs, fun hn => ?_⟩
  obtain ⟨b, rfl, h1, h2, h3⟩ := ho.cells hn
  refine ⟨b, 0, rfl, h2, fun i xs hi => ?_⟩
  obtain ⟨B, c, e, hc, hf⟩ := hr.2 i xs hi
  exact ⟨B, _, c, h3 i _ e, hc, hf.1⟩

end Go.Proofs.Ytcakjhappchlmaa
