/- Plain laws on idle connections: what chk s = 0 says, times, what is left. No program in sight. -/
import Derived.Test.YtjbpkibhkaagjaaSpec
namespace Go.Proofs.Ytjbpkibhkaagjaa

theorem place_any_eq (cs : List Cn) (n : Int) : decide (0 ≤ place cs n) = cs.any (fun x => x.conn == n) := idx_any _ cs 0 (by omega)

theorem dupTo_iff {cs : List Cn} : ∀ {k : Nat}, k ≤ cs.length → (dupTo cs k = false ↔ (cs.take k).Pairwise fun a b => a.conn ≠ b.conn)
  | 0, _ => by simp [dupTo]
  | k + 1, h => by
    obtain ⟨x, hx⟩ := some_lt (show k < cs.length by omega)
    have ih := dupTo_iff (cs := cs) (k := k) (by omega)
    rw [dupTo_succ hx, Bool.or_eq_false_iff, ih, place_any_eq, List.take_add_one, hx, List.pairwise_append]
    simp only [Option.toList_some, List.pairwise_singleton, true_and, List.mem_singleton, List.any_eq_false, beq_iff_eq]
    constructor
    · rintro ⟨h1, h2⟩
      exact ⟨h1, fun a ha b hb => by subst hb; exact h2 a ha⟩
    · rintro ⟨h1, h2⟩
      exact ⟨h1, fun a ha => h2 a ha x rfl⟩

theorem sortTo_iff {cs : List Cn} : ∀ {k : Nat}, k ≤ cs.length → (sortTo cs k = true ↔ (cs.take k).Pairwise fun a b => a.since ≤ b.since)
  | 0, _ => by simp [sortTo]
  | k + 1, h => by
    obtain ⟨x, hx⟩ := some_lt (show k < cs.length by omega)
    have ih := sortTo_iff (cs := cs) (k := k) (by omega)
    rw [sortTo_succ hx, Bool.and_eq_true, ih, List.take_add_one, hx, List.pairwise_append]
    simp only [Option.toList_some, List.pairwise_singleton, true_and, List.mem_singleton, Bool.or_eq_true, beq_iff_eq, decide_eq_true_eq]
    rcases Nat.eq_zero_or_pos k with rfl | hk
    · simp
    · obtain ⟨y, hy⟩ := some_lt (show k - 1 < cs.length by omega)
      rw [getD_some hy]
      constructor
      · rintro ⟨h1, h2⟩
        have h2' : y.since ≤ x.since := by
          rcases h2 with h2 | h2
          · omega
          · exact h2
        refine ⟨h1, fun a ha b hb => ?_⟩
        subst hb
        obtain ⟨j, hj, rfl⟩ := List.mem_iff_getElem.1 ha
        have hjl : j < k := by rw [List.length_take] at hj; omega
        have hyk : k - 1 < (cs.take k).length := by rw [List.length_take]; omega
        have hye : (cs.take k)[k - 1] = y := by
          rw [List.getElem_take]
          rw [List.getElem?_eq_getElem (by omega)] at hy
          exact Option.some.inj hy
        by_cases hjk : j = k - 1
        · subst hjk; rw [hye]; exact h2'
        · have := List.pairwise_iff_getElem.1 h1 j (k - 1) hj hyk (by omega)
          rw [hye] at this
          exact Int.le_trans this h2'
      · rintro ⟨h1, h2⟩
        refine ⟨h1, .inr (h2 y ?_ x rfl)⟩
        exact List.mem_of_getElem? (i := k - 1) (by rw [List.getElem?_take, if_pos (by omega)]; exact hy)

/-- A state that is one. -/
structure Good (s : St) : Prop where
  nums : nums s.most s.idle s.age = true
  odd : s.cs.any oddC = false
  long : (s.cs.length : Int) ≤ s.most
  calls : s.cs.Pairwise fun a b => a.conn ≠ b.conn
  sorted : s.cs.Pairwise fun a b => a.since ≤ b.since

theorem chk_good {s : St} : chk s = 0 ↔ Good s := by
  have hd := dupTo_iff (cs := s.cs) (Nat.le_refl _)
  have hs := sortTo_iff (cs := s.cs) (Nat.le_refl _)
  rw [List.take_length] at hd hs
  unfold chk
  constructor
  · intro h
    split at h
    · omega
    rename_i h1
    split at h
    · omega
    rename_i h2
    split at h
    · omega
    rename_i h3
    split at h
    · rename_i h4
      simp only [Bool.not_eq_true, Bool.or_eq_false_iff, Bool.not_eq_false'] at h1 h3
      exact ⟨h1.1, h1.2, by omega, hd.1 h3, hs.1 h4⟩
    · omega
  · rintro ⟨h1, h2, h3, h4, h5⟩
    rw [h1, h2, hd.2 h4, hs.2 h5]
    simp; omega

theorem Good.sub {s : St} (h : Good s) {cs : List Cn} (hsub : cs.Sublist s.cs) : Good ⟨s.most, s.idle, s.age, cs⟩ := by
  refine ⟨h.nums, ?_, ?_, h.calls.sublist hsub, h.sorted.sublist hsub⟩
  · have := h.odd
    rw [List.any_eq_false] at this ⊢
    exact fun x hx => this x (hsub.subset hx)
  · have := hsub.length_le
    have := h.long
    show (cs.length : Int) ≤ s.most
    omega
theorem Good.short {s : St} (h : Good s) : s.cs.length ≤ 64 := chk_small (chk_good.2 h)
/-- A state at a time. -/
structure At (s : St) (now : Int) : Prop extends Good s where
  lo : 0 ≤ now
  hi : now ≤ 1000000000000
  since : ∀ x ∈ s.cs, x.since ≤ now
theorem At.rdy {s : St} {now : Int} (h : At s now) : rdy s now = 0 := by
  have hc := chk_good.2 h.toGood
  have h0 := h.lo
  have h1 := h.hi
  by_cases hl : 0 < s.cs.length
  · obtain ⟨y, hy⟩ := some_lt (show s.cs.length - 1 < s.cs.length by omega)
    have := h.since y (List.mem_of_getElem? hy)
    exact rdy_ok hc hl hy (by omega)
  · exact rdy_ok0 hc (by omega) (by omega)
theorem At.of_rdy {s : St} {now : Int} (h : Go.Proofs.Ytjbpkibhkaagjaa.rdy s now = 0) : At s now := by
  have hc := rdy_chk h
  have hg := chk_good.1 hc
  have h2 : badTime s now = false := by
    unfold Go.Proofs.Ytjbpkibhkaagjaa.rdy at h
    rw [if_neg (by rw [hc]; simp)] at h
    cases hb : badTime s now
    · rfl
    · rw [hb] at h; simp at h
  have h3 : 0 ≤ now ∧ now ≤ 1000000000000 := by simp [badTime] at h2; omega
  refine ⟨hg, h3.1, h3.2, fun x hx => ?_⟩
  obtain ⟨i, hi⟩ := List.getElem?_of_mem hx
  have hil := lt_some hi
  obtain ⟨y, hy⟩ := some_lt (show s.cs.length - 1 < s.cs.length by omega)
  have h4 : y.since ≤ now := by
    simp only [badTime, getD_some hy] at h2
    simp at h2
    have := h2.2
    omega
  by_cases he : i = s.cs.length - 1
  · subst he; rw [hi] at hy; cases hy; exact h4
  · have hx' : s.cs[i] = x := by rw [List.getElem?_eq_getElem hil] at hi; exact Option.some.inj hi
    have hl2 : s.cs.length - 1 < s.cs.length := by omega
    have hy' : s.cs[s.cs.length - 1] = y := by rw [List.getElem?_eq_getElem hl2] at hy; exact Option.some.inj hy
    have := List.pairwise_iff_getElem.1 hg.sorted i (s.cs.length - 1) hil hl2 (by omega)
    rw [hx', hy'] at this
    omega
theorem At.later {s : St} {now now' : Int} (h : At s now) (h1 : now ≤ now') (h2 : now' ≤ 1000000000000) : At s now' :=
  ⟨h.toGood, by have := h.lo; omega, h2, fun x hx => by have := h.since x hx; omega⟩
theorem At.sub {s : St} {now : Int} (h : At s now) {cs : List Cn} (hsub : cs.Sublist s.cs) : At ⟨s.most, s.idle, s.age, cs⟩ now :=
  ⟨h.toGood.sub hsub, h.lo, h.hi, fun x hx => h.since x (hsub.subset hx)⟩
theorem At.reap {s : St} {now : Int} (h : At s now) : reap s now = (⟨s.most, s.idle, s.age, left s now⟩, shut s now, 0) := by
  simp [Go.Proofs.Ytjbpkibhkaagjaa.reap, h.rdy]
theorem left_sub (s : St) (now : Int) : (left s now).Sublist s.cs := List.filter_sublist
theorem fold_lt (s : St) (t : Int) : ∀ (cs : List Cn) (m : Int), (t < cs.foldl (fun m x => min (min m (x.since + s.idle)) (x.born + s.age)) m ↔ t < m ∧ ∀ x ∈ cs, good s.idle s.age t x = true)
  | [], m => by simp
  | x :: cs, m => by
    rw [List.foldl_cons, fold_lt s t cs]
    simp only [List.mem_cons, forall_eq_or_imp, good, Bool.and_eq_true, decide_eq_true_eq]
    constructor
    · rintro ⟨h1, h2⟩
      exact ⟨by omega, ⟨by omega, by omega⟩, h2⟩
    · rintro ⟨h1, ⟨h2, h3⟩, h4⟩
      exact ⟨by omega, h4⟩
/-- Before the least time nothing is shut. -/
theorem least_lt {s : St} {t : Int} (ht : t ≤ 1000000000000) : t < least s s.cs ↔ shut s t = [] := by
  unfold least shut
  rw [fold_lt]
  constructor
  · rintro ⟨_, h⟩
    rw [List.map_eq_nil_iff, List.filter_eq_nil_iff]
    intro x hx
    simp [h x hx]
  · intro h
    rw [List.map_eq_nil_iff, List.filter_eq_nil_iff] at h
    refine ⟨by omega, fun x hx => ?_⟩
    have := h x hx
    simpa using this
theorem left_left (s : St) (now : Int) : left ⟨s.most, s.idle, s.age, left s now⟩ now = left s now := by
  show (left s now).filter (good s.idle s.age now) = left s now
  exact List.filter_eq_self.2 fun x hx => by
    unfold left at hx
    exact (List.mem_filter.1 hx).2
theorem shut_left (s : St) (now : Int) : shut ⟨s.most, s.idle, s.age, left s now⟩ now = [] := by
  show ((left s now).filter fun x => !good s.idle s.age now x).map Cn.conn = []
  rw [List.map_eq_nil_iff, List.filter_eq_nil_iff]
  intro x hx
  unfold left at hx
  simp [(List.mem_filter.1 hx).2]
end Go.Proofs.Ytjbpkibhkaagjaa
