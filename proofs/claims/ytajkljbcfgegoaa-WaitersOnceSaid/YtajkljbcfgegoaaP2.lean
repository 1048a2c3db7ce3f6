/- Plain laws for WaitersDue: a state at a time, what Next and Expire say of it. No program in sight. -/
import Derived.Test.YtajkljbcfgegoaaP1
namespace Go.Proofs.Ytajkljbcfgegoaa

/-- A state at a time that none of its waiters came after. -/
structure At (s : St) (now : Int) : Prop where
  good : Good s
  lo : 0 ≤ now
  hi : now ≤ 1000000000000
  since : ∀ x ∈ s.ws, x.since ≤ now

theorem At.rdy {s : St} {now : Int} (h : At s now) : rdy s now = 0 := by
  have hc := chk_good.2 h.good
  have := h.lo
  have := h.hi
  rcases Nat.eq_zero_or_pos s.ws.length with h0 | h0
  · exact rdy_ok0 hc h0 (by omega)
  · obtain ⟨y, hy⟩ := some_lt (show s.ws.length - 1 < s.ws.length by omega)
    have := h.since y (List.mem_of_getElem? hy)
    exact rdy_ok hc h0 hy (by omega)
theorem At.later {s : St} {now now' : Int} (h : At s now) (h1 : now ≤ now') (h2 : now' ≤ 1000000000000) : At s now' :=
  ⟨h.good, by have := h.lo; omega, h2, fun x hx => Int.le_trans (h.since x hx) h1⟩
theorem At.filter {s : St} {now : Int} (h : At s now) (p : Wt → Bool) : At ⟨s.most, s.ws.filter p⟩ now :=
  ⟨h.good.filter p, h.lo, h.hi, fun x hx => h.since x (List.filter_sublist.subset hx)⟩
theorem At.start0 {s : St} (h : Good s) (h0 : s.ws.length = 0) : At s 0 :=
  ⟨h, by omega, by omega, fun x hx => by rw [List.eq_nil_of_length_eq_zero h0] at hx; cases hx⟩
theorem At.start {s : St} (h : Good s) {y : Wt} (hy : s.ws[s.ws.length - 1]? = some y) : At s y.since := by
  have ho := List.any_eq_false.1 h.odd y (List.mem_of_getElem? hy)
  simp [oddW] at ho
  refine ⟨h, by omega, by omega, fun x hx => ?_⟩
  obtain ⟨j, hj, rfl⟩ := List.mem_iff_getElem.1 hx
  have hl := lt_some hy
  have hye : s.ws[s.ws.length - 1] = y := by rw [List.getElem?_eq_getElem hl] at hy; exact Option.some.inj hy
  by_cases hjk : j = s.ws.length - 1
  · subst hjk; rw [hye]; exact Int.le_refl _
  · have := List.pairwise_iff_getElem.1 h.sorted j (s.ws.length - 1) hj hl (by omega)
    rw [hye] at this
    exact this

theorem fold_le (now : Int) : ∀ (ws : List Wt) (m : Int), (ws.foldl (fun m x => min m x.dead) m ≤ now ↔ (m ≤ now ∨ ∃ x ∈ ws, x.dead ≤ now))
  | [], m => by simp
  | x :: xs, m => by
    rw [List.foldl_cons, fold_le now xs]
    simp only [List.mem_cons, exists_eq_or_imp]
    rw [show (min m x.dead ≤ now) = (m ≤ now ∨ x.dead ≤ now) from by rw [eq_iff_iff]; omega, or_assoc]

theorem gone_iff (now : Int) (ws : List Wt) : 0 < (ws.filter fun x => !decide (now < x.dead)).length ↔ ∃ x ∈ ws, x.dead ≤ now := by
  rw [List.length_pos_iff_exists_mem]
  constructor
  · rintro ⟨x, hx⟩
    obtain ⟨h1, h2⟩ := List.mem_filter.1 hx
    exact ⟨x, h1, by simpa using h2⟩
  · rintro ⟨x, h1, h2⟩
    exact ⟨x, List.mem_filter.2 ⟨h1, by simpa using h2⟩⟩

/-- What Next says at a time agrees with what Expire takes. -/
theorem At.next {s : St} {now : Int} (h : At s now) : ∃ r e, next s = (r, e) ∧ ((e = 4 ∧ (s.ws.filter fun x => !decide (now < x.dead)).length = 0) ∨ (e = 0 ∧ r ≤ now ∧ 0 < (s.ws.filter fun x => !decide (now < x.dead)).length) ∨
    (e = 0 ∧ now < r ∧ (s.ws.filter fun x => !decide (now < x.dead)).length = 0)) := by
  have hc := chk_good.2 h.good
  have hg := gone_iff now s.ws
  have hf : least s.ws ≤ now ↔ _ := fold_le now s.ws 1000000000001
  have hi := h.hi
  unfold Go.Proofs.Ytajkljbcfgegoaa.next
  rw [if_neg (by omega)]
  by_cases hl : least s.ws = 1000000000001
  · rw [if_pos hl]
    refine ⟨_, _, rfl, .inl ⟨rfl, ?_⟩⟩
    rw [← hg] at hf
    omega
  · rw [if_neg hl]
    refine ⟨_, _, rfl, .inr ?_⟩
    rw [← hg] at hf
    by_cases hn : least s.ws ≤ now
    · exact .inl ⟨rfl, hn, by omega⟩
    · exact .inr ⟨rfl, by omega, by omega⟩

theorem filter_len (p : Wt → Bool) : ∀ ws : List Wt, (ws.filter fun x => !p x).length + (ws.filter p).length = ws.length
  | [] => rfl
  | x :: xs => by
    have := filter_len p xs
    cases hp : p x <;> simp [hp] <;> omega
theorem filter_later {now now' : Int} (h : now ≤ now') (ws : List Wt) : (ws.filter fun x => decide (now < x.dead)).filter (fun x => decide (now' < x.dead)) = ws.filter fun x => decide (now' < x.dead) := by
  rw [List.filter_filter]
  congr 1
  funext x
  by_cases hx : now' < x.dead
  · simp [hx]; omega
  · simp [hx]
theorem gone_dead {now : Int} {ws : List Wt} {j : Nat} {x : Wt} (h : (ws.filter fun x => !decide (now < x.dead))[j]? = some x) : ¬ now < x.dead := by
  have := (List.mem_filter.1 (List.mem_of_getElem? h)).2
  simpa using this
theorem At.expire {s : St} {now : Int} (h : At s now) : expire s now = (⟨s.most, s.ws.filter fun x => decide (now < x.dead)⟩, s.ws.filter (fun x => !decide (now < x.dead)), 0) := by
  simp [Go.Proofs.Ytajkljbcfgegoaa.expire, h.rdy]
end Go.Proofs.Ytajkljbcfgegoaa
