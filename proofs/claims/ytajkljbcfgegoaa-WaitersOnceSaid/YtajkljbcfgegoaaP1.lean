/- Plain laws on the waiters' functions: what chk s = 0 says, and that a waiter fewer is a state. No program in sight. -/
import Derived.Test.YtajkljbcfgegoaaSpec
namespace Go.Proofs.Ytajkljbcfgegoaa

theorem place_any_eq (ws : List Wt) (n : Int) : decide (0 ≤ place ws n) = ws.any (fun x => x.call == n) := idx_any _ ws 0 (by omega)

theorem dupTo_iff {ws : List Wt} : ∀ {k : Nat}, k ≤ ws.length → (dupTo ws k = false ↔ (ws.take k).Pairwise fun a b => a.call ≠ b.call)
  | 0, _ => by simp [dupTo]
  | k + 1, h => by
    obtain ⟨x, hx⟩ := some_lt (show k < ws.length by omega)
    have ih := dupTo_iff (ws := ws) (k := k) (by omega)
    rw [dupTo_succ hx, Bool.or_eq_false_iff, ih, place_any_eq, List.take_add_one, hx, List.pairwise_append]
    simp only [Option.toList_some, List.pairwise_singleton, true_and, List.mem_singleton, List.any_eq_false, beq_iff_eq]
    constructor
    · rintro ⟨h1, h2⟩
      exact ⟨h1, fun a ha b hb => by subst hb; exact h2 a ha⟩
    · rintro ⟨h1, h2⟩
      exact ⟨h1, fun a ha => h2 a ha x rfl⟩

theorem sortTo_iff {ws : List Wt} : ∀ {k : Nat}, k ≤ ws.length → (sortTo ws k = true ↔ (ws.take k).Pairwise fun a b => a.since ≤ b.since)
  | 0, _ => by simp [sortTo]
  | k + 1, h => by
    obtain ⟨x, hx⟩ := some_lt (show k < ws.length by omega)
    have ih := sortTo_iff (ws := ws) (k := k) (by omega)
    rw [sortTo_succ hx, Bool.and_eq_true, ih, List.take_add_one, hx, List.pairwise_append]
    simp only [Option.toList_some, List.pairwise_singleton, true_and, List.mem_singleton, Bool.or_eq_true, beq_iff_eq, decide_eq_true_eq]
    rcases Nat.eq_zero_or_pos k with rfl | hk
    · simp
    · obtain ⟨y, hy⟩ := some_lt (show k - 1 < ws.length by omega)
      rw [getD_some hy]
      constructor
      · rintro ⟨h1, h2⟩
        have h2' : y.since ≤ x.since := by
          rcases h2 with h2 | h2
          · omega
          · exact h2
        refine ⟨h1, fun a ha b hb => ?_⟩
        subst hb
        obtain ⟨j, hj, rfl⟩ := List.mem_iff_getElem.1 ha
        have hjl : j < k := by rw [List.length_take] at hj; omega
        have hyk : k - 1 < (ws.take k).length := by rw [List.length_take]; omega
        have hye : (ws.take k)[k - 1] = y := by
          rw [List.getElem_take]
          rw [List.getElem?_eq_getElem (by omega)] at hy
          exact Option.some.inj hy
        by_cases hjk : j = k - 1
        · subst hjk; rw [hye]; exact h2'
        · have := List.pairwise_iff_getElem.1 h1 j (k - 1) hj hyk (by omega)
          rw [hye] at this
          exact Int.le_trans this h2'
      · rintro ⟨h1, h2⟩
        refine ⟨h1, .inr (h2 y ?_ x rfl)⟩
        exact List.mem_of_getElem? (i := k - 1) (by rw [List.getElem?_take, if_pos (by omega)]; exact hy)

/-- A state that is one. -/
structure Good (s : St) : Prop where
  room : room s.most = true
  odd : s.ws.any oddW = false
  long : (s.ws.length : Int) ≤ s.most
  calls : s.ws.Pairwise fun a b => a.call ≠ b.call
  sorted : s.ws.Pairwise fun a b => a.since ≤ b.since

theorem chk_good {s : St} : chk s = 0 ↔ Good s := by
  have hd := dupTo_iff (ws := s.ws) (Nat.le_refl _)
  have hs := sortTo_iff (ws := s.ws) (Nat.le_refl _)
  rw [List.take_length] at hd hs
  unfold chk
  constructor
  · intro h
    split at h
    · omega
    rename_i h1
    split at h
    · omega
    rename_i h2
    split at h
    · omega
    rename_i h3
    split at h
    · rename_i h4
      simp only [Bool.not_eq_true, Bool.or_eq_false_iff, Bool.not_eq_false'] at h1 h3
      exact ⟨h1.1, h1.2, by omega, hd.1 h3, hs.1 h4⟩
    · omega
  · rintro ⟨h1, h2, h3, h4, h5⟩
    rw [h1, h2, hd.2 h4, hs.2 h5]
    simp; omega

theorem Good.erase {s : St} (h : Good s) (i : Nat) : Good ⟨s.most, s.ws.eraseIdx i⟩ := by
  have hsub := List.eraseIdx_sublist s.ws i
  refine ⟨h.room, ?_, ?_, h.calls.sublist hsub, h.sorted.sublist hsub⟩
  · have := h.odd
    rw [List.any_eq_false] at this ⊢
    exact fun x hx => this x (hsub.subset hx)
  · have := hsub.length_le
    have := h.long
    show ((s.ws.eraseIdx i).length : Int) ≤ s.most
    omega
theorem Good.filter {s : St} (h : Good s) (p : Wt → Bool) : Good ⟨s.most, s.ws.filter p⟩ := by
  have hsub := List.filter_sublist (l := s.ws) (p := p)
  refine ⟨h.room, ?_, ?_, h.calls.sublist hsub, h.sorted.sublist hsub⟩
  · have := h.odd
    rw [List.any_eq_false] at this ⊢
    exact fun x hx => this x (hsub.subset hx)
  · have := hsub.length_le
    have := h.long
    show ((s.ws.filter p).length : Int) ≤ s.most
    omega
theorem Good.short {s : St} (h : Good s) : s.ws.length ≤ 64 := by
  have := h.long
  have := h.room
  simp [Go.Proofs.Ytajkljbcfgegoaa.room] at this
  omega
/-- What idx finds holds. -/
theorem idx_holds' {α : Type} (p : α → Bool) : ∀ (ws : List α) (k : Int) (j : Nat) (x : α), ws[j]? = some x → idx p ws k = k + (j : Int) → 0 ≤ k → p x = true
  | [], _, _, _, h, _, _ => by simp at h
  | y :: ys, k, j, x, h, hi, hk => by
    unfold idx at hi
    split at hi
    · obtain rfl : j = 0 := by omega
      simp at h
      subst h
      assumption
    · cases j with
      | zero =>
        exfalso
        rcases idx_range p ys (k + 1) with h1 | h1 <;> omega
      | succ j =>
        exact idx_holds' p ys (k + 1) j x (by simpa using h) (by omega) (by omega)
theorem idx_holds {now : Int} (ws : List Wt) (j : Nat) (x : Wt) (hx : ws[j]? = some x) (h : idx (fun x => decide (now < x.dead)) ws 0 = (j : Int)) : now < x.dead := by
  have := idx_holds' (fun x => decide (now < x.dead)) ws 0 j x hx (by omega) (by omega)
  simpa using this
end Go.Proofs.Ytajkljbcfgegoaa
