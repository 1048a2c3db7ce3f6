/- Plain laws: what each call makes of a valid state is valid. No program in sight. -/
import Derived.Test.YtajkljbcfgegoaaP3
namespace Go.Proofs.Ytajkljbcfgegoaa

theorem rdy_good {s : St} {now : Int} (h : rdy s now = 0) : Good s := by
  refine chk_good.1 ?_
  unfold rdy at h
  split at h
  · rename_i hc; exact absurd h hc
  · rename_i hc; simpa using hc
theorem rdy_at {s : St} {now : Int} (h : rdy s now = 0) : At s now := by
  have hg := rdy_good h
  have hc := chk_good.2 hg
  unfold rdy at h
  rw [if_neg (by omega)] at h
  split at h
  · omega
  rename_i hb
  simp only [badTime, Bool.not_eq_true, Bool.or_eq_false_iff, decide_eq_false_iff_not, Bool.and_eq_false_iff] at hb
  refine ⟨hg, by omega, by omega, fun x hx => ?_⟩
  obtain ⟨j, hj, rfl⟩ := List.mem_iff_getElem.1 hx
  have hl : s.ws.length - 1 < s.ws.length := by omega
  obtain ⟨y, hy⟩ := some_lt hl
  have hye : s.ws[s.ws.length - 1] = y := by rw [List.getElem?_eq_getElem hl] at hy; exact Option.some.inj hy
  have hb2 := hb.2
  rw [getD_some hy] at hb2
  have hyn : y.since ≤ now := by
    rcases hb2 with hb2 | hb2 <;> omega
  by_cases hjk : j = s.ws.length - 1
  · subst hjk; rw [hye]; exact hyn
  · have := List.pairwise_iff_getElem.1 hg.sorted j (s.ws.length - 1) hj hl (by omega)
    rw [hye] at this
    exact Int.le_trans this hyn
theorem place_neg {ws : List Wt} {n : Int} (h : ¬ 0 ≤ place ws n) : ∀ x ∈ ws, x.call ≠ n := by
  have := place_any_eq ws n
  rw [decide_eq_false h] at this
  have := List.any_eq_false.1 this.symm
  intro x hx e
  exact this x hx (by simp [e])
theorem Good.push {s : St} {n now dead : Int} (h : At s now) (hn : callOk n = true) (h1 : now < dead) (h2 : dead ≤ 1000000000001) (hp : ∀ x ∈ s.ws, x.call ≠ n) (hl : (s.ws.length : Int) < s.most) : Good ⟨s.most, s.ws ++ [⟨n, now, dead⟩]⟩ := by
  have hg := h.good
  refine ⟨hg.room, ?_, ?_, ?_, ?_⟩
  · show (s.ws ++ [(⟨n, now, dead⟩ : Wt)]).any oddW = false
    have h3 := h.lo
    have h4 := h.hi
    rw [List.any_append, hg.odd]
    simp [oddW, hn, h3, h4, h1, h2]
  · show (((s.ws ++ [(⟨n, now, dead⟩ : Wt)]).length : Nat) : Int) ≤ s.most
    rw [List.length_append]
    simp; omega
  · show (s.ws ++ [(⟨n, now, dead⟩ : Wt)]).Pairwise _
    rw [List.pairwise_append]
    exact ⟨hg.calls, by simp, fun a ha b hb => by simp at hb; subst hb; exact hp a ha⟩
  · show (s.ws ++ [(⟨n, now, dead⟩ : Wt)]).Pairwise _
    rw [List.pairwise_append]
    exact ⟨hg.sorted, by simp, fun a ha b hb => by simp at hb; subst hb; exact h.since a ha⟩
theorem Good.outAt {s : St} (h : Good s) (i : Int) : Good (outAt s i).1 := by
  unfold Go.Proofs.Ytajkljbcfgegoaa.outAt
  split
  · exact h
  · exact h.erase _
theorem Good.serve {s : St} (h : Good s) (now : Int) : Good (serve s now).1 := by
  unfold Go.Proofs.Ytajkljbcfgegoaa.serve
  split
  · exact h
  · exact h.outAt _
theorem Good.cancel {s : St} (h : Good s) (n : Int) : Good (cancel s n).1 := by
  unfold Go.Proofs.Ytajkljbcfgegoaa.cancel
  split
  · exact h
  · exact h.outAt _
theorem Good.expire {s : St} (h : Good s) (now : Int) : Good (expire s now).1 := by
  unfold Go.Proofs.Ytajkljbcfgegoaa.expire
  split
  · exact h
  · exact h.filter _
theorem Good.resize {s : St} (h : Good s) (m : Int) : Good (resize s m).1 := by
  unfold Go.Proofs.Ytajkljbcfgegoaa.resize
  split
  · exact h
  · split
    · exact h
    · rename_i hr
      have hr : Go.Proofs.Ytajkljbcfgegoaa.room m = true := by simpa using hr
      have hr' := hr
      simp [Go.Proofs.Ytajkljbcfgegoaa.room] at hr'
      refine h.sub (List.take_sublist _ _) hr ?_
      rw [List.length_take]; omega
theorem Good.join {s : St} (h : Good s) (n now dead : Int) : Good (join s n now dead).1 := by
  unfold Go.Proofs.Ytajkljbcfgegoaa.join
  split
  · exact h
  rename_i h1
  have h1 : rdy s now = 0 := by simpa using h1
  split
  · exact h
  rename_i h2
  split
  · exact h
  rename_i h3
  split
  · exact h
  rename_i h4
  split
  · exact h
  rename_i h5
  simp at h2
  have := h.long
  exact Good.push (rdy_at h1) h2.1 (by omega) h2.2.2 (place_neg h3) (by omega)
theorem Good.new (m : Int) : Good (new m).1 := by
  unfold Go.Proofs.Ytajkljbcfgegoaa.new
  split
  · rename_i h
    have h' := h
    simp [Go.Proofs.Ytajkljbcfgegoaa.room] at h'
    exact ⟨h, rfl, h'.1, List.Pairwise.nil, List.Pairwise.nil⟩
  · exact ⟨by decide, rfl, by decide, List.Pairwise.nil, List.Pairwise.nil⟩
end Go.Proofs.Ytajkljbcfgegoaa
