/- Plain laws for WaitersOnce: which numbers are marked. No program in sight. -/
import Derived.Test.YtajkljbcfgegoaaP4
namespace Go.Proofs.Ytajkljbcfgegoaa

/-- Marked are just the numbers of those that wait. -/
structure Inv (G : List Int) (n : Nat) (ws : List Wt) : Prop where
  len : G.length = 200
  calls : ws.Pairwise fun a b => a.call ≠ b.call
  range : ∀ x ∈ ws, 1 ≤ x.call ∧ x.call < n
  mark : ∀ c : Nat, G[c]? = some (-1) ↔ ∃ x ∈ ws, x.call = c

theorem Inv.perm {G : List Int} {n : Nat} {ws ws' : List Wt} (h : Inv G n ws) (hp : ws.Perm ws') : Inv G n ws' :=
  ⟨h.len, (hp.pairwise_iff fun h => h.symm).1 h.calls, fun x hx => h.range x (hp.mem_iff.2 hx), fun c => (h.mark c).trans ⟨fun ⟨x, h1, h2⟩ => ⟨x, hp.mem_iff.1 h1, h2⟩, fun ⟨x, h1, h2⟩ => ⟨x, hp.mem_iff.2 h1, h2⟩⟩⟩
theorem Inv.pop {G : List Int} {n : Nat} {x : Wt} {ws : List Wt} (h : Inv G n (x :: ws)) : ∃ c : Nat, x.call = c ∧ 1 ≤ c ∧ c < n ∧ c < 200 ∧ G[c]? = some (-1) ∧ Inv (G.set c 1) n ws := by
  have h1 := h.range x List.mem_cons_self
  obtain ⟨c, hc⟩ : ∃ c : Nat, x.call = c := ⟨x.call.toNat, by omega⟩
  have h2 : G[c]? = some (-1) := (h.mark c).2 ⟨x, List.mem_cons_self, hc⟩
  have h3 := (List.getElem?_eq_some_iff.1 h2).1
  have hl := h.len
  refine ⟨c, hc, by omega, by omega, by omega, h2, by rw [List.length_set]; exact hl, (List.pairwise_cons.1 h.calls).2, fun y hy => h.range y (List.mem_cons_of_mem _ hy), fun k => ?_⟩
  rw [List.getElem?_set]
  split
  · rename_i hk
    subst hk
    constructor
    · intro e; simp at e
    · rintro ⟨y, hy, e⟩
      exact absurd (hc.trans e.symm) ((List.pairwise_cons.1 h.calls).1 y hy)
  · rename_i hk
    rw [h.mark k]
    constructor
    · rintro ⟨y, hy, e⟩
      rcases List.mem_cons.1 hy with rfl | hy
      · omega
      · exact ⟨y, hy, e⟩
    · rintro ⟨y, hy, e⟩
      exact ⟨y, List.mem_cons_of_mem _ hy, e⟩
theorem Inv.push {G : List Int} {n : Nat} {ws : List Wt} (h : Inv G n ws) {x : Wt} (hx : x.call = n) (h1 : 1 ≤ n) (hn : n < 200) : Inv (G.set n (-1)) (n + 1) (x :: ws) := by
  have hl := h.len
  refine ⟨by rw [List.length_set]; exact hl, List.pairwise_cons.2 ⟨fun y hy e => ?_, h.calls⟩, fun y hy => ?_, fun k => ?_⟩
  · have := (h.range y hy).2
    omega
  · rcases List.mem_cons.1 hy with rfl | hy
    · omega
    · have := h.range y hy
      omega
  · rw [List.getElem?_set]
    split
    · rename_i hk
      subst hk
      rw [if_pos (by omega)]
      exact ⟨fun _ => ⟨x, List.mem_cons_self, hx⟩, fun _ => rfl⟩
    · rename_i hk
      rw [h.mark k]
      constructor
      · rintro ⟨y, hy, e⟩
        exact ⟨y, List.mem_cons_of_mem _ hy, e⟩
      · rintro ⟨y, hy, e⟩
        rcases List.mem_cons.1 hy with rfl | hy
        · omega
        · exact ⟨y, hy, e⟩
theorem Inv.skip {G : List Int} {n : Nat} {ws : List Wt} (h : Inv G n ws) : Inv G (n + 1) ws :=
  ⟨h.len, h.calls, fun x hx => by have := h.range x hx; omega, h.mark⟩
theorem Inv.start : Inv (List.replicate 200 0) 1 [] :=
  ⟨List.length_replicate, List.Pairwise.nil, (fun x hx => by cases hx), fun c => by
    rw [List.getElem?_replicate]
    constructor
    · intro e; split at e <;> simp at e
    · rintro ⟨x, hx, _⟩; cases hx⟩
theorem Inv.clear {G : List Int} {n : Nat} (h : Inv G n []) {c : Nat} {v : Int} (hv : G[c]? = some v) : v ≠ -1 := fun e => by
  subst e
  obtain ⟨x, hx, _⟩ := (h.mark c).1 hv
  cases hx

/-- What a call takes out, and what it leaves, is what was there. -/
theorem outAt_perm {s : St} {k : Nat} {x : Wt} (hx : s.ws[k]? = some x) : outAt s k = (⟨s.most, s.ws.eraseIdx k⟩, x, 0) ∧ ([x] ++ s.ws.eraseIdx k).Perm s.ws := by
  have hlt := lt_some hx
  constructor
  · rw [outAt, if_neg (by omega)]
    simp [hx]
  · have e : s.ws[k] = x := by rw [List.getElem?_eq_getElem hlt] at hx; exact Option.some.inj hx
    have h1 : s.ws = s.ws.take k ++ x :: s.ws.drop (k + 1) := by
      rw [← e, List.getElem_cons_drop, List.take_append_drop]
    conv => rhs; rw [h1]
    rw [List.eraseIdx_eq_take_drop_succ, List.singleton_append]
    exact List.perm_middle.symm
theorem outAt_cases (s : St) (p : Wt → Bool) : (outAt s (idx p s.ws 0) = (s, ⟨0, 0, 0⟩, 4)) ∨ ∃ (k : Nat) (x : Wt), s.ws[k]? = some x ∧ p x = true ∧ outAt s (idx p s.ws 0) = (⟨s.most, s.ws.eraseIdx k⟩, x, 0) ∧ ([x] ++ s.ws.eraseIdx k).Perm s.ws := by
  rcases idx_range p s.ws 0 with h | h
  · left
    rw [h]
    rfl
  · right
    obtain ⟨k, hk⟩ : ∃ k : Nat, idx p s.ws 0 = k := ⟨_, (Int.toNat_of_nonneg h.1).symm⟩
    obtain ⟨x, hx⟩ := some_lt (show k < s.ws.length by omega)
    refine ⟨k, x, hx, idx_holds' p s.ws 0 k x hx (by omega) (by omega), ?_⟩
    rw [hk]
    exact outAt_perm hx
theorem At.sub {s : St} {now : Int} (h : At s now) {t : St} (hg : Good t) (hs : ∀ x ∈ t.ws, x ∈ s.ws) : At t now := ⟨hg, h.lo, h.hi, fun x hx => h.since x (hs x hx)⟩
theorem serve_cases {s : St} {now : Int} (h : At s now) : serve s now = (s, ⟨0, 0, 0⟩, 4) ∨ ∃ (k : Nat) (x : Wt), s.ws[k]? = some x ∧ now < x.dead ∧ serve s now = (⟨s.most, s.ws.eraseIdx k⟩, x, 0) ∧ ([x] ++ s.ws.eraseIdx k).Perm s.ws := by
  have hd := h.rdy
  unfold serve
  rw [if_neg (by omega)]
  rcases outAt_cases s (fun x => decide (now < x.dead)) with h | ⟨k, x, h1, h2, h3, h4⟩
  · exact .inl h
  · exact .inr ⟨k, x, h1, by simpa using h2, h3, h4⟩
theorem cancel_cases {s : St} (h : Good s) (n : Int) : cancel s n = (s, ⟨0, 0, 0⟩, 4) ∨ ∃ (k : Nat) (x : Wt), s.ws[k]? = some x ∧ cancel s n = (⟨s.most, s.ws.eraseIdx k⟩, x, 0) ∧ ([x] ++ s.ws.eraseIdx k).Perm s.ws := by
  have hd := chk_good.2 h
  unfold cancel
  rw [if_neg (by omega)]
  rcases outAt_cases s (fun x => x.call == n) with h | ⟨k, x, h1, h2, h3, h4⟩
  · exact .inl h
  · exact .inr ⟨k, x, h1, h3, h4⟩
theorem expire_perm {s : St} {now : Int} (h : At s now) : ((expire s now).2.1 ++ (expire s now).1.ws).Perm s.ws ∧ (expire s now).2.2 = 0 := by
  have hd := h.rdy
  unfold expire
  rw [if_neg (by omega)]
  refine ⟨?_, rfl⟩
  exact List.perm_append_comm.trans (List.filter_append_perm _ s.ws)
theorem resize_perm {s : St} (h : Good s) {m : Int} (hm : room m = true) : ((resize s m).2.1 ++ (resize s m).1.ws).Perm s.ws ∧ (resize s m).2.2 = 0 := by
  have hd := chk_good.2 h
  unfold resize
  rw [if_neg (by omega), if_neg (by simp [hm])]
  refine ⟨?_, rfl⟩
  have : (s.ws.drop m.toNat ++ s.ws.take m.toNat).Perm (s.ws.take m.toNat ++ s.ws.drop m.toNat) := List.perm_append_comm
  rw [List.take_append_drop] at this
  exact this
theorem join_cases {s : St} {now n dead : Int} (h : At s now) (hn : callOk n = true) (h0 : 0 ≤ dead) (h1 : dead ≤ 1000000000001) (hp : ∀ x ∈ s.ws, x.call ≠ n) : join s n now dead = (s, 9) ∨ join s n now dead = (s, 5) ∨ (join s n now dead = (⟨s.most, s.ws ++ [⟨n, now, dead⟩]⟩, 0) ∧ Good ⟨s.most, s.ws ++ [⟨n, now, dead⟩]⟩) := by
  have hd := h.rdy
  have hpl : ¬ 0 ≤ place s.ws n := fun hc => by
    have := place_any_eq s.ws n
    rw [decide_eq_true hc] at this
    obtain ⟨x, hx, e⟩ := List.any_eq_true.1 this.symm
    exact hp x hx (by simpa using e)
  unfold join
  rw [if_neg (by omega), if_neg (by simp [hn, h0, h1]), if_neg hpl]
  split
  · exact .inl rfl
  split
  · exact .inr (.inl rfl)
  · rename_i h2 h3
    have := h.good.long
    exact .inr (.inr ⟨rfl, Good.push h hn (by omega) h1 hp (by omega)⟩)
end Go.Proofs.Ytajkljbcfgegoaa
