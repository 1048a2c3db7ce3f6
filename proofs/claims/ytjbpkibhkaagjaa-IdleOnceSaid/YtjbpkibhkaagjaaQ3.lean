/- Plain laws for IdleOnce: which numbers are marked; what a call closes, and what it leaves. No program in sight. -/
import Derived.Test.YtjbpkibhkaagjaaQ2
namespace Go.Proofs.Ytjbpkibhkaagjaa

/-- Marked are just the numbers that were put and are gone. -/
structure Inv (G : List Int) (n : Nat) (L : List Int) : Prop where
  len : G.length = 200
  nodup : L.Nodup
  range : ∀ c ∈ L, 1 ≤ c ∧ c < n
  small : n ≤ 200
  mark : ∀ k : Nat, 1 ≤ k → k < n → G[k]? = some (if (k : Int) ∈ L then 0 else 1)
  rest : ∀ k : Nat, n ≤ k → k < 200 → G[k]? = some 0
theorem Inv.perm {G : List Int} {n : Nat} {L L' : List Int} (h : Inv G n L) (hp : L.Perm L') : Inv G n L' :=
  ⟨h.len, hp.nodup_iff.1 h.nodup, fun c hc => h.range c (hp.mem_iff.2 hc), h.small, fun k h1 h2 => by rw [h.mark k h1 h2]; simp only [hp.mem_iff], h.rest⟩
theorem Inv.pop {G : List Int} {n : Nat} {c : Int} {L : List Int} (h : Inv G n (c :: L)) : ∃ k : Nat, c = k ∧ 1 ≤ k ∧ k < n ∧ k < 200 ∧ G[k]? = some 0 ∧ Inv (G.set k 1) n L := by
  have h1 := h.range c List.mem_cons_self
  obtain ⟨k, rfl⟩ : ∃ k : Nat, c = k := ⟨c.toNat, by omega⟩
  have hs := h.small
  have h2 := h.mark k (by omega) (by omega)
  rw [if_pos List.mem_cons_self] at h2
  have hnd := List.nodup_cons.1 h.nodup
  refine ⟨k, rfl, by omega, by omega, by omega, h2, by rw [List.length_set]; exact h.len, hnd.2, fun d hd => h.range d (List.mem_cons_of_mem _ hd), hs, fun j hj1 hj2 => ?_, fun j hj1 hj2 => ?_⟩
  · rw [List.getElem?_set]
    split
    · rename_i e
      subst e
      rw [if_pos (by have := h.len; omega), if_neg hnd.1]
    · rename_i e
      rw [h.mark j hj1 hj2]
      have : ¬ (j : Int) = k := by omega
      simp only [List.mem_cons, this, false_or]
  · rw [List.getElem?_set, if_neg (by omega)]
    exact h.rest j hj1 hj2
theorem Inv.push {G : List Int} {n : Nat} {L : List Int} (h : Inv G n L) (h1 : 1 ≤ n) (hn : n < 200) : Inv G (n + 1) ((n : Int) :: L) := by
  refine ⟨h.len, List.nodup_cons.2 ⟨fun hm => by have := h.range _ hm; omega, h.nodup⟩, fun c hc => ?_, by omega, fun k hk1 hk2 => ?_, fun k hk1 hk2 => h.rest k (by omega) hk2⟩
  · rcases List.mem_cons.1 hc with rfl | hc
    · omega
    · have := h.range c hc; omega
  · by_cases hk : k = n
    · subst hk
      rw [h.rest k (Nat.le_refl _) hn, if_pos List.mem_cons_self]
    · rw [h.mark k hk1 (by omega)]
      have : ¬ (k : Int) = n := by omega
      simp only [List.mem_cons, this, false_or]
theorem Inv.start : Inv (List.replicate 200 0) 1 [] :=
  ⟨List.length_replicate, List.nodup_nil, (fun c hc => by cases hc), by omega, fun k h1 h2 => by omega, fun k h1 h2 => by rw [List.getElem?_replicate, if_pos h2]⟩
theorem Inv.over {G : List Int} {n : Nat} (h : Inv G n []) {k : Nat} (h1 : 1 ≤ k) (h2 : k < n) : G[k]? = some 1 := by
  rw [h.mark k h1 h2]; simp

abbrev conns (cs : List Cn) : List Int := cs.map Cn.conn
theorem reap_perm (s : St) (now : Int) : (shut s now ++ conns (left s now)).Perm (conns s.cs) := by
  unfold shut left
  rw [← List.map_append]
  exact (List.perm_append_comm.trans (List.filter_append_perm _ s.cs)).map _
theorem take_cases {s : St} {now : Int} (h : At s now) : (take s now = (⟨s.most, s.idle, s.age, []⟩, ⟨0, 0, 0⟩, shut s now, 4) ∧ (shut s now ++ conns []).Perm (conns s.cs)) ∨
    ∃ (L : List Cn) (y : Cn), take s now = (⟨s.most, s.idle, s.age, L⟩, y, shut s now, 0) ∧ L.Sublist s.cs ∧ ((shut s now ++ [y.conn]) ++ conns L).Perm (conns s.cs) := by
  have hp := reap_perm s now
  rcases List.eq_nil_or_concat (left s now) with h0 | ⟨L, y, h0⟩
  · left
    rw [h0] at hp
    exact ⟨by simp [take, h.rdy, h0], hp⟩
  · right
    rw [List.concat_eq_append] at h0
    refine ⟨L, y, by simp [take, h.rdy, h0], ?_, ?_⟩
    · have := left_sub s now
      rw [h0] at this
      exact (List.sublist_append_left L [y]).trans this
    · rw [h0] at hp
      refine List.Perm.trans ?_ hp
      rw [List.append_assoc]
      refine List.Perm.append_left _ ?_
      rw [conns, conns, List.map_append]
      exact List.perm_append_comm
theorem remove_cases {s : St} (h : Good s) (n : Int) : remove s n = (s, ⟨0, 0, 0⟩, 4) ∨ ∃ (k : Nat) (x : Cn), s.cs[k]? = some x ∧ remove s n = (⟨s.most, s.idle, s.age, s.cs.eraseIdx k⟩, x, 0) ∧ ([x.conn] ++ conns (s.cs.eraseIdx k)).Perm (conns s.cs) := by
  have hc := chk_good.2 h
  by_cases h0 : place s.cs n < 0
  · left; simp [remove, hc, h0]
  right
  obtain ⟨k, hk⟩ : ∃ k : Nat, place s.cs n = k := ⟨_, (Int.toNat_of_nonneg (by omega)).symm⟩
  have hlt : k < s.cs.length := by
    have := idx_range (fun x : Cn => x.conn == n) s.cs 0
    unfold place at hk
    omega
  obtain ⟨x, hx⟩ := some_lt hlt
  have h1 : ¬ place s.cs n < 0 := h0
  refine ⟨k, x, hx, by simp [remove, hc, hk, hx], ?_⟩
  have e : s.cs[k] = x := by rw [List.getElem?_eq_getElem hlt] at hx; exact Option.some.inj hx
  have h2 : (x :: s.cs.eraseIdx k).Perm s.cs := by
    have h3 : s.cs = s.cs.take k ++ x :: s.cs.drop (k + 1) := by
      rw [← e, ← List.drop_eq_getElem_cons hlt, List.take_append_drop]
    rw [List.eraseIdx_eq_take_drop_succ]
    conv => rhs; rw [h3]
    exact List.perm_middle.symm
  exact h2.map Cn.conn
theorem resize_at {s : St} {now m : Int} (h : At s now) (hm : 0 ≤ m ∧ m ≤ 64) : ∃ t C, resize s m = (t, C, 0) ∧ At t now ∧ (C ++ conns t.cs).Perm (conns s.cs) := by
  have hc := chk_good.2 h.toGood
  have hi : inB m 0 64 = true := by simp [inB, hm]
  refine ⟨⟨m, s.idle, s.age, s.cs.drop (over s m)⟩, conns (s.cs.take (over s m)), by simp [resize, hc, hi], ?_, ?_⟩
  · have hsub := List.drop_sublist (over s m) s.cs
    have hg := h.toGood.sub hsub
    refine ⟨⟨?_, hg.odd, ?_, hg.calls, hg.sorted⟩, h.lo, h.hi, fun x hx => h.since x (hsub.subset hx)⟩
    · have := h.nums
      simp only [nums, Bool.and_eq_true] at this ⊢
      exact ⟨hi, this.2⟩
    · show ((s.cs.drop (over s m)).length : Int) ≤ m
      rw [List.length_drop]; unfold over; omega
  · rw [conns, conns, ← List.map_append, List.take_append_drop]
theorem Good.push {m i a : Int} {xs : List Cn} {c : Cn} (h : Good ⟨m, i, a, xs⟩) (hl : (xs.length : Int) + 1 ≤ m) (ho : oddC c = false) (hc : ∀ x ∈ xs, x.conn ≠ c.conn) (hs : ∀ x ∈ xs, x.since ≤ c.since) : Good ⟨m, i, a, xs ++ [c]⟩ := by
  refine ⟨h.nums, ?_, by simpa using hl, ?_, ?_⟩
  · rw [List.any_append, h.odd]; simp [ho]
  · rw [List.pairwise_append]
    exact ⟨h.calls, List.pairwise_singleton _ _, fun x hx y hy => by rw [List.mem_singleton.1 hy]; exact hc x hx⟩
  · rw [List.pairwise_append]
    exact ⟨h.sorted, List.pairwise_singleton _ _, fun x hx y hy => by rw [List.mem_singleton.1 hy]; exact hs x hx⟩
theorem put_at {s : St} {now n b : Int} (h : At s now) (hn : 1 ≤ n ∧ n ≤ 1000000000000000) (hb : 0 ≤ b ∧ b ≤ now) (hf : ∀ x ∈ s.cs, x.conn ≠ n) : ∃ t C, put s n b now = (t, C, 0) ∧ At t now ∧ (C ++ conns t.cs).Perm (n :: conns s.cs) ∧ C.length ≤ 1 := by
  have hd := h.rdy
  have hlo := h.lo
  have hhi := h.hi
  have ho : oddC ⟨n, b, now⟩ = false := by simp [oddC, inB]; omega
  have hp : ¬ 0 ≤ place s.cs n := fun hc => by
    have := place_any_eq s.cs n
    rw [decide_eq_true hc] at this
    obtain ⟨x, hx, e⟩ := List.any_eq_true.1 this.symm
    exact hf x hx (by simpa using e)
  unfold put
  rw [if_neg (by omega), if_neg (by simp [ho]), if_neg hp]
  split
  · exact ⟨s, [n], rfl, h, List.Perm.refl _, Nat.le_refl _⟩
  rename_i h3
  have hlong := h.long
  split
  · rename_i h4
    refine ⟨_, [], rfl, ⟨h.toGood.push h4 ho hf h.since, hlo, hhi, fun x hx => ?_⟩, ?_, Nat.zero_le _⟩
    · rcases List.mem_append.1 hx with hx | hx
      · exact h.since x hx
      · rw [List.mem_singleton.1 hx]; exact Int.le_refl _
    · show (conns (s.cs ++ [(⟨n, b, now⟩ : Cn)])).Perm _
      rw [conns, List.map_append]
      exact List.perm_append_comm
  · rename_i h4
    obtain ⟨x, r, hx⟩ : ∃ x r, s.cs = x :: r := by
      have hm := chk_most (chk_good.2 h.toGood)
      cases hcs : s.cs with
      | nil => rw [hcs] at h4 hlong; simp at h4 hlong; omega
      | cons x r => exact ⟨x, r, rfl⟩
    rw [hx]
    have hsub : r.Sublist s.cs := by rw [hx]; exact List.sublist_cons_self ..
    have hl2 : (s.cs.length : Int) = r.length + 1 := by rw [hx]; simp
    refine ⟨_, [x.conn], rfl, ⟨(h.toGood.sub hsub).push (by omega) ho (fun y hy => hf y (hsub.subset hy)) (fun y hy => h.since y (hsub.subset hy)), hlo, hhi, fun y hy => ?_⟩, ?_, Nat.le_refl _⟩
    · rcases List.mem_append.1 hy with hy | hy
      · exact h.since y (hsub.subset hy)
      · rw [List.mem_singleton.1 hy]; exact Int.le_refl _
    · show ([x.conn] ++ conns (r ++ [(⟨n, b, now⟩ : Cn)])).Perm (n :: conns (x :: r))
      rw [conns, conns, List.map_append, List.map_cons, ← List.append_assoc]
      exact List.perm_append_comm
end Go.Proofs.Ytjbpkibhkaagjaa
