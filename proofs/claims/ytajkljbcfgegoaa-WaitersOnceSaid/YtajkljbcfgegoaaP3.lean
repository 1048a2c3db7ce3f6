/- Plain laws for WaitersPlaces: the line of waiters 100, 99, 98 .. No program in sight. -/
import Derived.Test.YtajkljbcfgegoaaP2
namespace Go.Proofs.Ytajkljbcfgegoaa

def lw (j : Nat) : Wt := ⟨100 - (j : Int), j, 1000000000001⟩
def line (n : Nat) : List Wt := (List.range n).map lw

theorem line_len (n : Nat) : (line n).length = n := by simp [line]
theorem line_at {n j : Nat} (h : j < n) : (line n)[j]? = some (lw j) := by simp [line, h]
theorem line_succ (n : Nat) : line (n + 1) = line n ++ [lw n] := by simp [line, List.range_succ]
theorem line_take (n k : Nat) : (line n).take k = line (min n k) := by simp [line, ← List.map_take, List.take_range, Nat.min_comm]
theorem line_mem {n : Nat} {x : Wt} (h : x ∈ line n) : ∃ j, j < n ∧ x = lw j := by
  simp only [line, List.mem_map, List.mem_range] at h
  obtain ⟨j, h1, h2⟩ := h
  exact ⟨j, h1, h2.symm⟩
theorem line_good {n : Nat} (h : n ≤ 64) : Good ⟨64, line n⟩ := by
  refine ⟨rfl, ?_, by rw [line_len]; show (n : Int) ≤ 64; omega, ?_, ?_⟩
  · rw [List.any_eq_false]
    intro x hx
    obtain ⟨j, hj, rfl⟩ := line_mem hx
    have h1 : callOk (100 - (j : Int)) = true := by simp [callOk]; omega
    have h2 : decide ((j : Int) ≤ 1000000000000) = true := decide_eq_true (by omega)
    have h3 : decide ((j : Int) < 1000000000001) = true := decide_eq_true (by omega)
    have h4 : decide ((0 : Int) ≤ (j : Int)) = true := decide_eq_true (by omega)
    have h5 : decide ((1000000000001 : Int) ≤ 1000000000001) = true := decide_eq_true (by omega)
    have h6 : oddW (lw j) = false := by
      show (!(callOk (100 - (j : Int)) && (decide (0 ≤ (j : Int)) && (decide ((j : Int) ≤ 1000000000000) && (decide ((j : Int) < 1000000000001) && decide ((1000000000001 : Int) ≤ 1000000000001)))))) = false
      rw [h1, h2, h3, h4, h5]; rfl
    rw [h6]
    exact Bool.false_ne_true
  · show List.Pairwise _ (line n)
    rw [line, List.pairwise_map]
    exact List.pairwise_lt_range.imp fun h => by simp [lw]; omega
  · show List.Pairwise _ (line n)
    rw [line, List.pairwise_map]
    exact List.pairwise_lt_range.imp fun h => by simp [lw]; omega
theorem Good.sub {s : St} (h : Good s) {ws : List Wt} {m : Int} (hsub : ws.Sublist s.ws) (hm : Go.Proofs.Ytajkljbcfgegoaa.room m = true) (hl : (ws.length : Int) ≤ m) : Good ⟨m, ws⟩ := by
  refine ⟨hm, ?_, hl, h.calls.sublist hsub, h.sorted.sublist hsub⟩
  have := h.odd
  rw [List.any_eq_false] at this ⊢
  exact fun x hx => this x (hsub.subset hx)
theorem line_place {m i : Nat} (h : i < m) : place (line m) (100 - (i : Int)) = i :=
  idx_hit _ _ i (lw i) (line_at h) (by simp [lw]) fun j y hj hy => by
    rw [line_at (by omega)] at hy
    cases hy
    simp [lw]; omega
theorem line_miss {m i : Nat} (h : m ≤ i) : place (line m) (100 - (i : Int)) = -1 :=
  idx_miss _ _ fun j y hj hy => by
    rw [line_len] at hj
    rw [line_at hj] at hy
    cases hy
    simp [lw]; omega
theorem line_join {k : Nat} (h : k < 64) : join ⟨64, line k⟩ (100 - (k : Int)) k 1000000000001 = (⟨64, line (k + 1)⟩, 0) := by
  have hat : At ⟨64, line k⟩ k := ⟨line_good (by omega), by omega, by omega, fun x hx => by
    obtain ⟨j, hj, rfl⟩ := line_mem hx
    simp [lw]; omega⟩
  have hr := hat.rdy
  have hc : callOk (100 - (k : Int)) = true := by simp [callOk]; omega
  have hp := line_miss (Nat.le_refl k)
  have hl := line_len k
  have hs := line_succ k
  unfold join
  rw [if_neg (by omega), if_neg (by rw [hc]; simp), if_neg (by show ¬ 0 ≤ place (line k) _; omega), if_neg (by omega), if_neg (by show ¬ ((line k).length : Int) = 64; omega), hs]
  rfl
theorem line_where {n m i : Nat} {r : Int} (hn : n ≤ 64) (hr : room r = true) (hm : m ≤ n) (hl : (m : Int) ≤ r) : where_ ⟨r, line m⟩ (100 - (i : Int)) = if i < m then ((i : Int), 0) else (0, 4) := by
  have hg : Good ⟨r, line m⟩ := (line_good hn).sub (by rw [show line m = (line n).take m from by rw [line_take, Nat.min_eq_right hm]]; exact List.take_sublist _ _) hr (by rw [line_len]; exact hl)
  have hc := chk_good.2 hg
  unfold where_
  rw [if_neg (by omega)]
  by_cases h : i < m
  · have hp := line_place h
    rw [if_pos h, if_pos (by show 0 ≤ place (line m) _; omega)]
    show (place (line m) _, (0 : Int)) = _
    rw [hp]
  · have hp := line_miss (m := m) (i := i) (by omega)
    rw [if_neg h, if_neg (by show ¬ 0 ≤ place (line m) _; omega)]
theorem line_drop {m i : Nat} (h : i < m) : (line m).drop i = lw i :: (line m).drop (i + 1) := by
  have hl : i < (line m).length := by rw [line_len]; exact h
  have ha := line_at h
  rw [List.drop_eq_getElem_cons hl]
  rw [List.getElem?_eq_getElem hl] at ha
  rw [Option.some.inj ha]
theorem line_serve {m i : Nat} {r : Int} (hm : m ≤ 64) (hr : room r = true) (hl : (m : Int) ≤ r) (h : i < m) : serve ⟨r, (line m).drop i⟩ 500 = (⟨r, (line m).drop (i + 1)⟩, lw i, 0) := by
  have hat : At ⟨r, (line m).drop i⟩ 500 := ⟨(line_good hm).sub (List.drop_sublist _ _) hr (by rw [List.length_drop, line_len]; omega), by omega, by omega, fun x hx => by
    obtain ⟨j, hj, rfl⟩ := line_mem (List.mem_of_mem_drop hx)
    simp [lw]; omega⟩
  have hd := hat.rdy
  unfold serve
  rw [if_neg (by omega)]
  simp only
  rw [line_drop h, idx, if_pos (by simp [lw])]
  rfl
end Go.Proofs.Ytajkljbcfgegoaa
