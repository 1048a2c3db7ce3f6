/- Plain laws for IdleOrder: connections 1, 2, .. that were put at 0, 1, .. . No program in sight. -/
import Derived.Test.YtjbpkibhkaagjaaQ1
namespace Go.Proofs.Ytjbpkibhkaagjaa

def lw (i : Nat) : Cn := ⟨1 + i, i, i⟩
def seg (a b : Nat) : List Cn := (List.range' a (b - a)).map lw
theorem seg_len (a b : Nat) : (seg a b).length = b - a := by simp [seg]
theorem seg_nil {a b : Nat} (h : b ≤ a) : seg a b = [] := by simp [seg, Nat.sub_eq_zero_of_le h]
theorem seg_succ {a b : Nat} (h : a ≤ b) : seg a (b + 1) = seg a b ++ [lw b] := by
  unfold seg
  rw [show b + 1 - a = (b - a) + 1 by omega, List.range'_concat, List.map_append, show a + 1 * (b - a) = b by omega]
  rfl
theorem seg_drop (j a b : Nat) : (seg a b).drop j = seg (a + j) b := by
  unfold seg
  rw [← List.map_drop, List.drop_range', Nat.mul_one, show b - a - j = b - (a + j) by omega]
theorem seg_split {a b c : Nat} (h1 : a ≤ b) (h2 : b ≤ c) : seg a b ++ seg b c = seg a c := by
  unfold seg
  have := List.range'_append_1 (s := a) (m := b - a) (n := c - b)
  rw [show a + (b - a) = b by omega, show b - a + (c - b) = c - a by omega] at this
  rw [← List.map_append, this]
theorem seg_take (j a b : Nat) : (seg a b).take j = seg a (min (a + j) b) := by
  rcases Nat.le_total b a with h | h
  · rw [seg_nil h, seg_nil (by omega), List.take_nil]
  · rw [← seg_split (a := a) (b := min (a + j) b) (c := b) (by omega) (by omega)]
    rcases Nat.le_total (a + j) b with h2 | h2
    · exact List.take_left' (by rw [seg_len]; omega)
    · rw [List.take_of_length_le (by rw [List.length_append, seg_len, seg_len]; omega), show min (a + j) b = b by omega, seg_nil (Nat.le_refl b), List.append_nil]
theorem seg_mem {a b : Nat} {x : Cn} (h : x ∈ seg a b) : ∃ i, a ≤ i ∧ i < b ∧ x = lw i := by
  obtain ⟨i, hi, rfl⟩ := List.mem_map.1 h
  rw [List.mem_range'_1] at hi
  exact ⟨i, hi.1, by omega, rfl⟩
theorem seg_good {m a b : Nat} (hb : b ≤ 64) (hm : m ≤ 64) (hl : b - a ≤ m) : Good ⟨m, 1000, 1000, seg a b⟩ := by
  refine ⟨?_, ?_, ?_, ?_, ?_⟩
  · simp [nums, inB]; omega
  · rw [List.any_eq_false]
    intro x hx
    obtain ⟨i, h1, h2, rfl⟩ := seg_mem hx
    simp [oddC, inB, lw]
    exact ⟨⟨decide_eq_true (by omega), decide_eq_true (by omega)⟩, decide_eq_true (by omega)⟩
  · show ((seg a b).length : Int) ≤ m
    rw [seg_len]; omega
  · unfold seg
    rw [List.pairwise_map]
    exact (List.pairwise_lt_range' ..).imp fun h => by simp [lw]; omega
  · unfold seg
    rw [List.pairwise_map]
    exact (List.pairwise_lt_range' ..).imp fun h => by simp [lw]; omega
theorem seg_at {m a b : Nat} {t : Int} (hb : b ≤ 64) (hm : m ≤ 64) (hl : b - a ≤ m) (ht : (b : Int) ≤ t + 1) (ht0 : 0 ≤ t) (ht2 : t ≤ 1000000000000) : At ⟨m, 1000, 1000, seg a b⟩ t :=
  ⟨seg_good hb hm hl, ht0, ht2, fun x hx => by
    obtain ⟨i, h1, h2, rfl⟩ := seg_mem hx
    simp [lw]; omega⟩
theorem seg_put {k : Nat} (hk : k < 64) : put ⟨64, 1000, 1000, seg 0 k⟩ (1 + (k : Int)) k k = (⟨64, 1000, 1000, seg 0 (k + 1)⟩, [], 0) := by
  have hr : rdy ⟨64, 1000, 1000, seg 0 k⟩ k = 0 := (seg_at (m := 64) (a := 0) (b := k) (t := k) (by omega) (by omega) (by omega) (by omega) (by omega) (by omega)).rdy
  have ho : oddC ⟨1 + (k : Int), k, k⟩ = false := by simp [oddC, inB]; omega
  have hp : ¬ 0 ≤ place (seg 0 k) (1 + (k : Int)) := by
    unfold place
    rw [idx_miss]
    · omega
    · intro i y hi hy
      obtain ⟨q, h1, h2, rfl⟩ := seg_mem (List.mem_of_getElem? hy)
      simp [lw]; omega
  unfold put
  rw [if_neg (by simp [hr]), if_neg (by simp [ho]), if_neg hp, if_neg (by show ¬ ((64 : Int) = 0 ∨ (1000 : Int) ≤ k - k); omega), if_pos (by show ((seg 0 k).length : Int) + 1 ≤ 64; rw [seg_len]; omega), seg_succ (Nat.zero_le k)]
  rfl
theorem seg_resize {m k a b : Nat} (hb : b ≤ 64) (hm : m ≤ 64) (hl : b - a ≤ m) (hk : k ≤ 64) (hab : a ≤ b) : resize ⟨m, 1000, 1000, seg a b⟩ k = (⟨k, 1000, 1000, seg (max a (b - k)) b⟩, (seg a (max a (b - k))).map Cn.conn, 0) := by
  have hc := chk_good.2 (seg_good hb hm hl)
  have hk2 : inB (k : Int) 0 64 = true := by simp [inB]; omega
  have hov : over ⟨(m : Int), 1000, 1000, seg a b⟩ k = b - a - k := by unfold over; rw [seg_len]; omega
  unfold resize
  rw [if_neg (by simp [hc]), if_neg (by simp [hk2]), hov]
  show (_, ((seg a b).take (b - a - k)).map Cn.conn, (0 : Int)) = _
  rw [seg_take, seg_drop, show min (a + (b - a - k)) b = max a (b - k) by omega, show a + (b - a - k) = max a (b - k) by omega]
theorem seg_left {m a b : Nat} (hb : b ≤ 64) : left ⟨m, 1000, 1000, seg a b⟩ 100 = seg a b := by
  unfold left
  refine List.filter_eq_self.2 fun x hx => ?_
  obtain ⟨i, h1, h2, rfl⟩ := seg_mem hx
  simp [good, lw]
  exact ⟨decide_eq_true (by omega), decide_eq_true (by omega)⟩
theorem seg_shut {m a b : Nat} (hb : b ≤ 64) : shut ⟨m, 1000, 1000, seg a b⟩ 100 = [] := by
  unfold shut
  rw [List.map_eq_nil_iff, List.filter_eq_nil_iff]
  intro x hx
  obtain ⟨i, h1, h2, rfl⟩ := seg_mem hx
  simp [good, lw]
  exact ⟨decide_eq_true (by omega), decide_eq_true (by omega)⟩
theorem seg_pop {m a b : Nat} (hb : b + 1 ≤ 64) (hm : m ≤ 64) (hl : b + 1 - a ≤ m) (hab : a ≤ b) : take ⟨m, 1000, 1000, seg a (b + 1)⟩ 100 = (⟨m, 1000, 1000, seg a b⟩, lw b, [], 0) := by
  have hr := (seg_at (m := m) (a := a) (b := b + 1) (t := 100) hb hm hl (by omega) (by omega) (by omega)).rdy
  have h := seg_left (m := m) (a := a) (b := b + 1) hb
  have h2 := seg_shut (m := m) (a := a) (b := b + 1) hb
  rw [seg_succ hab] at h h2 hr ⊢
  simp [take, hr, h, h2]
theorem seg_end {m a b : Nat} (hb : b ≤ 64) (hm : m ≤ 64) (hl : b - a ≤ m) (hab : b ≤ a) : take ⟨m, 1000, 1000, seg a b⟩ 100 = (⟨m, 1000, 1000, []⟩, ⟨0, 0, 0⟩, [], 4) := by
  have hr := (seg_at (m := m) (a := a) (b := b) (t := 100) hb hm hl (by omega) (by omega) (by omega)).rdy
  have h := seg_left (m := m) (a := a) (b := b) hb
  have h2 := seg_shut (m := m) (a := a) (b := b) hb
  rw [seg_nil hab] at h h2 hr ⊢
  simp [take, hr, h, h2]
end Go.Proofs.Ytjbpkibhkaagjaa
