/- Contracts: Due, Next, the references; comparing lists. No condition. -/
import Derived.Test.YticgikpccbgjbaaK3
namespace Go.Proofs.Yticgikpccbgjbaa
open Go.RowKit

def dueTo (s : Hs) : Nat → List Int
  | 0 => []
  | k + 1 => dueTo s k ++ (if dueB s (s.bs.getD k default) then [(k : Int)] else [])
def due (s : Hs) : List Int × Int := if chk s ≠ 0 then ([], chk s) else (dueTo s s.bs.length, 0)
theorem dueTo_succ {s : Hs} {k : Nat} {b : Bk} (h : s.bs[k]? = some b) : dueTo s (k + 1) = dueTo s k ++ (if dueB s b then [(k : Int)] else []) := by rw [dueTo, getD_some h]
theorem dueTo_len (s : Hs) : ∀ k, (dueTo s k).length ≤ k
  | 0 => Nat.le_refl _
  | k + 1 => by
    have := dueTo_len s k
    rw [dueTo, List.length_append]
    split <;> simp <;> omega
theorem chk_fine {s : Hs} (h : chk s = 0) : Fine s := by
  unfold chk at h
  split at h
  · cases h
  · rename_i h1
    split at h
    · cases h
    · rename_i h2
      simp at h1 h2
      obtain ⟨⟨a, b⟩, c⟩ := form_iff.1 h2
      exact ⟨h1, a, b, c⟩
theorem chk_okTo {s : Hs} (h : chk s = 0) : okTo s s.bs.length = true := by
  unfold chk at h
  split at h
  · cases h
  · split at h
    · cases h
    · split at h
      · assumption
      · cases h
theorem chk_at {s : Hs} (h : chk s = 0) {k : Nat} {b : Bk} (hb : s.bs[k]? = some b) : okAt s k b = true := okTo_at (chk_okTo h) (lt_some hb) hb
set_option maxHeartbeats 1000000 in
theorem due_m (s : Hs) (hl : s.bs.length < 4294967296) : Meets Try.prog 24 [s.pv] [] (Ret (.tup [.d (nl (due s).1), .i (due s).2])) := by
  refine meetsH [] tbOk mixed Try.func24 pl24 rfl rfl ?_
  simp [Try.ntmps24]
  refine (check_m s hl).mono ?_
  rintro _ rfl
  by_cases hc : chk s = 0
  case neg =>
    simp [hc]
    refine vcRet_of [] ?_ rfl
    simp [due, hc]
  simp [hc]
  refine vc_loop (fun n σ => ∃ k : Nat, n = s.bs.length - k ∧ k ≤ s.bs.length ∧ σ = ⟨30, [(16, .i k), (15, .i s.bs.length), (14, .d (bl s.bs)), (1, .ptr 1 0), (5, .rw 5 (dueTo s k).length)], [(1, .box 26 s.ps), (5, .row 3 1 ((dueTo s k).map nds) false)]⟩) ?_ ?_
  · exact ⟨_, _, ⟨0, rfl, Nat.zero_le _, rfl⟩, [.row 5 3 1], _, rfl, by simp [dueTo]⟩
  rintro n σ ⟨k, rfl, hk, rfl⟩
  by_cases hlt : k < s.bs.length
  · obtain ⟨b, hb, e⟩ := at_lt hlt
    have w := wrap_succ hlt hl
    have hdl := dueTo_len s k
    simp [hlt, e]
    refine (isDue_m s b).mono ?_
    rintro _ rfl
    cases hd : dueB s b
    · simp [w]
      refine ⟨_, ?_, _, ⟨k + 1, rfl, hlt, rfl⟩, [], _, rfl, by simp [dueTo_succ hb, hd]⟩
      omega
    · simp [w]
      refine ⟨by omega, _, ?_, _, ⟨k + 1, rfl, hlt, rfl⟩, [], _, rfl, by simp [dueTo_succ hb, hd]⟩
      omega
  · obtain rfl : k = s.bs.length := by omega
    simp
    refine vcRet_of [] ?_ rfl
    simp [due, hc]
    exact List.take_of_length_le (by simp)
set_option maxHeartbeats 1000000 in
theorem refDueL_m (s : Hs) (hl : s.bs.length < 4294967296) : Meets Try.prog 25 [s.pv] [] (Ret (.tup [.d (nl (due s).1), .i (due s).2])) := by
  refine meetsH [] tbOk mixed Try.func25 pl25 rfl rfl ?_
  simp [Try.ntmps25]
  refine (refCheck_m s hl).mono ?_
  rintro _ rfl
  by_cases hc : chk s = 0
  case neg =>
    simp [hc]
    refine vcRet_of [] ?_ rfl
    simp [due, hc]
  simp [hc]
  refine vc_loop (fun n σ => ∃ k : Nat, n = s.bs.length - k ∧ k ≤ s.bs.length ∧ σ = ⟨27, [(6, .i k), (1, .ptr 1 0), (5, .rw 5 (dueTo s k).length)], [(1, .box 26 s.ps), (5, .row 3 1 ((dueTo s k).map nds) false)]⟩) ?_ ?_
  · exact ⟨_, _, ⟨0, rfl, Nat.zero_le _, rfl⟩, [.row 5 3 1], _, rfl, by simp [dueTo]⟩
  rintro n σ ⟨k, rfl, hk, rfl⟩
  by_cases hlt : k < s.bs.length
  · obtain ⟨b, hb, e⟩ := at_lt hlt
    have w := wrap_succ hlt hl
    have hdl := dueTo_len s k
    simp [hlt, e]
    refine (refDue_m s k hb).mono ?_
    rintro _ rfl
    cases hd : dueB s b
    · simp [w]
      refine ⟨_, ?_, _, ⟨k + 1, rfl, hlt, rfl⟩, [], _, rfl, by simp [dueTo_succ hb, hd]⟩
      omega
    · simp [w]
      refine ⟨by omega, _, ?_, _, ⟨k + 1, rfl, hlt, rfl⟩, [], _, rfl, by simp [dueTo_succ hb, hd]⟩
      omega
  · obtain rfl : k = s.bs.length := by omega
    simp
    refine vcRet_of [] ?_ rfl
    simp [due, hc]
    exact List.take_of_length_le (by simp)

theorem okB_busy {s : Hs} {ps : List Int} {b : Bk} (h : okB s ps b = true) (h0 : b.probe ≠ 0) : (0 < b.probe ∧ b.probe ≤ 1000000000 ∧ b.probe ∉ ps) ∧ 0 ≤ b.began ∧ b.began ≤ s.now ∧ s.now < b.began + s.c.tm ∧ b.began < b.next ∧ b.next - b.began ≤ s.c.iv := by
  rw [okB, if_neg h0] at h
  simp only [Bool.and_eq_true, decide_eq_true_eq, Bool.not_eq_true', decide_eq_false_iff_not] at h
  obtain ⟨a, b, c, d, e, f, g, i⟩ := h
  exact ⟨⟨a, b, c⟩, d, e, f, g, i⟩
theorem chk_busy {s : Hs} (h : chk s = 0) {k : Nat} {b : Bk} (hb : s.bs[k]? = some b) (h0 : b.probe ≠ 0) : 0 ≤ b.began ∧ b.began ≤ s.now ∧ s.now < b.began + s.c.tm ∧ b.began < b.next ∧ b.next - b.began ≤ s.c.iv := by
  have := chk_at h hb
  rw [okAt, Bool.and_eq_true] at this
  exact (okB_busy this.2 h0).2
theorem chk_idle {s : Hs} (h : chk s = 0) {k : Nat} {b : Bk} (hb : s.bs[k]? = some b) (h0 : b.probe = 0) : b.began = 0 := by
  have := chk_at h hb
  rw [okAt, Bool.and_eq_true] at this
  have := this.2
  rw [okB, if_pos h0] at this
  simpa using this
theorem chk_num {s : Hs} (h : chk s = 0) {k : Nat} {b : Bk} (hb : s.bs[k]? = some b) : 0 ≤ b.run ∧ b.run < lim s.c b.up ∧ fst s.c k ≤ b.next ∧ b.next ≤ s.now + s.c.iv ∧ (b.next - fst s.c k) % s.c.iv = 0 := by
  have := chk_at h hb
  rw [okAt, Bool.and_eq_true] at this
  exact okA_iff.1 this.1
theorem dead_wrap {s : Hs} (h : chk s = 0) {k : Nat} {b : Bk} (hb : s.bs[k]? = some b) (h0 : b.probe ≠ 0) : IntKind.i64.wrap (b.began + s.c.tm) = b.began + s.c.tm := by
  have h1 := chk_busy h hb h0
  have hf := chk_fine h
  have := hf.n1
  have := hf.tm
  have := hf.iv
  exact small_wrap (by omega)
/-- The time that a backend waits for. -/
def tOf (s : Hs) (b : Bk) : Int := if b.probe = 0 then b.next else b.began + s.c.tm
def leastTo (s : Hs) : Nat → Int
  | 0 => 1000000000001
  | k + 1 => if s.now < tOf s (s.bs.getD k default) then min (leastTo s k) (tOf s (s.bs.getD k default)) else leastTo s k
theorem leastTo_succ {s : Hs} {k : Nat} {b : Bk} (h : s.bs[k]? = some b) : leastTo s (k + 1) = if s.now < tOf s b then min (leastTo s k) (tOf s b) else leastTo s k := by rw [leastTo, getD_some h]
def next (s : Hs) : Int × Int := if chk s ≠ 0 then (0, chk s) else if 1000000000000 < leastTo s s.bs.length then (0, 4) else (leastTo s s.bs.length, 0)
set_option maxRecDepth 20000 in
set_option maxHeartbeats 2000000 in
theorem next_m (s : Hs) (hl : s.bs.length < 4294967296) : Meets Try.prog 28 [s.pv] [] (Ret (.tup [.i (next s).1, .i (next s).2])) := by
  refine meetsH [] tbOk mixed Try.func28 pl28 rfl rfl ?_
  simp [Try.ntmps28]
  refine (check_m s hl).mono ?_
  rintro _ rfl
  by_cases hc : chk s = 0
  case neg =>
    simp [hc]
    refine vcRet_of [] ?_ rfl
    simp [next, hc]
  simp [hc]
  refine vc_loop (fun n σ => ∃ k : Nat, n = s.bs.length - k ∧ k ≤ s.bs.length ∧ σ = ⟨40, [(17, .i k), (16, .i s.bs.length), (15, .d (bl s.bs)), (1, .ptr 1 0), (5, .i (leastTo s k))], [(1, .box 26 s.ps)]⟩) ?_ ?_
  · exact ⟨_, _, ⟨0, rfl, Nat.zero_le _, rfl⟩, [], _, rfl, by simp [leastTo]⟩
  rintro n σ ⟨k, rfl, hk, rfl⟩
  by_cases hlt : k < s.bs.length
  · obtain ⟨b, hb, e⟩ := at_lt hlt
    have w := wrap_succ hlt hl
    by_cases p0 : b.probe = 0
    · have ht : tOf s b = b.next := by simp [tOf, p0]
      by_cases hn : s.now < b.next
      · simp [hlt, e, p0, hn, w]
        refine ⟨_, ?_, _, ⟨k + 1, rfl, hlt, rfl⟩, [], _, rfl, by simp [leastTo_succ hb, ht, hn]⟩
        omega
      · simp [hlt, e, p0, hn, w]
        refine ⟨_, ?_, _, ⟨k + 1, rfl, hlt, rfl⟩, [], _, rfl, by simp [leastTo_succ hb, ht, hn]⟩
        omega
    · have ht : tOf s b = b.began + s.c.tm := by simp [tOf, p0]
      have w2 := dead_wrap hc hb p0
      simp [hlt, e, p0]
      refine (deadline_m s b).mono ?_
      rintro _ rfl
      rw [w2]
      by_cases hn : s.now < b.began + s.c.tm
      · simp [hn, w]
        refine ⟨_, ?_, _, ⟨k + 1, rfl, hlt, rfl⟩, [], _, rfl, by simp [leastTo_succ hb, ht, hn]⟩
        omega
      · simp [hn, w]
        refine ⟨_, ?_, _, ⟨k + 1, rfl, hlt, rfl⟩, [], _, rfl, by simp [leastTo_succ hb, ht, hn]⟩
        omega
  · obtain rfl : k = s.bs.length := by omega
    by_cases h9 : 1000000000000 < leastTo s s.bs.length
    · simp [h9]
      refine vcRet_of [] ?_ rfl
      simp [next, hc, h9]
    · simp [h9]
      refine vcRet_of [] ?_ rfl
      simp [next, hc, h9]
set_option maxRecDepth 20000 in
set_option maxHeartbeats 2000000 in
theorem refNext_m (s : Hs) (hl : s.bs.length < 4294967296) : Meets Try.prog 29 [s.pv] [] (Ret (.tup [.i (next s).1, .i (next s).2])) := by
  refine meetsH [] tbOk mixed Try.func29 pl29 rfl rfl ?_
  simp [Try.ntmps29]
  refine (refCheck_m s hl).mono ?_
  rintro _ rfl
  by_cases hc : chk s = 0
  case neg =>
    simp [hc]
    refine vcRet_of [] ?_ rfl
    simp [next, hc]
  have hn0 := (chk_fine hc).n0
  simp [hc]
  refine vc_loop (fun n σ => ∃ (k : Nat) (m : Int), n = s.bs.length - k ∧ k ≤ s.bs.length ∧ ((m = -1 ∧ leastTo s k = 1000000000001) ∨ (0 ≤ m ∧ leastTo s k = min 1000000000001 m)) ∧ σ = ⟨58, [(6, .i k), (1, .ptr 1 0), (5, .i m)], [(1, .box 26 s.ps)]⟩) ?_ ?_
  · exact ⟨_, _, ⟨0, -1, rfl, Nat.zero_le _, .inl ⟨rfl, rfl⟩, rfl⟩, [], _, rfl, by simp⟩
  rintro n σ ⟨k, m, rfl, hk, hm, rfl⟩
  by_cases hlt : k < s.bs.length
  · obtain ⟨b, hb, e⟩ := at_lt hlt
    have w := wrap_succ hlt hl
    have hls := leastTo_succ hb
    by_cases p0 : b.probe = 0
    · have ht : tOf s b = b.next := by simp [tOf, p0]
      rw [ht] at hls
      by_cases hn : s.now < b.next
      · rw [if_pos hn] at hls
        by_cases hm0 : m < 0
        · simp [hlt, e, p0, hn, w, hm0]
          refine ⟨_, ?_, _, ⟨k + 1, rfl, hlt, b.next, .inr ⟨?_, ?_⟩, rfl⟩, [], _, rfl, by simp⟩ <;> omega
        · by_cases hm1 : b.next < m
          · simp [hlt, e, p0, hn, w, hm0, hm1]
            refine ⟨_, ?_, _, ⟨k + 1, rfl, hlt, b.next, .inr ⟨?_, ?_⟩, rfl⟩, [], _, rfl, by simp⟩ <;> omega
          · simp [hlt, e, p0, hn, w, hm0, hm1]
            refine ⟨_, ?_, _, ⟨k + 1, rfl, hlt, m, .inr ⟨?_, ?_⟩, rfl⟩, [], _, rfl, by simp⟩ <;> omega
      · rw [if_neg hn] at hls
        simp [hlt, e, p0, hn, w]
        refine ⟨_, ?_, _, ⟨k + 1, rfl, hlt, m, by rw [hls]; exact hm, rfl⟩, [], _, rfl, by simp⟩
        omega
    · have ht : tOf s b = b.began + s.c.tm := by simp [tOf, p0]
      have w2 := dead_wrap hc hb p0
      rw [ht] at hls
      by_cases hn : s.now < b.began + s.c.tm
      · rw [if_pos hn] at hls
        by_cases hm0 : m < 0
        · simp [hlt, e, p0, w2, hn, w, hm0]
          refine ⟨_, ?_, _, ⟨k + 1, rfl, hlt, b.began + s.c.tm, .inr ⟨?_, ?_⟩, rfl⟩, [], _, rfl, by simp⟩ <;> omega
        · by_cases hm1 : b.began + s.c.tm < m
          · simp [hlt, e, p0, w2, hn, w, hm0, hm1]
            refine ⟨_, ?_, _, ⟨k + 1, rfl, hlt, b.began + s.c.tm, .inr ⟨?_, ?_⟩, rfl⟩, [], _, rfl, by simp⟩ <;> omega
          · simp [hlt, e, p0, w2, hn, w, hm0, hm1]
            refine ⟨_, ?_, _, ⟨k + 1, rfl, hlt, m, .inr ⟨?_, ?_⟩, rfl⟩, [], _, rfl, by simp⟩ <;> omega
      · rw [if_neg hn] at hls
        simp [hlt, e, p0, w2, hn, w]
        refine ⟨_, ?_, _, ⟨k + 1, rfl, hlt, m, by rw [hls]; exact hm, rfl⟩, [], _, rfl, by simp⟩
        omega
  · obtain rfl : k = s.bs.length := by omega
    by_cases hm0 : m < 0
    · simp [hm0]
      refine vcRet_of [] ?_ rfl
      have : 1000000000000 < leastTo s s.bs.length := by omega
      simp [next, hc, this]
    · by_cases hm1 : 1000000000000 < m
      · simp [hm0, hm1]
        refine vcRet_of [] ?_ rfl
        have : 1000000000000 < leastTo s s.bs.length := by omega
        simp [next, hc, this]
      · simp [hm0, hm1]
        refine vcRet_of [] ?_ rfl
        have h1 : ¬ 1000000000000 < leastTo s s.bs.length := by omega
        have h2 : leastTo s s.bs.length = m := by omega
        simp [next, hc, h2, hm1]
@[simp] def bds (b : Bool) : List D := [.v (.bool b)]
@[simp] def bol (l : List Bool) : D := .sl 1 (l.map bds)
theorem ints_m (xs ys : List Int) (hl : xs.length < 4294967296) : Meets Try.prog 30 [.d (nl xs), .d (nl ys)] [] (Ret (.b (decide (xs = ys)))) := by
  refine meetsH [] tbOk mixed Try.func30 pl30 rfl rfl ?_
  by_cases hlen : xs.length = ys.length
  case neg =>
    have hl2 : ¬ ((xs.length : Int) = ys.length) := by omega
    simp [Try.ntmps30, hl2]
    refine vcRet_of [] ?_ rfl
    have : xs ≠ ys := fun e => hlen (by rw [e])
    simp [this]
  simp [Try.ntmps30, ← hlen]
  refine vc_loop (fun m σ => ∃ k : Nat, m = xs.length - k ∧ k ≤ xs.length ∧ xs.take k = ys.take k ∧ σ = ⟨26, [(5, .i k), (0, .d (nl xs)), (1, .d (nl ys))], []⟩) ?_ ?_
  · exact ⟨_, _, ⟨0, rfl, Nat.zero_le _, rfl, rfl⟩, [], _, rfl, by simp⟩
  · rintro m σ ⟨k, rfl, hk, hn, rfl⟩
    by_cases hlt : k < xs.length
    · obtain ⟨x, hx, e⟩ := at_lt hlt
      obtain ⟨y, hy, e'⟩ := at_lt (show k < ys.length by omega)
      have hlt' : k < ys.length := by omega
      simp [hlt, hlt', e, e', wrap_succ hlt hl]
      refine ⟨by kernel_rfl, fun h => vcRet_of [] ?_ rfl, fun h => ⟨_, ?_, _, ⟨k + 1, rfl, hlt, ?_, rfl⟩, [], _, rfl, by simp⟩⟩
      · have : xs ≠ ys := fun e2 => by
          subst e2
          rw [hx] at hy
          cases hy
          exact h rfl
        simp [this]
      · omega
      · rw [List.take_add_one, List.take_add_one, hn, hx, hy, h]
    · obtain rfl : k = xs.length := by omega
      simp
      refine vcRet_of [] ?_ rfl
      have : xs = ys := by rw [List.take_length, hlen, List.take_length] at hn; exact hn
      simp [this]
theorem bools_m (xs ys : List Bool) (hl : xs.length < 4294967296) : Meets Try.prog 31 [.d (bol xs), .d (bol ys)] [] (Ret (.b (decide (xs = ys)))) := by
  refine meetsH [] tbOk mixed Try.func31 pl31 rfl rfl ?_
  by_cases hlen : xs.length = ys.length
  case neg =>
    have hl2 : ¬ ((xs.length : Int) = ys.length) := by omega
    simp [Try.ntmps31, hl2]
    refine vcRet_of [] ?_ rfl
    have : xs ≠ ys := fun e => hlen (by rw [e])
    simp [this]
  simp [Try.ntmps31, ← hlen]
  refine vc_loop (fun m σ => ∃ k : Nat, m = xs.length - k ∧ k ≤ xs.length ∧ xs.take k = ys.take k ∧ σ = ⟨26, [(5, .i k), (0, .d (bol xs)), (1, .d (bol ys))], []⟩) ?_ ?_
  · exact ⟨_, _, ⟨0, rfl, Nat.zero_le _, rfl, rfl⟩, [], _, rfl, by simp⟩
  · rintro m σ ⟨k, rfl, hk, hn, rfl⟩
    by_cases hlt : k < xs.length
    · obtain ⟨x, hx, e⟩ := at_lt hlt
      obtain ⟨y, hy, e'⟩ := at_lt (show k < ys.length by omega)
      have hlt' : k < ys.length := by omega
      simp [hlt, hlt', e, e', wrap_succ hlt hl]
      refine ⟨by kernel_rfl, fun h => vcRet_of [] ?_ rfl, fun h => ⟨_, ?_, _, ⟨k + 1, rfl, hlt, ?_, rfl⟩, [], _, rfl, by simp⟩⟩
      · have : xs ≠ ys := fun e2 => by
          subst e2
          rw [hx] at hy
          cases hy
          exact h rfl
        simp [this]
      · omega
      · rw [List.take_add_one, List.take_add_one, hn, hx, hy, h]
    · obtain rfl : k = xs.length := by omega
      simp
      refine vcRet_of [] ?_ rfl
      have : xs = ys := by rw [List.take_length, hlen, List.take_length] at hn; exact hn
      simp [this]
set_option maxHeartbeats 1000000 in
theorem sameCh_m (xs ys : List Ch) (hl : xs.length < 4294967296) : Meets Try.prog 18 [.d (chl xs), .d (chl ys)] [] (Ret (.b (decide (xs = ys)))) := by
  refine meetsH [] tbOk mixed Try.func18 pl18 rfl rfl ?_
  by_cases hlen : xs.length = ys.length
  case neg =>
    have hl2 : ¬ ((xs.length : Int) = ys.length) := by omega
    simp [Try.ntmps18, hl2]
    refine vcRet_of [] ?_ rfl
    have : xs ≠ ys := fun e => hlen (by rw [e])
    simp [this]
  simp [Try.ntmps18, ← hlen]
  refine vc_loop (fun m σ => ∃ k : Nat, m = xs.length - k ∧ k ≤ xs.length ∧ xs.take k = ys.take k ∧ σ = ⟨26, [(5, .i k), (0, .d (chl xs)), (1, .d (chl ys))], []⟩) ?_ ?_
  · exact ⟨_, _, ⟨0, rfl, Nat.zero_le _, rfl, rfl⟩, [], _, rfl, by simp⟩
  · rintro m σ ⟨k, rfl, hk, hn, rfl⟩
    by_cases hlt : k < xs.length
    · obtain ⟨x, hx, e⟩ := at_lt hlt
      obtain ⟨y, hy, e'⟩ := at_lt (show k < ys.length by omega)
      have hlt' : k < ys.length := by omega
      simp [hlt, hlt', e, e', wrap_succ hlt hl]
      refine ⟨by kernel_rfl, fun h => vcRet_of [] ?_ rfl, fun h1 h2 h3 => ⟨_, ?_, _, ⟨k + 1, rfl, hlt, ?_, rfl⟩, [], _, rfl, by simp⟩⟩
      · have : xs ≠ ys := fun e2 => by
          subst e2
          rw [hx] at hy
          cases hy
          simp at h
        simp [this]
      · omega
      · rw [List.take_add_one, List.take_add_one, hn, hx, hy]
        obtain ⟨a, b, c⟩ := x
        obtain ⟨a', b', c'⟩ := y
        simp at h1 h2 h3
        rw [h1, h2, h3]
    · obtain rfl : k = xs.length := by omega
      simp
      refine vcRet_of [] ?_ rfl
      have : xs = ys := by rw [List.take_length, hlen, List.take_length] at hn; exact hn
      simp [this]
end Go.Proofs.Yticgikpccbgjbaa
