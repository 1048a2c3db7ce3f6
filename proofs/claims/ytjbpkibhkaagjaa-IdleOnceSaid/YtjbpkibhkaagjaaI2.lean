/- Contracts: ready; the reference's between, numbers, find, Same, SameNumbers, Check, at. No condition. -/
import Derived.Test.YtjbpkibhkaagjaaI1
namespace Go.Proofs.Ytjbpkibhkaagjaa
open Go.RowKit

theorem ready_m (s : St) (now : Int) (hl : s.cs.length < 4294967296) : Meets Try.prog 31 [.ptr 1000000 0, .i now] [s.box] (fun r => r = ⟨.i (rdy s now), [s.box], []⟩) := by
  refine meets tbOk mixed Try.func31 pl31 rfl rfl ?_
  simp [Try.ntmps31]
  refine (check_m s hl).mono ?_
  rintro _ rfl
  by_cases hc : chk s = 0
  case neg =>
    simp [hc]
    refine vcRet_of [] ?_ rfl
    simp [rdy, hc]
  by_cases h1 : now < 0
  · simp [hc, h1]
    refine vcRet_of [] ?_ rfl
    simp [rdy, hc, badTime, h1]
  by_cases h2 : 1000000000000 < now
  · simp [hc, h1, h2]
    refine vcRet_of [] ?_ rfl
    simp [rdy, hc, badTime, h1, h2]
  by_cases h0 : 0 < s.cs.length
  · obtain ⟨y, hy, ey⟩ := at_lt (show s.cs.length - 1 < s.cs.length by omega)
    have hw : IntKind.i64.wrap ((s.cs.length : Int) - 1) = ((s.cs.length - 1 : Nat) : Int) := by rw [IntWalk.i64_in _ (by omega)]; omega
    have hk : s.cs.length - 1 < s.cs.length := by omega
    simp [hc, h1, h2, h0, hw, hk]
    rw [ey]
    refine ⟨fun h => vcRet_of [] ?_ rfl, fun h => vcRet_of [] ?_ rfl⟩
    · simp [rdy_bad (now := now) hc hy (.inr (.inr h))]
    · simp [rdy_ok (now := now) hc h0 hy (by omega)]
  · simp [hc, h1, h2, h0]
    refine vcRet_of [] ?_ rfl
    simp [rdy, hc, badTime, h1, h2, h0]
theorem between_m (a b c : Int) : Meets Try.prog 29 [.i a, .i b, .i c] [] (Ret (.b (inB a b c))) := by
  refine meets tbOk mixed Try.func29 pl29 rfl rfl ?_
  simp [Try.ntmps29]
  refine ⟨fun h => vcRet_of [] ?_ rfl, fun h => vcRet_of [] ?_ rfl⟩
  · simp [inB, h]
  · simp [inB]; omega
theorem refNumbers_m (m i a : Int) : Meets Try.prog 28 [.i m, .i i, .i a] [] (Ret (.b (nums m i a))) := by
  refine meetsH [] tbOk mixed Try.func28 pl28 rfl rfl ?_
  simp [Try.ntmps28]
  refine (between_m m 0 64).mono ?_
  rintro _ rfl
  cases h1 : inB m 0 64
  · simp
    refine vcRet_of [] ?_ rfl
    simp [nums, h1]
  simp
  refine (between_m i 1 1000000000000).mono ?_
  rintro _ rfl
  cases h2 : inB i 1 1000000000000
  · simp
    refine vcRet_of [] ?_ rfl
    simp [nums, h1, h2]
  simp
  refine (between_m a 1 1000000000000).mono ?_
  rintro _ rfl
  simp
  refine vcRet_of [] ?_ rfl
  simp [nums, h1, h2]
theorem refFind_m (s : St) (n : Int) (hl : s.cs.length < 4294967296) : Meets Try.prog 55 [s.pv, .i n] [] (Ret (.i (place s.cs n))) := by
  refine meets tbOk mixed Try.func55 pl55 rfl rfl ?_
  simp [Try.ntmps55]
  refine vc_loop (fun m σ => ∃ k : Nat, m = s.cs.length - k ∧ k ≤ s.cs.length ∧ noneTo (fun x : Cn => x.conn == n) s.cs k ∧ σ = ⟨22, [(5, .i k), (2, .ptr 2 0), (1, .i n)], [(2, .box 24 s.cells)]⟩) ?_ ?_
  · exact ⟨_, _, ⟨0, rfl, Nat.zero_le _, noneTo_zero _ _, rfl⟩, [], _, rfl, by simp⟩
  · rintro m σ ⟨k, rfl, hk, hn, rfl⟩
    by_cases hlt : k < s.cs.length
    · obtain ⟨x, hx, e⟩ := at_lt hlt
      simp [hlt, e, hx, wrap_succ hlt hl]
      refine ⟨fun h => vcRet_of [] ?_ rfl, fun h => ⟨_, ?_, _, ⟨k + 1, rfl, hlt, noneTo_succ hn hx (by simp [h]), rfl⟩, [], _, rfl, by simp⟩⟩
      · simp [place, idx_hit (fun x : Cn => x.conn == n) s.cs k x hx (by simp [h]) hn]
      · omega
    · obtain rfl : k = s.cs.length := by omega
      simp
      refine vcRet_of [] ?_ rfl
      simp [place, idx_miss (fun x : Cn => x.conn == n) s.cs hn]
theorem sameNumbers_m (xs ys : List Int) (hl : xs.length < 4294967296) : Meets Try.prog 20 [.d (nl xs), .d (nl ys)] [] (Ret (.b (decide (xs = ys)))) := by
  refine meetsH [] tbOk mixed Try.func20 pl20 rfl rfl ?_
  by_cases hlen : xs.length = ys.length
  case neg =>
    have hl2 : ¬ ((xs.length : Int) = ys.length) := by omega
    simp [Try.ntmps20, hl2]
    refine vcRet_of [] ?_ rfl
    have : xs ≠ ys := fun e => hlen (by rw [e])
    simp [this]
  simp [Try.ntmps20, ← hlen]
  refine vc_loop (fun m σ => ∃ k : Nat, m = xs.length - k ∧ k ≤ xs.length ∧ xs.take k = ys.take k ∧ σ = ⟨26, [(5, .i k), (0, .d (nl xs)), (1, .d (nl ys))], []⟩) ?_ ?_
  · exact ⟨_, _, ⟨0, rfl, Nat.zero_le _, rfl, rfl⟩, [], _, rfl, by simp⟩
  · rintro m σ ⟨k, rfl, hk, hn, rfl⟩
    by_cases hlt : k < xs.length
    · obtain ⟨x, hx, e⟩ := at_lt hlt
      obtain ⟨y, hy, e'⟩ := at_lt (show k < ys.length by omega)
      have hlt' : k < ys.length := by omega
      simp [hlt, hlt', e, e', wrap_succ hlt hl]
      refine ⟨by kernel_rfl, fun h => vcRet_of [] ?_ rfl, fun h => ⟨_, ?_, _, ⟨k + 1, rfl, hlt, ?_, rfl⟩, [], _, rfl, by simp⟩⟩
      · have : xs ≠ ys := fun e2 => by
          subst e2
          rw [hx] at hy
          cases hy
          exact h rfl
        simp [this]
      · omega
      · rw [List.take_add_one, List.take_add_one, hn, hx, hy, h]
    · obtain rfl : k = xs.length := by omega
      simp
      refine vcRet_of [] ?_ rfl
      have : xs = ys := by rw [List.take_length, hlen, List.take_length] at hn; exact hn
      simp [this]
set_option maxHeartbeats 1000000 in
theorem same_m (s t : St) (hl : s.cs.length < 4294967296) : Meets Try.prog 13 [s.pv, t.pv] [] (Ret (.b (decide (s = t)))) := by
  refine meetsH [] tbOk mixed Try.func13 pl13 rfl rfl ?_
  obtain ⟨a, b, c, xs⟩ := s
  obtain ⟨a', b', c', ys⟩ := t
  dsimp only at hl
  by_cases h1 : a = a'
  case neg =>
    simp [Try.ntmps13, h1]
    refine vcRet_of [] ?_ rfl
    simp [h1]
  by_cases h2 : b = b'
  case neg =>
    simp [Try.ntmps13, h1, h2]
    refine vcRet_of [] ?_ rfl
    simp [h2]
  by_cases h3 : c = c'
  case neg =>
    simp [Try.ntmps13, h1, h2, h3]
    refine vcRet_of [] ?_ rfl
    simp [h3]
  by_cases hlen : xs.length = ys.length
  case neg =>
    have hl2 : ¬ ((xs.length : Int) = ys.length) := by omega
    simp [Try.ntmps13, h1, h2, h3, hl2]
    refine vcRet_of [] ?_ rfl
    have : xs ≠ ys := fun e => hlen (by rw [e])
    simp [this]
  subst h1 h2 h3
  simp [Try.ntmps13, ← hlen]
  refine vc_loop (fun m σ => ∃ k : Nat, m = xs.length - k ∧ k ≤ xs.length ∧ xs.take k = ys.take k ∧ σ = ⟨52, [(5, .i k), (2, .ptr 2 0), (3, .ptr 3 0)], [(2, .box 24 [.i a, .i b, .i c, .d (cl xs)]), (3, .box 24 [.i a, .i b, .i c, .d (cl ys)])]⟩) ?_ ?_
  · exact ⟨_, _, ⟨0, rfl, Nat.zero_le _, rfl, rfl⟩, [], _, rfl, by simp⟩
  · rintro m σ ⟨k, rfl, hk, hn, rfl⟩
    by_cases hlt : k < xs.length
    · obtain ⟨x, hx, e⟩ := at_lt hlt
      obtain ⟨y, hy, e'⟩ := at_lt (show k < ys.length by omega)
      have hlt' : k < ys.length := by omega
      simp [hlt, hlt', e, e', wrap_succ hlt hl]
      refine ⟨by kernel_rfl, fun h => vcRet_of [] ?_ rfl, fun h1 h2 h3 => ⟨_, ?_, _, ⟨k + 1, rfl, hlt, ?_, rfl⟩, [], _, rfl, by simp⟩⟩
      · have : xs ≠ ys := fun e2 => by
          subst e2
          rw [hx] at hy
          cases hy
          simp at h
        simp [this]
      · omega
      · rw [List.take_add_one, List.take_add_one, hn, hx, hy]
        obtain ⟨a, b, c⟩ := x
        obtain ⟨a', b', c'⟩ := y
        simp at h1 h2 h3
        rw [h1, h2, h3]
    · obtain rfl : k = xs.length := by omega
      simp
      refine vcRet_of [] ?_ rfl
      have : xs = ys := by rw [List.take_length, hlen, List.take_length] at hn; exact hn
      simp [this]
theorem any_none {xs : List Cn} (h : noneTo oddC xs xs.length) : xs.any oddC = false := by
  rw [List.any_eq_false]
  intro x hx
  obtain ⟨i, hi⟩ := List.mem_iff_getElem?.1 hx
  simp [h i x (lt_some hi) hi]
theorem any_at {xs : List Cn} {k : Nat} {x : Cn} (hx : xs[k]? = some x) (h : oddC x = true) : xs.any oddC = true := List.any_eq_true.2 ⟨x, List.mem_of_getElem? hx, h⟩
theorem take_at {cs : List Cn} {k j : Nat} {y : Cn} (hj : j < k) (hy : cs[j]? = some y) : (cs.take k)[j]? = some y := by rw [List.getElem?_take, if_pos hj, hy]
theorem dup_hit {cs : List Cn} {k j : Nat} {x y : Cn} (hx : cs[k]? = some x) (hj : j < k) (hy : cs[j]? = some y) (h : x.conn = y.conn) (hn : noneTo (fun y : Cn => y.conn == x.conn) cs j) : dupTo cs (k + 1) = true := by
  have h2 : place (cs.take k) x.conn = j := by
    unfold place
    refine idx_hit _ _ j y (take_at hj hy) (by simp [h]) fun i z hi hz => hn i z hi ?_
    rw [take_at (cs := cs) (y := cs[i]'(by have := lt_some hy; omega)) (by omega) (List.getElem?_eq_getElem _)] at hz
    rw [← hz]
    exact List.getElem?_eq_getElem _
  rw [dupTo_succ hx, h2]
  simp
theorem dup_miss {cs : List Cn} {k : Nat} {x : Cn} (hx : cs[k]? = some x) (hd : dupTo cs k = false) (hn : noneTo (fun y : Cn => y.conn == x.conn) cs k) : dupTo cs (k + 1) = false := by
  have h2 : place (cs.take k) x.conn = -1 := by
    unfold place
    refine idx_miss _ _ fun i z hi hz => ?_
    rw [List.length_take] at hi
    rw [List.getElem?_take, if_pos (by omega)] at hz
    exact hn i z (by omega) hz
  rw [dupTo_succ hx, h2, hd]
  simp
theorem sortTo_mono {cs : List Cn} {k : Nat} : ∀ {n : Nat}, k ≤ n → sortTo cs k = false → sortTo cs n = false
  | 0, h, hd => by obtain rfl : k = 0 := by omega
                   exact hd
  | n + 1, h, hd => by
    by_cases hk : k = n + 1
    · subst hk; exact hd
    · rw [sortTo, sortTo_mono (n := n) (by omega) hd]; rfl
theorem oddC_in (x : Cn) : oddC x = !(inB x.conn 1 1000000000000000 && (inB x.since 0 1000000000000 && inB x.born 0 x.since)) := rfl
set_option maxHeartbeats 1600000 in
theorem refCheck_m (s : St) (hl : s.cs.length < 4294967296) : Meets Try.prog 10 [s.pv] [] (Ret (.i (chk s))) := by
  refine meets tbOk mixed Try.func10 pl10 rfl rfl ?_
  simp [Try.ntmps10]
  refine (refNumbers_m s.most s.idle s.age).mono ?_
  rintro _ rfl
  cases hr : nums s.most s.idle s.age
  · simp
    refine vcRet_of [] ?_ rfl
    simp [chk, hr]
  simp
  refine vc_loop (fun m σ => ∃ k : Nat, m = s.cs.length - k ∧ k ≤ s.cs.length ∧ noneTo oddC s.cs k ∧ σ = ⟨98, [(3, .i k), (1, .ptr 1 0)], [(1, .box 24 s.cells)]⟩) ?_ ?_
  · exact ⟨_, _, ⟨0, rfl, Nat.zero_le _, noneTo_zero _ _, rfl⟩, [], _, rfl, by simp⟩
  rintro m σ ⟨k, rfl, hk, hn, rfl⟩
  by_cases hlt : k < s.cs.length
  · obtain ⟨x, hx, e⟩ := at_lt hlt
    simp [hlt, e]
    refine (between_m x.conn 1 1000000000000000).mono ?_
    rintro _ rfl
    cases h1 : inB x.conn 1 1000000000000000
    · simp
      refine vcRet_of [] ?_ rfl
      simp [chk, hr, any_at hx (by rw [oddC_in]; simp [h1])]
    simp
    refine (between_m x.since 0 1000000000000).mono ?_
    rintro _ rfl
    cases h2 : inB x.since 0 1000000000000
    · simp
      refine vcRet_of [] ?_ rfl
      simp [chk, hr, any_at hx (by rw [oddC_in]; simp [h2])]
    simp
    refine (between_m x.born 0 x.since).mono ?_
    rintro _ rfl
    cases h3 : inB x.born 0 x.since
    · simp
      refine vcRet_of [] ?_ rfl
      simp [chk, hr, any_at hx (by rw [oddC_in]; simp [h3])]
    simp [wrap_succ hlt hl]
    refine ⟨_, ?_, _, ⟨k + 1, rfl, hlt, noneTo_succ hn hx (by rw [oddC_in]; simp [h1, h2, h3]), rfl⟩, [], _, rfl, by simp⟩
    omega
  obtain rfl : k = s.cs.length := by omega
  have ho := any_none hn
  by_cases hm : s.most < (s.cs.length : Int)
  · simp [hm]
    refine vcRet_of [] ?_ rfl
    simp [chk, hr, ho, hm]
  simp [hm]
  refine vc_loop (fun m σ => ∃ k : Nat, m = s.cs.length - k ∧ k ≤ s.cs.length ∧ dupTo s.cs k = false ∧ σ = ⟨98, [(5, .i k), (1, .ptr 1 0)], [(1, .box 24 s.cells)]⟩) ?_ ?_
  · exact ⟨_, _, ⟨0, rfl, Nat.zero_le _, rfl, rfl⟩, [], _, rfl, by simp⟩
  rintro m σ ⟨k, rfl, hk, hd, rfl⟩
  by_cases hlt : k < s.cs.length
  · obtain ⟨x, hx, e⟩ := at_lt hlt
    simp [hlt, e]
    refine vc_loop (fun m σ => ∃ j : Nat, m = k - j ∧ j ≤ k ∧ noneTo (fun y : Cn => y.conn == x.conn) s.cs j ∧ σ = ⟨98, [(6, .i j), (5, .i k), (1, .ptr 1 0)], [(1, .box 24 s.cells)]⟩) ?_ ?_
    · exact ⟨_, _, ⟨0, rfl, Nat.zero_le _, noneTo_zero _ _, rfl⟩, [], _, rfl, by simp⟩
    rintro m σ ⟨j, rfl, hj, hn2, rfl⟩
    by_cases hjk : j < k
    · have hjl : j < s.cs.length := by omega
      obtain ⟨y, hy, e'⟩ := at_lt hjl
      simp [hjk, hlt, hjl, e, e', wrap_succ hjl hl]
      refine ⟨by kernel_rfl, fun h => vcRet_of [] ?_ rfl, fun h => ⟨_, ?_, _, ⟨j + 1, rfl, hjk, noneTo_succ hn2 hy ?_, rfl⟩, [], _, rfl, by simp⟩⟩
      · simp [chk, hr, ho, hm, dupTo_mono hlt (dup_hit hx hjk hy h hn2)]
      · omega
      · simp; exact fun e => h e.symm
    · obtain rfl : j = k := by omega
      simp [wrap_succ hlt hl]
      refine ⟨_, ?_, _, ⟨j + 1, rfl, hlt, ?_, rfl⟩, [], _, rfl, by simp⟩
      · omega
      · exact dup_miss hx hd hn2
  obtain rfl : k = s.cs.length := by omega
  simp
  refine vc_loop (fun m σ => ∃ k : Nat, m = s.cs.length - k ∧ 1 ≤ k ∧ k ≤ s.cs.length + 1 ∧ sortTo s.cs (min k s.cs.length) = true ∧ σ = ⟨98, [(7, .i k), (1, .ptr 1 0)], [(1, .box 24 s.cells)]⟩) ?_ ?_
  · refine ⟨_, _, ⟨1, rfl, Nat.le_refl _, by omega, ?_, rfl⟩, [], _, rfl, by simp⟩
    by_cases h0 : s.cs.length = 0
    · rw [h0]; rfl
    · rw [show min 1 s.cs.length = 1 by omega]; rfl
  rintro m σ ⟨k, rfl, hk1, hk, hs, rfl⟩
  by_cases hlt : k < s.cs.length
  · obtain ⟨x, hx, e⟩ := at_lt hlt
    have hk2 : k - 1 < s.cs.length := by omega
    obtain ⟨y, hy, ey⟩ := at_lt hk2
    have hw : IntKind.i64.wrap ((k : Int) - 1) = ((k - 1 : Nat) : Int) := by rw [IntWalk.i64_in _ (by omega)]; omega
    simp [hlt, e, hk2, hw, ey, wrap_succ hlt hl]
    have hs' : sortTo s.cs k = true := by rw [show min k s.cs.length = k by omega] at hs; exact hs
    have hst := sortTo_succ hx
    rw [hs', getD_some hy] at hst
    refine ⟨by kernel_rfl, fun h => vcRet_of [] ?_ rfl, fun h => ⟨_, ?_, _, ⟨k + 1, rfl, by omega, by omega, ?_, rfl⟩, [], _, rfl, by simp⟩⟩
    · have hf : sortTo s.cs (k + 1) = false := by rw [hst]; simp; omega
      simp [chk, hr, ho, hm, hd, sortTo_mono hlt hf]
    · omega
    · rw [show min (k + 1) s.cs.length = k + 1 by omega, hst]
      simp [h]
  · have hs' : sortTo s.cs s.cs.length = true := by rw [show min k s.cs.length = s.cs.length by omega] at hs; exact hs
    simp [hlt]
    refine vcRet_of [] ?_ rfl
    simp [chk, hr, ho, hm, hd, hs']
theorem at_m (s : St) (now : Int) (hl : s.cs.length < 4294967296) : Meets Try.prog 53 [s.pv, .i now] [] (Ret (.i (rdy s now))) := by
  refine meets tbOk mixed Try.func53 pl53 rfl rfl ?_
  simp [Try.ntmps53]
  refine (refCheck_m s hl).mono ?_
  rintro _ rfl
  by_cases hc : chk s = 0
  case neg =>
    simp [hc]
    refine vcRet_of [] ?_ rfl
    simp [rdy, hc]
  simp [hc]
  refine (between_m now 0 1000000000000).mono ?_
  rintro _ rfl
  cases h1 : inB now 0 1000000000000
  · simp
    refine vcRet_of [] ?_ rfl
    have : badTime s now = true := by simp [inB] at h1; simp [badTime]; omega
    simp [rdy, hc, this]
  have h1' : 0 ≤ now ∧ now ≤ 1000000000000 := by simpa [inB] using h1
  by_cases h0 : 0 < s.cs.length
  · have hk : s.cs.length - 1 < s.cs.length := by omega
    obtain ⟨y, hy, ey⟩ := at_lt hk
    have hw : IntKind.i64.wrap ((s.cs.length : Int) - 1) = ((s.cs.length - 1 : Nat) : Int) := by rw [IntWalk.i64_in _ (by omega)]; omega
    simp [h0, hw, hk]
    rw [ey]
    refine ⟨fun h => vcRet_of [] ?_ rfl, fun h => vcRet_of [] ?_ rfl⟩
    · simp [rdy_bad (now := now) hc hy (.inr (.inr h))]
    · simp [rdy_ok (now := now) hc h0 hy (by omega)]
  · simp [h0]
    refine vcRet_of [] ?_ rfl
    simp [rdy_ok0 (now := now) hc (by omega) (by omega)]
end Go.Proofs.Ytjbpkibhkaagjaa
