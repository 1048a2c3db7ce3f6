/- Contract: the statement RetryWindows. No condition. -/
import Derived.Test.YtakmipccgpgfgaaR13
namespace Go.Proofs.Ytakmipccgpgfgaa
open Go.RowKit

def sinceN (l : List Int) (t : Int) : Nat := (l.filter fun x => decide (t < x)).length
theorem since_left (l : List Int) (w t : Int) : sinceN l (t - w) = (left l w t).length := by
  unfold sinceN left
  congr 1
  apply List.filter_congr
  intro x _
  simp only [decide_eq_decide]
  omega
set_option maxHeartbeats 1000000 in
theorem since_m (l : List Int) (t : Int) (hl : l.length < 4294967296) : Meets Try.prog 23 [.d (il l), .i t] [] (Ret (.i (sinceN l t))) := by
  refine meetsH [] tbOk mixed Try.func23 pl23 rfl rfl ?_
  simp [Try.ntmps23]
  refine vc_loop (fun m σ => ∃ k : Nat, m = l.length - k ∧ k ≤ l.length ∧ σ = ⟨22, [(6, .i k), (5, .i (sinceN (l.take k) t)), (0, .d (il l)), (1, .i t)], []⟩) ?_ ?_
  · exact ⟨_, _, ⟨0, rfl, Nat.zero_le _, rfl⟩, [], _, rfl, by simp [sinceN]⟩
  rintro m σ ⟨k, rfl, hk, rfl⟩
  by_cases hlt : k < l.length
  · obtain ⟨x, hx, e⟩ := at_lt hlt
    have hc : sinceN (l.take k) t ≤ k := by
      have := List.length_filter_le (fun x => decide (t < x)) (l.take k)
      rw [List.length_take] at this
      unfold sinceN; omega
    have q1 : l.take (k + 1) = l.take k ++ [x] := by rw [List.take_add_one, hx]; rfl
    by_cases ht : t < x
    · have q2 : sinceN (l.take (k + 1)) t = sinceN (l.take k) t + 1 := by rw [q1]; simp [sinceN, ht]
      have w1 := IntWalk.i64_in ((sinceN (l.take k) t : Int) + 1) (by omega)
      simp [hlt, e, ht, w1, wrap_succ hlt hl]
      refine ⟨_, ?_, _, ⟨k + 1, rfl, hlt, rfl⟩, [], _, rfl, by simp [q2]⟩
      omega
    · have q2 : sinceN (l.take (k + 1)) t = sinceN (l.take k) t := by rw [q1]; simp [sinceN, ht]
      simp [hlt, e, ht, wrap_succ hlt hl]
      refine ⟨_, ?_, _, ⟨k + 1, rfl, hlt, rfl⟩, [], _, rfl, by simp [q2]⟩
      omega
  obtain rfl : k = l.length := by omega
  simp
  exact vcRet_of [] (by simp) rfl

set_option maxHeartbeats 1000000 in
theorem sinceR_m (l : List Int) (t : Int) (hl : l.length < 4294967296) : Meets Try.prog 23 [.rw 1000000 l.length, .i t] [.row 2 1 (l.map ics) false] (fun r => r = ⟨.i (sinceN l t), [.row 2 1 (l.map ics) false], []⟩) := by
  refine meetsH [] tbOk mixed Try.func23 pl23 rfl rfl ?_
  simp [Try.ntmps23]
  refine vc_loop (fun m σ => ∃ k : Nat, m = l.length - k ∧ k ≤ l.length ∧ σ = ⟨22, [(6, .i k), (5, .i (sinceN (l.take k) t)), (0, .rw 1000000 l.length), (1, .i t)], [(1000000, .row 2 1 (l.map ics) false)]⟩) ?_ ?_
  · exact ⟨_, _, ⟨0, rfl, Nat.zero_le _, rfl⟩, [], _, rfl, by simp [sinceN]⟩
  rintro m σ ⟨k, rfl, hk, rfl⟩
  by_cases hlt : k < l.length
  · obtain ⟨x, hx, e⟩ := at_lt hlt
    have hc : sinceN (l.take k) t ≤ k := by
      have := List.length_filter_le (fun x => decide (t < x)) (l.take k)
      rw [List.length_take] at this
      unfold sinceN; omega
    have q1 : l.take (k + 1) = l.take k ++ [x] := by rw [List.take_add_one, hx]; rfl
    by_cases ht : t < x
    · have q2 : sinceN (l.take (k + 1)) t = sinceN (l.take k) t + 1 := by rw [q1]; simp [sinceN, ht]
      have w1 := IntWalk.i64_in ((sinceN (l.take k) t : Int) + 1) (by omega)
      simp [hlt, e, ht, w1, wrap_succ hlt hl]
      refine ⟨_, ?_, _, ⟨k + 1, rfl, hlt, rfl⟩, [], _, rfl, by simp [q2]⟩
      omega
    · have q2 : sinceN (l.take (k + 1)) t = sinceN (l.take k) t := by rw [q1]; simp [sinceN, ht]
      simp [hlt, e, ht, wrap_succ hlt hl]
      refine ⟨_, ?_, _, ⟨k + 1, rfl, hlt, rfl⟩, [], _, rfl, by simp [q2]⟩
      omega
  obtain rfl : k = l.length := by omega
  simp
  exact vcRet_of [] (by simp) rfl
theorem sorted_pw {l : List Int} (h : l.Pairwise (· ≤ ·)) : sortedL l = true := by
  rw [sortedL_iff]
  intro j x y hx hy
  have hj := (List.getElem?_eq_some_iff.1 hx).1
  have hj' := (List.getElem?_eq_some_iff.1 hy).1
  have := List.pairwise_iff_getElem.1 h j (j + 1) hj hj' (by omega)
  rw [List.getElem?_eq_getElem hj] at hx
  rw [List.getElem?_eq_getElem hj'] at hy
  cases hx; cases hy
  exact this
/-- The lists of all times so far. -/
structure Log (l : List Int) (T : Int) (n : Nat) : Prop where
  pw : l.Pairwise (· ≤ ·)
  rng : ∀ x ∈ l, 0 ≤ x ∧ x ≤ T
  len : l.length ≤ n
theorem Log.push {l : List Int} {T t : Int} {n : Nat} (h : Log l T n) (h0 : 0 ≤ T) (ht : T ≤ t) : Log (l ++ [t]) t (n + 1) := by
  refine ⟨List.pairwise_append.2 ⟨h.pw, by simp, fun a ha b hb => ?_⟩, fun x hx => ?_, by rw [List.length_append]; have := h.len; simp; omega⟩
  · rw [List.mem_singleton.1 hb]
    have := h.rng a ha
    omega
  · rcases List.mem_append.1 hx with hx | hx
    · have := h.rng x hx; omega
    · rw [List.mem_singleton.1 hx]; omega
theorem Log.stay {l : List Int} {T t : Int} {n : Nat} (h : Log l T n) (ht : T ≤ t) : Log l t (n + 1) :=
  ⟨h.pw, fun x hx => by have := h.rng x hx; omega, by have := h.len; omega⟩
theorem left_left {l : List Int} {w T t : Int} (h : T ≤ t) : left (left l w T) w t = left l w t := by
  unfold left
  rw [List.filter_filter]
  apply List.filter_congr
  intro x _
  by_cases h1 : t < x + w
  · have h2 : T < x + w := by omega
    simp [h1, h2]
  · simp [h1]
theorem left_push {l : List Int} {w t : Int} (hw : 1 ≤ w) : left (l ++ [t]) w t = left l w t ++ [t] := by
  have : t < t + w := by omega
  simp [left, this]
theorem Log.times {l : List Int} {w T last : Int} {n : Nat} (h : Log l T n) (hT : T ≤ 1000000000000) (hl : last ≤ T) : times (left l w T) w last = true := by
  unfold Go.Proofs.Ytakmipccgpgfgaa.times
  rw [Bool.and_eq_true]
  refine ⟨List.all_eq_true.2 fun x hx => ?_, sorted_pw (h.pw.sublist List.filter_sublist)⟩
  obtain ⟨h1, h2⟩ := List.mem_filter.1 hx
  have h3 := h.rng x h1
  have h4 : T < x + w := by simpa using h2
  simp; omega
theorem Log.last {l : List Int} {w T : Int} {n : Nat} (h : Log l T n) (h0 : 0 ≤ T) : lastOf (left l w T) ≤ T := by
  rcases Nat.eq_zero_or_pos (left l w T).length with hz | hz
  · rw [List.eq_nil_of_length_eq_zero hz, lastOf_nil]; exact h0
  · obtain ⟨x, hx, _⟩ := at_lt (show (left l w T).length - 1 < (left l w T).length by omega)
    rw [lastOf_at hz hx]
    exact (h.rng x (List.mem_filter.1 (List.mem_of_getElem? hx)).1).2
theorem log_asked {r l w T t : Int} {Q R : List Int} {n : Nat} (hok : newOk r l w = true) (hQ : Log Q T n) (hR : Log R T n) (h0 : 0 ≤ T) (hT : T ≤ t) (ht : t ≤ 1000000000000) (hn : n ≤ 1000) : asked ⟨r, l, w, left Q w T, left R w T⟩ t = 0 := by
  have l1 := hQ.last (w := w) h0
  have l2 := hR.last (w := w) h0
  have hl : lastT ⟨r, l, w, left Q w T, left R w T⟩ ≤ T := by
    unfold lastT
    show max (max 0 (lastOf (left Q w T))) (lastOf (left R w T)) ≤ T
    omega
  have hc : chk ⟨r, l, w, left Q w T, left R w T⟩ = 0 := by
    have a1 := left_len Q w T
    have a2 := left_len R w T
    have a3 := hQ.len
    have a4 := hR.len
    refine chk_0 hok (by show ¬ (1000 < (left Q w T).length ∨ 1000 < (left R w T).length); omega) ?_
    show (times (left Q w T) w _ && times (left R w T) w _) = true
    rw [hQ.times (by omega) hl, hR.times (by omega) hl]
    rfl
  rw [asked, if_neg (by omega), if_neg]
  simp [outs]; omega
structure Sp where
  later : Int
  re : Bool
@[simp] def Sp.cs (s : Sp) : List D := [.v (.int .u16 s.later), .v (.bool s.re)]
set_option maxRecDepth 20000 in
set_option maxHeartbeats 8000000 in
theorem windows_m (b : Bu) (l : List Sp) (hs : ∀ s ∈ l, 0 ≤ s.later ∧ s.later ≤ 65535) : Meets Try.prog 7 [b.pv, .d (.sl 2 (l.map Sp.cs))] [] (Ret (.b true)) := by
  refine meetsH [] tbOk mixed Try.func7 pl7 rfl rfl ?_
  simp [Try.ntmps7]
  refine (new_m b.ratio b.least b.window).mono ?_
  rintro _ rfl
  cases hok : newOk b.ratio b.least b.window
  · simp [newB, hok]
    refine awake_m.mono ?_
    rintro _ rfl
    simp
    exact vcRet_of [] (by simp) rfl
  by_cases h100 : (100 : Int) < l.length
  · simp [newB, hok, h100]
    refine awake_m.mono ?_
    rintro _ rfl
    simp
    exact vcRet_of [] (by simp) rfl
  have hw := newOk_win hok
  have hrl := newOk_rng hok
  simp [newB, hok, h100]
  refine vc_loop (fun m σ => ∃ (i : Nat) (T : Int) (Q R : List Int), m = l.length - i ∧ i ≤ l.length ∧ (0 ≤ T ∧ T ≤ 65535 * i) ∧ Log Q T i ∧ Log R T i ∧
    σ = ⟨123, [(10, .i i), (9, .i T), (7, .rw 7 Q.length), (8, .rw 8 R.length), (1, .d (.sl 2 (l.map Sp.cs))), (2, .ptr 2 0), (5, .ptr 5 0)],
      [(2, .box 36 [.i b.ratio, .i b.least, .i b.window, .d (il b.reqs), .d (il b.rets)]), (5, .box 36 [.i b.ratio, .i b.least, .i b.window, .d (il (left Q b.window T)), .d (il (left R b.window T))]), (7, .row 2 1 (Q.map ics) false), (8, .row 2 1 (R.map ics) false)]⟩) ?_ ?_
  · exact ⟨_, _, ⟨0, 0, [], [], rfl, Nat.zero_le _, by omega, ⟨List.Pairwise.nil, by simp, Nat.le_refl _⟩, ⟨List.Pairwise.nil, by simp, Nat.le_refl _⟩, rfl⟩, [.row 7 2 1, .row 8 2 1], _, rfl, by simp [left]⟩
  rintro m σ ⟨i, T, Q, R, rfl, hi, hT, hQ, hR, rfl⟩
  have hQl := hQ.len
  have hRl := hR.len
  by_cases hlt : i < l.length
  · obtain ⟨x, hx, e⟩ := at_lt hlt
    have hx' := hs x (List.mem_of_getElem? hx)
    have w0 := IntWalk.i64_in x.later (by omega)
    have w1 := IntWalk.i64_in (T + x.later) (by omega)
    obtain ⟨t, et⟩ : ∃ t, T + x.later = t := ⟨_, rfl⟩
    rw [et] at w1
    have hTt : T ≤ t := by omega
    have ha := log_asked (t := t) hok hQ hR hT.1 hTt (by omega) (by omega)
    have hg : gone ⟨b.ratio, b.least, b.window, left Q b.window T, left R b.window T⟩ t = ⟨b.ratio, b.least, b.window, left Q b.window t, left R b.window t⟩ := by
      show (⟨_, _, _, left (left Q b.window T) b.window t, left (left R b.window T) b.window t⟩ : Bu) = _
      rw [left_left hTt, left_left hTt]
    have g1 := left_len Q b.window t
    have g2 := left_len R b.window t
    have g3 := left_len Q b.window T
    have g4 := left_len R b.window T
    cases hre : x.re
    · have hq : request ⟨b.ratio, b.least, b.window, left Q b.window T, left R b.window T⟩ t = (⟨b.ratio, b.least, b.window, left (Q ++ [t]) b.window t, left R b.window t⟩, 0) := by
        rw [request, if_neg (by omega), hg, if_neg (by show ¬ (left Q b.window t).length = 1000; omega), left_push (by omega)]
      simp [hlt, e, w0, et, w1, hre]
      refine (request_m ⟨b.ratio, b.least, b.window, left Q b.window T, left R b.window T⟩ t (by show (left Q b.window T).length < _; omega) (by show (left R b.window T).length < _; omega)).mono ?_
      rintro _ rfl
      simp [hq, wrap_succ hlt (show l.length < 4294967296 by omega)]
      refine ⟨by omega, _, ?_, _, ⟨i + 1, rfl, hlt, t, by omega, Q ++ [t], hQ.push hT.1 hTt, R, hR.stay hTt, rfl⟩, [], _, rfl, by simp⟩
      omega
    · obtain ⟨v1, v2, v3⟩ := ratio_wrap hrl.1 hrl.2 (n := (left Q b.window t).length) (by omega)
      have v4 := IntWalk.i64_in (t - b.window) (by omega)
      have s1 := since_left Q b.window t
      have s2 := since_left R b.window t
      simp [hlt, e, w0, et, w1, hre]
      refine (retry_m ⟨b.ratio, b.least, b.window, left Q b.window T, left R b.window T⟩ t (by show (left Q b.window T).length < _; omega) (by show (left R b.window T).length < _; omega)).mono ?_
      rintro _ rfl
      by_cases hal : ((left R b.window t).length : Int) < b.least + (b.ratio * (left Q b.window t).length).tdiv 100
      · have hq : retry ⟨b.ratio, b.least, b.window, left Q b.window T, left R b.window T⟩ t = (⟨b.ratio, b.least, b.window, left Q b.window t, left (R ++ [t]) b.window t⟩, true, 0) := by
          have : allowed ⟨b.ratio, b.least, b.window, left Q b.window t, left R b.window t⟩ = true := decide_eq_true hal
          rw [retry, if_neg (by omega), hg, this, if_neg (by decide), if_neg (by show ¬ (left R b.window t).length = 1000; omega), left_push (by omega)]
        simp [hq, v4]
        refine effCall (sinceR_m Q (t - b.window) (by omega)) ?_
        simp [s1, v1, v2, v3, v4, take_all]
        refine ⟨by kernel_rfl, ?_⟩
        refine (since_m R (t - b.window) (by omega)).mono ?_
        rintro _ rfl
        simp [s2, hal, wrap_succ hlt (show l.length < 4294967296 by omega)]
        refine ⟨by omega, _, ?_, _, ⟨i + 1, rfl, hlt, t, by omega, Q, hQ.stay hTt, R ++ [t], hR.push hT.1 hTt, rfl⟩, [], _, rfl, by simp⟩
        omega
      · have hq : retry ⟨b.ratio, b.least, b.window, left Q b.window T, left R b.window T⟩ t = (⟨b.ratio, b.least, b.window, left Q b.window t, left R b.window t⟩, false, 0) := by
          have : allowed ⟨b.ratio, b.least, b.window, left Q b.window t, left R b.window t⟩ = false := decide_eq_false hal
          rw [retry, if_neg (by omega), hg, this, if_pos (by decide)]
        simp [hq, v4]
        refine effCall (sinceR_m Q (t - b.window) (by omega)) ?_
        simp [s1, v1, v2, v3, v4, take_all]
        refine ⟨by kernel_rfl, ?_⟩
        refine (since_m R (t - b.window) (by omega)).mono ?_
        rintro _ rfl
        simp [s2, hal, wrap_succ hlt (show l.length < 4294967296 by omega)]
        refine ⟨_, ?_, _, ⟨i + 1, rfl, hlt, t, by omega, Q, hQ.stay hTt, R, hR.stay hTt, rfl⟩, [], _, rfl, by simp⟩
        omega
  obtain rfl : i = l.length := by omega
  have g3 := left_len Q b.window T
  have g4 := left_len R b.window T
  simp [g3, g4]
  refine awake_m.mono ?_
  rintro _ rfl
  simp
  exact vcRet_of [] (by simp) rfl
end Go.Proofs.Ytakmipccgpgfgaa
