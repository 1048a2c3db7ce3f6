/- Contract: Check of retry. No condition. -/
import Derived.Test.YtakmipccgpgfgaaR7
namespace Go.Proofs.Ytakmipccgpgfgaa
open Go.RowKit

theorem chk_bad {b : Bu} (h : newOk b.ratio b.least b.window = true) (hl : ¬ (1000 < b.reqs.length ∨ 1000 < b.rets.length)) (hb : ends1 b.reqs = false ∨ ends1 b.rets = false ∨ ends2 b.reqs b.window (lastT b) = false ∨ ends2 b.rets b.window (lastT b) = false) : chk b = 6 := by
  refine chk_6 h hl ?_
  rw [times_ends, times_ends]
  rcases hb with e | e | e | e <;> rw [e] <;> simp
theorem chk_good {b : Bu} (h : newOk b.ratio b.least b.window = true) (hl : ¬ (1000 < b.reqs.length ∨ 1000 < b.rets.length)) (a1 : ends1 b.reqs = true) (a2 : ends1 b.rets = true) (a3 : ends2 b.reqs b.window (lastT b) = true) (a4 : ends2 b.rets b.window (lastT b) = true) : chk b = 0 := by
  refine chk_0 h hl ?_
  rw [times_ends, times_ends, a1, a2, a3, a4]
  rfl
theorem headD_at {l : List Int} {x : Int} (hx : l[0]? = some x) : l.headD 0 = x := by cases l with
  | nil => simp at hx
  | cons a r => simpa using hx
theorem ends1_of {l : List Int} {x y : Int} (h0 : 0 < l.length) (hx : l[0]? = some x) (hy : l[l.length - 1]? = some y) : ends1 l = (decide (0 ≤ x) && (decide (y ≤ 1000000000000) && sortedL l)) := by
  have hne : l.isEmpty = false := by cases l with
    | nil => simp at h0
    | cons a r => rfl
  rw [ends1, hne, headD_at hx, lastOf_at h0 hy, Bool.false_or]
theorem ends2_of {l : List Int} {x w t : Int} (h0 : 0 < l.length) (hx : l[0]? = some x) : ends2 l w t = decide (t - x < w) := by
  have hne : l.isEmpty = false := by cases l with
    | nil => simp at h0
    | cons a r => rfl
  rw [ends2, hne, headD_at hx, Bool.false_or]
theorem ends_nil {l : List Int} (h0 : ¬ 0 < l.length) (w t : Int) : ends1 l = true ∧ ends2 l w t = true := by
  have : l = [] := List.eq_nil_of_length_eq_zero (by omega)
  subst this
  exact ⟨rfl, rfl⟩
set_option maxRecDepth 8000 in
set_option maxHeartbeats 4000000 in
theorem check_m (b : Bu) (h1 : b.reqs.length < 4294967296) (h2 : b.rets.length < 4294967296) : Meets Try.prog 17 [b.pv] [] (Ret (.i (chk b))) := by
  refine meetsH [] tbOk mixed Try.func17 pl17 rfl rfl ?_
  simp [Try.ntmps17]
  refine (new_m b.ratio b.least b.window).mono ?_
  rintro _ rfl
  cases hn : newOk b.ratio b.least b.window
  · have hc : chk b = 7 := by rw [chk, hn]; rfl
    simp [newB, hn]
    exact vcRet_of [] (by simp [hc]) rfl
  by_cases hl : 1000 < b.reqs.length ∨ 1000 < b.rets.length
  · have a1 : (1000 : Int) < max (b.reqs.length : Int) b.rets.length := by omega
    simp [newB, hn, a1]
    exact vcRet_of [] (by simp [chk_long hn hl]) rfl
  have a1 : ¬ (1000 : Int) < max (b.reqs.length : Int) b.rets.length := by omega
  have hw := newOk_win hn
  simp [newB, hn, a1]
  refine vc_loop (fun m σ => ∃ k : Nat, m = 9 - k ∧ k ≤ 2 ∧ (1 ≤ k → ends1 b.reqs = true) ∧ (2 ≤ k → ends1 b.rets = true) ∧ σ = ⟨89, [(36, .i k), (35, .i 2), (34, .rw 34 2), (1, .ptr 1 0)], [(1, .box 36 [.i b.ratio, .i b.least, .i b.window, .d (il b.reqs), .d (il b.rets)]), (34, .row 34 1 [[il b.reqs], [il b.rets]] false)]⟩) ?_ ?_
  · exact ⟨_, _, ⟨0, rfl, by omega, fun h => by omega, fun h => by omega, rfl⟩, [], _, rfl, by simp⟩
  rintro m σ ⟨k, rfl, hk, g1, g2, rfl⟩
  by_cases hk0 : k = 0
  · subst hk0
    have w := IntWalk.i64_in 1 (by omega)
    by_cases h0 : 0 < b.reqs.length
    case neg =>
      simp [h0, w]
      refine ⟨_, ?_, _, ⟨1, rfl, by omega, fun _ => (ends_nil h0 0 0).1, fun h => by omega, rfl⟩, [], _, rfl, by simp⟩
      omega
    obtain ⟨x, hx, ex⟩ := at_lt h0
    obtain ⟨y, hy, ey⟩ := at_lt (show b.reqs.length - 1 < b.reqs.length by omega)
    have ho := ends1_of h0 hx hy
    have wp := wrap_pred h0 h1
    have kl : b.reqs.length - 1 < b.reqs.length := by omega
    by_cases b1 : x < 0
    · simp [h0, ex, b1]
      have b1' : ¬ 0 ≤ x := by omega
      exact vcRet_of [] (by simp [chk_bad hn hl (.inl (by simp [ho, b1']))]) rfl
    have b1' : 0 ≤ x := by omega
    by_cases b2 : 1000000000000 < y
    · simp [h0, ex, b1, wp, kl, ey, b2]
      have b2' : ¬ y ≤ 1000000000000 := by omega
      exact vcRet_of [] (by simp [chk_bad hn hl (.inl (by simp [ho, b2']))]) rfl
    have b2' : y ≤ 1000000000000 := by omega
    simp [h0, ex, b1, wp, kl, ey, b2]
    refine (sorted_m b.reqs h1).mono ?_
    rintro _ rfl
    cases b3 : sortedL b.reqs
    · simp
      exact vcRet_of [] (by simp [chk_bad hn hl (.inl (by simp [ho, b3]))]) rfl
    · simp [w]
      refine ⟨_, ?_, _, ⟨1, rfl, by omega, fun _ => by simp [ho, b1', b2', b3], fun h => by omega, rfl⟩, [], _, rfl, by simp⟩
      omega
  by_cases hk1 : k = 1
  · subst hk1
    have w := IntWalk.i64_in 2 (by omega)
    by_cases h0 : 0 < b.rets.length
    case neg =>
      simp [h0, w]
      refine ⟨_, ?_, _, ⟨2, rfl, by omega, fun h => g1 (by omega), fun _ => (ends_nil h0 0 0).1, rfl⟩, [], _, rfl, by simp⟩
      omega
    obtain ⟨x, hx, ex⟩ := at_lt h0
    obtain ⟨y, hy, ey⟩ := at_lt (show b.rets.length - 1 < b.rets.length by omega)
    have ho := ends1_of h0 hx hy
    have wp := wrap_pred h0 h2
    have kl : b.rets.length - 1 < b.rets.length := by omega
    by_cases b1 : x < 0
    · simp [h0, ex, b1]
      have b1' : ¬ 0 ≤ x := by omega
      exact vcRet_of [] (by simp [chk_bad hn hl (.inr (.inl (by simp [ho, b1'])))]) rfl
    have b1' : 0 ≤ x := by omega
    by_cases b2 : 1000000000000 < y
    · simp [h0, ex, b1, wp, kl, ey, b2]
      have b2' : ¬ y ≤ 1000000000000 := by omega
      exact vcRet_of [] (by simp [chk_bad hn hl (.inr (.inl (by simp [ho, b2'])))]) rfl
    have b2' : y ≤ 1000000000000 := by omega
    simp [h0, ex, b1, wp, kl, ey, b2]
    refine (sorted_m b.rets h2).mono ?_
    rintro _ rfl
    cases b3 : sortedL b.rets
    · simp
      exact vcRet_of [] (by simp [chk_bad hn hl (.inr (.inl (by simp [ho, b3])))]) rfl
    · simp [w]
      refine ⟨_, ?_, _, ⟨2, rfl, by omega, fun h => g1 (by omega), fun _ => by simp [ho, b1', b2', b3], rfl⟩, [], _, rfl, by simp⟩
      omega
  obtain rfl : k = 2 := by omega
  have g1 := g1 (by omega)
  have g2 := g2 (by omega)
  have hT := lastT_rng g1 g2
  simp
  refine vc_loop (fun m σ => ∃ k : Nat, m = 9 - k ∧ k ≤ 2 ∧ (1 ≤ k → ends2 b.reqs b.window (lastT b) = true) ∧ (2 ≤ k → ends2 b.rets b.window (lastT b) = true) ∧ σ = ⟨89, [(70, .i k), (69, .i 2), (68, .rw 68 2), (1, .ptr 1 0)], [(1, .box 36 [.i b.ratio, .i b.least, .i b.window, .d (il b.reqs), .d (il b.rets)]), (68, .row 34 1 [[il b.reqs], [il b.rets]] false)]⟩) ?_ ?_
  · exact ⟨_, _, ⟨0, rfl, by omega, fun h => by omega, fun h => by omega, rfl⟩, [], _, rfl, by simp⟩
  rintro m σ ⟨k, rfl, hk, g3, g4, rfl⟩
  by_cases hk0 : k = 0
  · subst hk0
    have w := IntWalk.i64_in 1 (by omega)
    by_cases h0 : 0 < b.reqs.length
    case neg =>
      simp [h0, w]
      refine ⟨by kernel_rfl, _, ?_, _, ⟨1, rfl, by omega, fun _ => (ends_nil h0 b.window (lastT b)).2, fun h => by omega, rfl⟩, [], _, rfl, by simp⟩
      omega
    obtain ⟨x, hx, ex⟩ := at_lt h0
    obtain ⟨y, hy, ey⟩ := at_lt (show b.reqs.length - 1 < b.reqs.length by omega)
    have ho := ends2_of (w := b.window) (t := lastT b) h0 hx
    have hx2 := ends1_of h0 hx hy
    rw [g1] at hx2
    simp only [Bool.true_eq, Bool.and_eq_true, decide_eq_true_eq] at hx2
    have hxy := sorted_le hx2.2.2 (b.reqs.length - 1) 0 x y hx (by simpa using hy)
    have wd := IntWalk.i64_in (lastT b - x) (by omega)
    simp [h0, ex]
    refine effCall (last_m b h1 h2) ?_
    by_cases b4 : b.window ≤ lastT b - x
    · have b4' : ¬ lastT b - x < b.window := by omega
      simp [h0, ex, wd, b4]
      exact ⟨by kernel_rfl, vcRet_of [] (by simp [chk_bad hn hl (.inr (.inr (.inl (by simp [ho, b4']))))]) rfl⟩
    · have b4' : lastT b - x < b.window := by omega
      simp [h0, ex, wd, b4, w]
      refine ⟨by kernel_rfl, _, ?_, _, ⟨1, rfl, by omega, fun _ => by simp [ho, b4'], fun h => by omega, rfl⟩, [], _, rfl, by simp⟩
      omega
  by_cases hk1 : k = 1
  · subst hk1
    have w := IntWalk.i64_in 2 (by omega)
    by_cases h0 : 0 < b.rets.length
    case neg =>
      simp [h0, w]
      refine ⟨by kernel_rfl, _, ?_, _, ⟨2, rfl, by omega, fun h => g3 (by omega), fun _ => (ends_nil h0 b.window (lastT b)).2, rfl⟩, [], _, rfl, by simp⟩
      omega
    obtain ⟨x, hx, ex⟩ := at_lt h0
    obtain ⟨y, hy, ey⟩ := at_lt (show b.rets.length - 1 < b.rets.length by omega)
    have ho := ends2_of (w := b.window) (t := lastT b) h0 hx
    have hx2 := ends1_of h0 hx hy
    rw [g2] at hx2
    simp only [Bool.true_eq, Bool.and_eq_true, decide_eq_true_eq] at hx2
    have hxy := sorted_le hx2.2.2 (b.rets.length - 1) 0 x y hx (by simpa using hy)
    have wd := IntWalk.i64_in (lastT b - x) (by omega)
    simp [h0, ex]
    refine effCall (last_m b h1 h2) ?_
    by_cases b4 : b.window ≤ lastT b - x
    · have b4' : ¬ lastT b - x < b.window := by omega
      simp [h0, ex, wd, b4]
      exact ⟨by kernel_rfl, vcRet_of [] (by simp [chk_bad hn hl (.inr (.inr (.inr (by simp [ho, b4']))))]) rfl⟩
    · have b4' : lastT b - x < b.window := by omega
      simp [h0, ex, wd, b4, w]
      refine ⟨by kernel_rfl, _, ?_, _, ⟨2, rfl, by omega, fun h => g3 (by omega), fun _ => by simp [ho, b4'], rfl⟩, [], _, rfl, by simp⟩
      omega
  obtain rfl : k = 2 := by omega
  simp
  exact vcRet_of [] (by simp [chk_good hn hl g1 g2 (g3 (by omega)) (g4 (by omega))]) rfl
end Go.Proofs.Ytakmipccgpgfgaa
