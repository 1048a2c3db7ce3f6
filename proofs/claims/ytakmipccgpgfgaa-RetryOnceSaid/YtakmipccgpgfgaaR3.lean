/- Contracts: lists of times: New, Same, left, gone, last, IsSorted. No condition. -/
import Derived.Test.YtakmipccgpgfgaaR2
namespace Go.Proofs.Ytakmipccgpgfgaa
open Go.RowKit

theorem new_m (r l w : Int) : Meets Try.prog 14 [.i r, .i l, .i w] [] (Ret (.tup [(newB r l w).1.pv, .i (newB r l w).2])) := by
  refine meets tbOk mixed Try.func14 pl14 rfl rfl ?_
  simp [Try.ntmps14]
  refine (outside_m r 0 100).mono ?_
  rintro _ rfl
  by_cases h1 : outs r 0 100 = true
  · simp [h1]
    refine vcRet_of [] ?_ rfl
    simp [newB, newOk, h1]
  simp only [Bool.not_eq_true] at h1
  simp [h1]
  refine (outside_m l 0 100).mono ?_
  rintro _ rfl
  by_cases h2 : outs l 0 100 = true
  · simp [h2]
    refine vcRet_of [] ?_ rfl
    simp [newB, newOk, h1, h2]
  simp only [Bool.not_eq_true] at h2
  simp [h2]
  refine (outside_m w 1 1000000000000).mono ?_
  rintro _ rfl
  by_cases h3 : outs w 1 1000000000000 = true
  · simp [h3]
    refine vcRet_of [] ?_ rfl
    simp [newB, newOk, h1, h2, h3]
  simp only [Bool.not_eq_true] at h3
  simp [h3]
  refine vcRet_of [] ?_ rfl
  simp [newB, newOk, h1, h2, h3]
set_option maxRecDepth 4000 in
theorem refNew_m (r l w : Int) : Meets Try.prog 15 [.i r, .i l, .i w] [] (Ret (.tup [(newB r l w).1.pv, .i (newB r l w).2])) := by
  refine meets tbOk mixed Try.func15 pl15 rfl rfl ?_
  have bad : newOk r l w = false → newB r l w = (⟨0, 0, 0, [], []⟩, 7) := fun h => by rw [newB, h]; rfl
  have good : newOk r l w = true → newB r l w = (⟨r, l, w, [], []⟩, 0) := fun h => by rw [newB, h]; rfl
  by_cases a1 : r < 0
  · rw [bad (by simp [newOk, outs, a1])]
    simp [Try.ntmps15, a1]
    exact vcRet_of [] (by simp) rfl
  by_cases a2 : 100 < r
  · rw [bad (by simp [newOk, outs, a2])]
    simp [Try.ntmps15, a1, a2]
    exact vcRet_of [] (by simp) rfl
  by_cases a3 : l < 0
  · rw [bad (by simp [newOk, outs, a3])]
    simp [Try.ntmps15, a1, a2, a3]
    exact vcRet_of [] (by simp) rfl
  by_cases a4 : 100 < l
  · rw [bad (by simp [newOk, outs, a4])]
    simp [Try.ntmps15, a1, a2, a3, a4]
    exact vcRet_of [] (by simp) rfl
  by_cases a5 : w < 1
  · rw [bad (by simp [newOk, outs, a5])]
    simp [Try.ntmps15, a1, a2, a3, a4, a5]
    exact vcRet_of [] (by simp) rfl
  by_cases a6 : 1000000000000 < w
  · rw [bad (by simp [newOk, outs, a6])]
    simp [Try.ntmps15, a1, a2, a3, a4, a5, a6]
    exact vcRet_of [] (by simp) rfl
  rw [good (by simp [newOk, outs, a1, a2, a3, a4, a5, a6])]
  simp [Try.ntmps15, a1, a2, a3, a4, a5, a6]
  exact vcRet_of [] (by simp) rfl
theorem list_m (xs ys : List Int) (hl : xs.length < 4294967296) : Meets Try.prog 28 [.d (il xs), .d (il ys)] [] (Ret (.b (decide (xs = ys)))) := by
  refine meets tbOk mixed Try.func28 pl28 rfl rfl ?_
  by_cases hlen : xs.length = ys.length
  case neg =>
    have hl2 : ¬ ((xs.length : Int) = ys.length) := by omega
    simp [Try.ntmps28, hl2]
    refine vcRet_of [] ?_ rfl
    have : xs ≠ ys := fun e => hlen (by rw [e])
    simp [this]
  simp [Try.ntmps28, ← hlen]
  refine vc_loop (fun m σ => ∃ k : Nat, m = xs.length - k ∧ k ≤ xs.length ∧ xs.take k = ys.take k ∧ σ = ⟨26, [(5, .i k), (0, .d (il xs)), (1, .d (il ys))], []⟩) ?_ ?_
  · exact ⟨_, _, ⟨0, rfl, Nat.zero_le _, rfl, rfl⟩, [], _, rfl, by simp⟩
  · rintro m σ ⟨k, rfl, hk, hn, rfl⟩
    by_cases hlt : k < xs.length
    · obtain ⟨x, hx, e⟩ := at_lt hlt
      obtain ⟨y, hy, e'⟩ := at_lt (show k < ys.length by omega)
      have hlt' : k < ys.length := by omega
      by_cases hxy : x = y
      · subst hxy
        simp [hlt, hlt', e, e', wrap_succ hlt hl]
        refine ⟨by kernel_rfl, _, ?_, _, ⟨k + 1, rfl, hlt, ?_, rfl⟩, [], _, rfl, by simp⟩
        · omega
        · rw [List.take_add_one, List.take_add_one, hx, hy, hn]
      · simp [hlt, hlt', e, e', hxy]
        refine ⟨by kernel_rfl, vcRet_of [] ?_ rfl⟩
        have : xs ≠ ys := fun h => hxy (by rw [h, hy] at hx; exact (Option.some.inj hx).symm)
        simp [this]
    · obtain rfl : k = xs.length := by omega
      simp
      refine vcRet_of [] ?_ rfl
      have : xs = ys := by rw [List.take_length, hlen, List.take_length] at hn; exact hn
      simp [this]
set_option maxRecDepth 4000 in
theorem same_m (a b : Bu) (h1 : a.reqs.length < 4294967296) (h2 : a.rets.length < 4294967296) : Meets Try.prog 16 [a.pv, b.pv] [] (Ret (.b (decide (a = b)))) := by
  refine meets tbOk mixed Try.func16 pl16 rfl rfl ?_
  obtain ⟨r, l, w, xs, ys⟩ := a
  obtain ⟨r', l', w', xs', ys'⟩ := b
  by_cases e1 : r = r'
  case neg =>
    simp [Try.ntmps16, e1]
    exact vcRet_of [] (by simp) rfl
  by_cases e2 : l = l'
  case neg =>
    simp [Try.ntmps16, e1, e2]
    exact vcRet_of [] (by simp) rfl
  by_cases e3 : w = w'
  case neg =>
    simp [Try.ntmps16, e1, e2, e3]
    exact vcRet_of [] (by simp) rfl
  subst e1 e2 e3
  simp [Try.ntmps16]
  refine (list_m xs xs' h1).mono ?_
  rintro _ rfl
  by_cases e4 : xs = xs'
  case neg =>
    simp [e4]
    exact vcRet_of [] (by simp) rfl
  subst e4
  simp
  refine (list_m ys ys' h2).mono ?_
  rintro _ rfl
  simp
  exact vcRet_of [] (by simp) rfl
theorem time_m (t : Int) : Meets Try.prog 40 [.i t] [] (Ret (.b (decide (0 ≤ t) && decide (t ≤ 1000000000000)))) := by
  refine meets tbOk mixed Try.func40 pl40 rfl rfl ?_
  simp [Try.ntmps40]
  refine ⟨fun h => vcRet_of [] ?_ rfl, fun h => vcRet_of [] ?_ rfl⟩
  · simp [h]
  · simp; omega
end Go.Proofs.Ytakmipccgpgfgaa
