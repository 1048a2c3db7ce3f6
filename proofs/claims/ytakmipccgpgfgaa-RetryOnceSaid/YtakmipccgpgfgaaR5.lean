/- Contracts: last, IsSorted, times. No condition. -/
import Derived.Test.YtakmipccgpgfgaaR4
namespace Go.Proofs.Ytakmipccgpgfgaa
open Go.RowKit

theorem wrap_pred {n : Nat} (h : 0 < n) (h' : n < 4294967296) : IntKind.i64.wrap ((n : Int) - 1) = ((n - 1 : Nat) : Int) := by rw [IntWalk.i64_in _ (by omega)]; omega
theorem lastOf_nil : lastOf [] = 0 := rfl
def lastTo (b : Bu) (k : Nat) : Int := if k = 0 then 0 else if k = 1 then max 0 (lastOf b.reqs) else lastT b
set_option maxHeartbeats 1000000 in
theorem last_m (b : Bu) (h1 : b.reqs.length < 4294967296) (h2 : b.rets.length < 4294967296) : Meets Try.prog 30 [b.pv] [] (Ret (.i (lastT b))) := by
  refine meets tbOk mixed Try.func30 pl30 rfl rfl ?_
  simp [Try.ntmps30]
  refine vc_loop (fun m σ => ∃ k : Nat, m = 9 - k ∧ k ≤ 2 ∧ σ = ⟨29, [(12, .i k), (11, .i 2), (10, .rw 10 2), (3, .i (lastTo b k))], [(10, .row 34 1 [[il b.reqs], [il b.rets]] false)]⟩) ?_ ?_
  · exact ⟨_, _, ⟨0, rfl, by omega, rfl⟩, [], _, rfl, by simp [lastTo]⟩
  rintro m σ ⟨k, rfl, hk, rfl⟩
  by_cases hk0 : k = 0
  · subst hk0
    have w := IntWalk.i64_in 1 (by omega)
    by_cases a1 : 0 < b.reqs.length
    · obtain ⟨x, hx, ex⟩ := at_lt (show b.reqs.length - 1 < b.reqs.length by omega)
      have e1 := wrap_pred a1 h1
      have k1 : b.reqs.length - 1 < b.reqs.length := by omega
      have l1 := lastOf_at a1 hx
      simp [a1, e1, k1, ex, w, lastTo]
      refine ⟨_, ?_, _, ⟨1, rfl, by omega, rfl⟩, [], _, rfl, by simp [l1]⟩
      omega
    · have hn : b.reqs = [] := List.eq_nil_of_length_eq_zero (by omega)
      simp [a1, w, lastTo]
      refine ⟨_, ?_, _, ⟨1, rfl, by omega, rfl⟩, [], _, rfl, by simp [hn, lastOf_nil]⟩
      omega
  by_cases hk1 : k = 1
  · subst hk1
    have w := IntWalk.i64_in 2 (by omega)
    by_cases a1 : 0 < b.rets.length
    · obtain ⟨x, hx, ex⟩ := at_lt (show b.rets.length - 1 < b.rets.length by omega)
      have e1 := wrap_pred a1 h2
      have k1 : b.rets.length - 1 < b.rets.length := by omega
      have l1 := lastOf_at a1 hx
      simp [a1, e1, k1, ex, w, lastTo]
      refine ⟨_, ?_, _, ⟨2, rfl, by omega, rfl⟩, [], _, rfl, by simp [lastT, l1]⟩
      omega
    · have hn : b.rets = [] := List.eq_nil_of_length_eq_zero (by omega)
      simp [a1, w, lastTo]
      refine ⟨_, ?_, _, ⟨2, rfl, by omega, rfl⟩, [], _, rfl, ?_⟩
      · omega
      · simp [lastT, hn, lastOf_nil]
  obtain rfl : k = 2 := by omega
  simp
  exact vcRet_of [] (by simp [lastTo]) rfl
theorem isNaN_m (n : Int) : Meets Try.prog 52 [.i n] [] (Ret (.b false)) := by
  refine meets tbOk mixed Try.func52 pl52 rfl rfl ?_
  simp [Try.ntmps52]
  exact vcRet_of [] (by simp) rfl
theorem less_m (a b : Int) : Meets Try.prog 39 [.i a, .i b] [] (Ret (.b (decide (a < b)))) := by
  refine meets tbOk mixed Try.func39 pl39 rfl rfl ?_
  simp [Try.ntmps39]
  refine (isNaN_m a).mono ?_
  rintro _ rfl
  simp
  exact vcRet_of [] (by simp) rfl
theorem sortedL_iff : ∀ (l : List Int), sortedL l = true ↔ ∀ (j : Nat) x y, l[j]? = some x → l[j + 1]? = some y → x ≤ y
  | [] => by simp [sortedL]
  | [a] => by
    simp only [sortedL, true_iff]
    intro j x y _ h
    simp at h
  | a :: b :: r => by
    simp only [sortedL, Bool.and_eq_true, decide_eq_true_eq]
    rw [sortedL_iff (b :: r)]
    constructor
    · rintro ⟨h1, h2⟩ j x y hx hy
      cases j with
      | zero => simp at hx hy; omega
      | succ j => exact h2 j x y (by simpa using hx) (by simpa using hy)
    · intro h
      exact ⟨h 0 a b rfl rfl, fun j x y hx hy => h (j + 1) x y (by simpa using hx) (by simpa using hy)⟩
set_option maxHeartbeats 1000000 in
theorem sorted_m (l : List Int) (hl : l.length < 4294967296) : Meets Try.prog 29 [.d (il l)] [] (Ret (.b (sortedL l))) := by
  refine meets tbOk mixed Try.func29 pl29 rfl rfl ?_
  by_cases h0 : l.length = 0
  · have hn : l = [] := List.eq_nil_of_length_eq_zero h0
    subst hn
    have w := IntWalk.i64_in (-1) (by omega)
    simp [Try.ntmps29, w]
    refine vc_loop (fun m σ => m = 0 ∧ σ = ⟨21, [(3, .i (-1))], []⟩) ⟨_, _, ⟨rfl, rfl⟩, [], _, rfl, by simp⟩ ?_
    rintro m σ ⟨rfl, rfl⟩
    simp
    exact vcRet_of [] (by simp [sortedL]) rfl
  simp [Try.ntmps29, wrap_pred (show 0 < l.length by omega) hl]
  refine vc_loop (fun m σ => ∃ k : Nat, m = k ∧ k < l.length ∧ (∀ (j : Nat) x y, k ≤ j → l[j]? = some x → l[j + 1]? = some y → x ≤ y) ∧ σ = ⟨21, [(3, .i k), (0, .d (il l))], []⟩) ?_ ?_
  · refine ⟨_, _, ⟨l.length - 1, rfl, by omega, fun j x y hj _ hy => ?_, rfl⟩, [], _, rfl, by simp⟩
    have := (List.getElem?_eq_some_iff.1 hy).1
    omega
  rintro k σ ⟨_, rfl, hk, hs, rfl⟩
  by_cases hk0 : 0 < k
  · obtain ⟨x, hx, ex⟩ := at_lt hk
    obtain ⟨y, hy, ey⟩ := at_lt (show k - 1 < l.length by omega)
    have w := wrap_pred hk0 (show k < 4294967296 by omega)
    have k1 : k - 1 < l.length := by omega
    simp [hk0, hk, w, k1, ex, ey]
    refine effCall (less_m x y) ?_
    by_cases hxy : x < y
    · simp [hxy]
      refine ⟨by kernel_rfl, vcRet_of [] ?_ rfl⟩
      have : sortedL l = false := by
        rw [← Bool.not_eq_true, sortedL_iff]
        intro h
        have := h (k - 1) y x hy (by rw [show k - 1 + 1 = k by omega]; exact hx)
        omega
      simp [this]
    · simp [hxy]
      refine ⟨by kernel_rfl, k - 1, ?_, _, ⟨by omega, fun j a b hj ha hb => ?_, rfl⟩, [], _, rfl, by simp [w]⟩
      · omega
      · by_cases hj' : j = k - 1
        · subst hj'
          rw [show k - 1 + 1 = k by omega] at hb
          rw [hy] at ha; rw [hx] at hb
          cases ha; cases hb
          omega
        · exact hs j a b (by omega) ha hb
  obtain rfl : k = 0 := by omega
  simp
  refine vcRet_of [] ?_ rfl
  have : sortedL l = true := (sortedL_iff l).2 fun j x y hx hy => hs j x y (Nat.zero_le _) hx hy
  simp [this]
end Go.Proofs.Ytakmipccgpgfgaa
