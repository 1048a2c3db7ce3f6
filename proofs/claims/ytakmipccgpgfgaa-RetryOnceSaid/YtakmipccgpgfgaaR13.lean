/- Contract: the statement RetryBudgets. No condition. -/
import Derived.Test.YtakmipccgpgfgaaR14
namespace Go.Proofs.Ytakmipccgpgfgaa
open Go.RowKit

def farB (b : Bu) : Bool := (decide (60 < b.reqs.length) && decide (b.reqs.length ≤ 1000)) || (decide (1010 < b.reqs.length) || ((decide (60 < b.rets.length) && decide (b.rets.length ≤ 1000)) || decide (1010 < b.rets.length)))
set_option maxRecDepth 8000 in
set_option maxHeartbeats 4000000 in
theorem far_m (b : Bu) : Meets Try.prog 13 [b.pv] [] (Ret (.b (farB b))) := by
  refine meetsH [] tbOk mixed Try.func13 pl13 rfl rfl ?_
  by_cases a1 : (60 : Int) < b.reqs.length
  · by_cases a2 : (b.reqs.length : Int) ≤ 1000
    · have h : farB b = true := by simp [farB]; omega
      rw [h]
      simp [Try.ntmps13, a1, a2]
      exact vcRet_of [] (by simp) rfl
    by_cases a3 : (1010 : Int) < b.reqs.length
    · have h : farB b = true := by simp [farB]; omega
      rw [h]
      simp [Try.ntmps13, a1, a2, a3]
      exact vcRet_of [] (by simp) rfl
    by_cases c1 : (60 : Int) < b.rets.length
    · by_cases c2 : (b.rets.length : Int) ≤ 1000
      · have h : farB b = true := by simp [farB]; omega
        rw [h]
        simp [Try.ntmps13, a1, a2, a3, c1, c2]
        exact vcRet_of [] (by simp) rfl
      by_cases c3 : (1010 : Int) < b.rets.length
      · have h : farB b = true := by simp [farB]; omega
        rw [h]
        simp [Try.ntmps13, a1, a2, a3, c1, c2, c3]
        exact vcRet_of [] (by simp) rfl
      · have h : farB b = false := by simp [farB]; omega
        rw [h]
        simp [Try.ntmps13, a1, a2, a3, c1, c2, c3]
        exact vcRet_of [] (by simp) rfl
    · have c3 : ¬ (1010 : Int) < b.rets.length := by omega
      have h : farB b = false := by simp [farB]; omega
      rw [h]
      simp [Try.ntmps13, a1, a2, a3, c1, c3]
      exact vcRet_of [] (by simp) rfl
  · have a3 : ¬ (1010 : Int) < b.reqs.length := by omega
    by_cases c1 : (60 : Int) < b.rets.length
    · by_cases c2 : (b.rets.length : Int) ≤ 1000
      · have h : farB b = true := by simp [farB]; omega
        rw [h]
        simp [Try.ntmps13, a1, a3, c1, c2]
        exact vcRet_of [] (by simp) rfl
      by_cases c3 : (1010 : Int) < b.rets.length
      · have h : farB b = true := by simp [farB]; omega
        rw [h]
        simp [Try.ntmps13, a1, a3, c1, c2, c3]
        exact vcRet_of [] (by simp) rfl
      · have h : farB b = false := by simp [farB]; omega
        rw [h]
        simp [Try.ntmps13, a1, a3, c1, c2, c3]
        exact vcRet_of [] (by simp) rfl
    · have c3 : ¬ (1010 : Int) < b.rets.length := by omega
      have h : farB b = false := by simp [farB]; omega
      rw [h]
      simp [Try.ntmps13, a1, a3, c1, c3]
      exact vcRet_of [] (by simp) rfl
theorem far_len {b : Bu} (h : farB b = false) : b.reqs.length ≤ 1010 ∧ b.rets.length ≤ 1010 := by
  simp [farB] at h; omega
theorem newB_len (r l w : Int) : (newB r l w).1.reqs.length = 0 ∧ (newB r l w).1.rets.length = 0 := by
  unfold newB; split <;> exact ⟨rfl, rfl⟩
theorem left_len (l : List Int) (w now : Int) : (left l w now).length ≤ l.length := List.length_filter_le _ _
theorem request_len (b : Bu) (now : Int) : (request b now).1.reqs.length ≤ b.reqs.length + 1 ∧ (request b now).1.rets.length ≤ b.rets.length + 1 := by
  have h1 := left_len b.reqs b.window now
  have h2 := left_len b.rets b.window now
  unfold request
  split
  · simp [zeroB]
  · split
    · simp [zeroB]
    · simp [gone]; omega
theorem retry_len (b : Bu) (now : Int) : (retry b now).1.reqs.length ≤ b.reqs.length + 1 ∧ (retry b now).1.rets.length ≤ b.rets.length + 1 := by
  have h1 := left_len b.reqs b.window now
  have h2 := left_len b.rets b.window now
  unfold retry
  split
  · simp [zeroB]
  · split
    · simp [gone]; omega
    · split
      · simp [zeroB]
      · simp [gone]; omega
set_option maxRecDepth 20000 in
set_option maxHeartbeats 4000000 in
theorem budgets_m (b : Bu) (now : Int) : Meets Try.prog 5 [b.pv, .i now] [] (Ret (.b true)) := by
  refine meetsH [] tbOk mixed Try.func5 pl5 rfl rfl ?_
  simp [Try.ntmps5]
  refine (far_m b).mono ?_
  rintro _ rfl
  cases hf : farB b
  case true =>
    simp
    refine awake_m.mono ?_
    rintro _ rfl
    simp
    exact vcRet_of [] (by simp) rfl
  have hl := far_len hf
  have h1 : b.reqs.length < 4294967296 := by omega
  have h2 : b.rets.length < 4294967296 := by omega
  have n1 := newB_len b.ratio b.least b.window
  have q1 := request_len b now
  have q2 := retry_len b now
  simp
  refine (new_m b.ratio b.least b.window).mono ?_
  rintro _ rfl
  simp
  refine (refNew_m b.ratio b.least b.window).mono ?_
  rintro _ rfl
  simp
  refine effCall (same_m _ _ (by omega) (by omega)) ?_
  simp
  refine effCall (check_m b h1 h2) ?_
  simp
  refine effCall (refCheck_m b h1 h2) ?_
  simp
  refine ⟨by kernel_rfl, ?_⟩
  refine (request_m b now h1 h2).mono ?_
  rintro _ rfl
  simp
  refine (refRequest_m b now h1 h2).mono ?_
  rintro _ rfl
  simp
  refine (same_m _ _ (by omega) (by omega)).mono ?_
  rintro _ rfl
  simp
  refine (retry_m b now h1 h2).mono ?_
  rintro _ rfl
  simp
  refine (refRetry_m b now h1 h2).mono ?_
  rintro _ rfl
  simp
  refine (same_m _ _ (by omega) (by omega)).mono ?_
  rintro _ rfl
  simp
  refine awake_m.mono ?_
  rintro _ rfl
  simp
  exact vcRet_of [] (by simp) rfl
end Go.Proofs.Ytakmipccgpgfgaa
