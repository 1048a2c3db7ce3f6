/- Contract: the reference's Put. No condition. -/
import Derived.Test.YtjbpkibhkaagjaaI8
namespace Go.Proofs.Ytjbpkibhkaagjaa
open Go.RowKit

set_option maxRecDepth 20000 in
set_option maxHeartbeats 2000000 in
theorem refPut_m (s : St) (n b now : Int) (hl : s.cs.length < 4294967296) : Meets Try.prog 46 [s.pv, .i n, .i b, .i now] [] (Ret (.tup [(put s n b now).1.pv, .d (nl (put s n b now).2.1), .i (put s n b now).2.2])) := by
  refine meetsH [] tbOk mixed Try.func46 pl46 rfl rfl ?_
  simp [Try.ntmps46]
  refine (at_m s now hl).mono ?_
  rintro _ rfl
  by_cases hc : rdy s now = 0
  case neg =>
    simp [hc]
    refine vcRet_of [] ?_ rfl
    simp [put_err hc]
  have hn := rdy_now hc
  have hoc : oddC ⟨n, b, now⟩ = !(inB n 1 1000000000000000 && inB b 0 now) := by
    have : inB now 0 1000000000000 = true := by simp [inB]; omega
    simp [oddC, this]
  simp [hc]
  refine (between_m n 1 1000000000000000).mono ?_
  rintro _ rfl
  cases h1a : inB n 1 1000000000000000
  · simp
    refine vcRet_of [] ?_ rfl
    simp [put_odd (b := b) (n := n) hc (by rw [hoc, h1a]; rfl)]
  simp
  refine (between_m b 0 now).mono ?_
  rintro _ rfl
  cases h1b : inB b 0 now
  · simp
    refine vcRet_of [] ?_ rfl
    simp [put_odd (b := b) (n := n) hc (by rw [hoc, h1a, h1b]; rfl)]
  have h1 : oddC ⟨n, b, now⟩ = false := by rw [hoc, h1a, h1b]; rfl
  simp
  refine (refFind_m s n hl).mono ?_
  rintro _ rfl
  by_cases h2 : 0 ≤ place s.cs n
  · simp [h2]
    refine vcRet_of [] ?_ rfl
    simp [put_two hc h1 h2]
  have hb : 0 ≤ b ∧ b ≤ now := by simp [oddC, inB] at h1; omega
  have w1 := small_wrap (a := now - b) (by omega)
  by_cases h3 : s.most = 0
  · simp [h2, h3]
    refine vcRet_of [] ?_ rfl
    simp [put_none hc h1 h2 (.inl h3), h3]
  by_cases h4 : s.age ≤ now - b
  · simp [h2, h3, w1, h4]
    refine vcRet_of [] ?_ rfl
    simp [put_none hc h1 h2 (.inr h4)]
  have h34 : ¬ (s.most = 0 ∨ s.age ≤ now - b) := by omega
  have hlm := chk_len (rdy_chk hc)
  have hmm := chk_most (rdy_chk hc)
  simp [h2, h3, w1, h4]
  by_cases h5 : (s.cs.length : Int) + 1 ≤ s.most
  · have h6 : ¬ s.most < (s.cs.length : Int) + 1 := by omega
    simp [h5, h6]
    refine ⟨by omega, by omega, vcRet_of [] ?_ rfl⟩
    simp [put_in hc h1 h2 h34 h5]
    exact List.take_of_length_le (by simp)
  · obtain ⟨x, r, hx⟩ : ∃ x r, s.cs = x :: r := by
      cases hcs : s.cs with
      | nil => rw [hcs] at hlm h5; simp at hlm h5; omega
      | cons x r => exact ⟨x, r, rfl⟩
    have hr := congrArg List.length hx
    simp at hr
    have h6 : s.most < (s.cs.length : Int) + 1 := by omega
    have h7 : ¬ (r.length : Int) + 1 + 1 ≤ s.most := by omega
    have h8 : s.most < (r.length : Int) + 1 + 1 := by omega
    simp [h5, h6, hx, h7, h8]
    refine ⟨by omega, by omega, by omega, vcRet_of [] ?_ rfl⟩
    simp [put_full hc h1 h2 h34 h5 hx]
    exact ⟨by omega, List.take_of_length_le (by simp)⟩
end Go.Proofs.Ytjbpkibhkaagjaa
