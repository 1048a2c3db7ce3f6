/- Contracts: Put, and the reference's. No condition. -/
import Derived.Test.YtjbpkibhkaagjaaI7
namespace Go.Proofs.Ytjbpkibhkaagjaa
open Go.RowKit

theorem put_err {s : St} {n b now : Int} (h : rdy s now ≠ 0) : put s n b now = (s, [], rdy s now) := by simp [put, h]
theorem put_odd {s : St} {n b now : Int} (h : rdy s now = 0) (h1 : oddC ⟨n, b, now⟩ = true) : put s n b now = (s, [], 7) := by simp [put, h, h1]
theorem put_two {s : St} {n b now : Int} (h : rdy s now = 0) (h1 : oddC ⟨n, b, now⟩ = false) (h2 : 0 ≤ place s.cs n) : put s n b now = (s, [], 8) := by simp [put, h, h1, h2]
theorem put_none {s : St} {n b now : Int} (h : rdy s now = 0) (h1 : oddC ⟨n, b, now⟩ = false) (h2 : ¬ 0 ≤ place s.cs n) (h3 : s.most = 0 ∨ s.age ≤ now - b) : put s n b now = (s, [n], 0) := by
  unfold put; rw [if_neg (by simp [h]), if_neg (by simp [h1]), if_neg h2, if_pos h3]
theorem put_in {s : St} {n b now : Int} (h : rdy s now = 0) (h1 : oddC ⟨n, b, now⟩ = false) (h2 : ¬ 0 ≤ place s.cs n) (h3 : ¬ (s.most = 0 ∨ s.age ≤ now - b)) (h4 : (s.cs.length : Int) + 1 ≤ s.most) : put s n b now = (⟨s.most, s.idle, s.age, s.cs ++ [⟨n, b, now⟩]⟩, [], 0) := by
  unfold put; rw [if_neg (by simp [h]), if_neg (by simp [h1]), if_neg h2, if_neg h3, if_pos h4]
theorem put_full {s : St} {n b now : Int} (h : rdy s now = 0) (h1 : oddC ⟨n, b, now⟩ = false) (h2 : ¬ 0 ≤ place s.cs n) (h3 : ¬ (s.most = 0 ∨ s.age ≤ now - b)) (h4 : ¬ (s.cs.length : Int) + 1 ≤ s.most) {x : Cn} {r : List Cn} (hx : s.cs = x :: r) : put s n b now = (⟨s.most, s.idle, s.age, r ++ [⟨n, b, now⟩]⟩, [x.conn], 0) := by
  unfold put; rw [if_neg (by simp [h]), if_neg (by simp [h1]), if_neg h2, if_neg h3, if_neg h4, hx]; simp
theorem rdy_now {s : St} {now : Int} (h : rdy s now = 0) : 0 ≤ now ∧ now ≤ 1000000000000 := by
  have h2 : badTime s now = false := by
    unfold rdy at h
    rw [if_neg (by rw [rdy_chk h]; simp)] at h
    cases hb : badTime s now
    · rfl
    · rw [hb] at h; simp at h
  simp [badTime] at h2; omega
set_option maxRecDepth 20000 in
set_option maxHeartbeats 2000000 in
theorem put_m (s : St) (n b now : Int) (hl : s.cs.length < 4294967296) : Meets Try.prog 19 [s.pv, .i n, .i b, .i now] [] (Ret (.tup [(put s n b now).1.pv, .d (nl (put s n b now).2.1), .i (put s n b now).2.2])) := by
  refine meetsH [] tbOk mixed Try.func19 pl19 rfl rfl ?_
  simp [Try.ntmps19]
  refine (ready_m s now hl).mono ?_
  rintro _ rfl
  by_cases hc : rdy s now = 0
  case neg =>
    simp [hc]
    refine vcRet_of [] ?_ rfl
    simp [put_err hc]
  simp [hc]
  refine (odd_m ⟨n, b, now⟩).mono ?_
  rintro _ rfl
  cases h1 : oddC ⟨n, b, now⟩
  case true =>
    simp
    refine vcRet_of [] ?_ rfl
    simp [put_odd hc h1]
  simp
  refine (find_m s.cs n hl).mono ?_
  rintro _ rfl
  by_cases h2 : 0 ≤ place s.cs n
  · simp [h2]
    refine vcRet_of [] ?_ rfl
    simp [put_two hc h1 h2]
  have hb : 0 ≤ b ∧ b ≤ now := by simp [oddC, inB] at h1; omega
  have hn := rdy_now hc
  have w1 := small_wrap (a := now - b) (by omega)
  by_cases h3 : s.most = 0
  · simp [h2, h3]
    refine vcRet_of [] ?_ rfl
    simp [put_none hc h1 h2 (.inl h3), h3]
  by_cases h4 : s.age ≤ now - b
  · simp [h2, h3, w1, h4]
    refine vcRet_of [] ?_ rfl
    simp [put_none hc h1 h2 (.inr h4)]
  have h34 : ¬ (s.most = 0 ∨ s.age ≤ now - b) := by omega
  have hlm := chk_len (rdy_chk hc)
  have hmm := chk_most (rdy_chk hc)
  simp [h2, h3, w1, h4]
  refine effCallN (clone_m s.cs hl) ?_
  simp
  by_cases h5 : (s.cs.length : Int) + 1 ≤ s.most
  · have h6 : ¬ s.most < (s.cs.length : Int) + 1 := by omega
    simp [h6]
    refine ⟨by omega, by kernel_rfl, fun _ => vcRet_of [] ?_ rfl⟩
    simp [put_in hc h1 h2 h34 h5]
    exact List.take_of_length_le (by simp)
  · obtain ⟨x, r, hx⟩ : ∃ x r, s.cs = x :: r := by
      cases hcs : s.cs with
      | nil => rw [hcs] at hlm h5; simp at hlm h5; omega
      | cons x r => exact ⟨x, r, rfl⟩
    have h6 : s.most < (s.cs.length : Int) + 1 := by omega
    have hl2 : (s.cs.length : Int) = r.length + 1 := by rw [hx]; simp
    simp [h6]
    simp [hx]
    have hr := congrArg List.length hx
    simp at hr
    refine ⟨by omega, by kernel_rfl, ⟨by omega, vcRet_of [] ?_ rfl⟩, fun h => ?_⟩
    · simp [put_full hc h1 h2 h34 h5 hx]
      exact ⟨by omega, List.take_of_length_le (by simp)⟩
    · omega
end Go.Proofs.Ytjbpkibhkaagjaa
