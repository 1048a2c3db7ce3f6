/- Contracts: ready; the reference's between, SameList, Same, find. No condition. -/
import Derived.Test.YtajkljbcfgegoaaU2
namespace Go.Proofs.Ytajkljbcfgegoaa
open Go.RowKit

def St.box (s : St) : MObj := .box 24 [.i s.most, .d (wl s.ws)]
theorem ready_m (s : St) (now : Int) (hl : s.ws.length < 4294967296) : Meets Try.prog 27 [.ptr 1000000 0, .i now] [s.box] (fun r => r = ⟨.i (rdy s now), [s.box], []⟩) := by
  refine meets tbOk mixed Try.func27 pl27 rfl rfl ?_
  simp [Try.ntmps27, St.box]
  refine (check_m s hl).mono ?_
  rintro _ rfl
  by_cases hc : chk s = 0
  case neg =>
    simp [hc]
    refine vcRet_of [] ?_ rfl
    simp [rdy, hc]
  by_cases h1 : now < 0
  · simp [hc, h1]
    refine vcRet_of [] ?_ rfl
    simp [rdy, hc, badTime, h1]
  by_cases h2 : 1000000000000 < now
  · simp [hc, h1, h2]
    refine vcRet_of [] ?_ rfl
    simp [rdy, hc, badTime, h1, h2]
  by_cases h0 : 0 < s.ws.length
  · obtain ⟨y, hy, ey⟩ := at_lt (show s.ws.length - 1 < s.ws.length by omega)
    have hw : IntKind.i64.wrap ((s.ws.length : Int) - 1) = ((s.ws.length - 1 : Nat) : Int) := by rw [IntWalk.i64_in _ (by omega)]; omega
    have hk : s.ws.length - 1 < s.ws.length := by omega
    simp [hc, h1, h2, h0, hw, hk]
    rw [ey]
    refine ⟨fun h => vcRet_of [] ?_ rfl, fun h => vcRet_of [] ?_ rfl⟩
    · simp [rdy_bad (now := now) hc hy (.inr (.inr h))]
    · simp [rdy_ok (now := now) hc h0 hy (by omega)]
  · simp [hc, h1, h2, h0]
    refine vcRet_of [] ?_ rfl
    simp [rdy, hc, badTime, h1, h2, h0]
def inB (a b c : Int) : Bool := decide (b ≤ a) && decide (a ≤ c)
theorem between_m (a b c : Int) : Meets Try.prog 26 [.i a, .i b, .i c] [] (Ret (.b (inB a b c))) := by
  refine meets tbOk mixed Try.func26 pl26 rfl rfl ?_
  simp [Try.ntmps26]
  refine ⟨fun h => vcRet_of [] ?_ rfl, fun h => vcRet_of [] ?_ rfl⟩
  · simp [inB, h]
  · simp [inB]; omega
theorem refFind_m (s : St) (n : Int) (hl : s.ws.length < 4294967296) : Meets Try.prog 56 [s.pv, .i n] [] (Ret (.i (place s.ws n))) := by
  refine meets tbOk mixed Try.func56 pl56 rfl rfl ?_
  simp [Try.ntmps56]
  refine vc_loop (fun m σ => ∃ k : Nat, m = s.ws.length - k ∧ k ≤ s.ws.length ∧ noneTo (fun x : Wt => x.call == n) s.ws k ∧ σ = ⟨22, [(5, .i k), (2, .ptr 2 0), (1, .i n)], [(2, .box 24 [.i s.most, .d (wl s.ws)])]⟩) ?_ ?_
  · exact ⟨_, _, ⟨0, rfl, Nat.zero_le _, noneTo_zero _ _, rfl⟩, [], _, rfl, by simp⟩
  · rintro m σ ⟨k, rfl, hk, hn, rfl⟩
    by_cases hlt : k < s.ws.length
    · obtain ⟨x, hx, e⟩ := at_lt hlt
      simp [hlt, e, hx, wrap_succ hlt hl]
      refine ⟨fun h => vcRet_of [] ?_ rfl, fun h => ⟨_, ?_, _, ⟨k + 1, rfl, hlt, noneTo_succ hn hx (by simp [h]), rfl⟩, [], _, rfl, by simp⟩⟩
      · simp [place, idx_hit (fun x : Wt => x.call == n) s.ws k x hx (by simp [h]) hn]
      · omega
    · obtain rfl : k = s.ws.length := by omega
      simp
      refine vcRet_of [] ?_ rfl
      simp [place, idx_miss (fun x : Wt => x.call == n) s.ws hn]
theorem Wt.eqs (x y : Wt) : (decide (x.call = y.call) && (decide (x.since = y.since) && (decide (x.dead = y.dead) && true))) = decide (x = y) := by
  obtain ⟨a, b, c⟩ := x
  obtain ⟨a', b', c'⟩ := y
  simp
theorem sameList_m (xs ys : List Wt) (hl : xs.length < 4294967296) : Meets Try.prog 31 [.d (wl xs), .d (wl ys)] [] (Ret (.b (decide (xs = ys)))) := by
  refine meets tbOk mixed Try.func31 pl31 rfl rfl ?_
  by_cases hlen : xs.length = ys.length
  case neg =>
    have hl2 : ¬ ((xs.length : Int) = ys.length) := by omega
    simp [Try.ntmps31, hl2]
    refine vcRet_of [] ?_ rfl
    have : xs ≠ ys := fun e => hlen (by rw [e])
    simp [this]
  simp [Try.ntmps31, ← hlen]
  refine vc_loop (fun m σ => ∃ k : Nat, m = xs.length - k ∧ k ≤ xs.length ∧ xs.take k = ys.take k ∧ σ = ⟨26, [(5, .i k), (0, .d (wl xs)), (1, .d (wl ys))], []⟩) ?_ ?_
  · exact ⟨_, _, ⟨0, rfl, Nat.zero_le _, rfl, rfl⟩, [], _, rfl, by simp⟩
  · rintro m σ ⟨k, rfl, hk, hn, rfl⟩
    by_cases hlt : k < xs.length
    · obtain ⟨x, hx, e⟩ := at_lt hlt
      obtain ⟨y, hy, e'⟩ := at_lt (show k < ys.length by omega)
      have hlt' : k < ys.length := by omega
      simp [hlt, hlt', e, e', wrap_succ hlt hl]
      refine ⟨by kernel_rfl, fun h => vcRet_of [] ?_ rfl, fun h1 h2 h3 => ⟨_, ?_, _, ⟨k + 1, rfl, hlt, ?_, rfl⟩, [], _, rfl, by simp⟩⟩
      · have : xs ≠ ys := fun e2 => by
          subst e2
          rw [hx] at hy
          cases hy
          simp at h
        simp [this]
      · omega
      · rw [List.take_add_one, List.take_add_one, hn, hx, hy]
        obtain ⟨a, b, c⟩ := x
        obtain ⟨a', b', c'⟩ := y
        simp at h1 h2 h3
        rw [h1, h2, h3]
    · obtain rfl : k = xs.length := by omega
      simp
      refine vcRet_of [] ?_ rfl
      have : xs = ys := by rw [List.take_length, hlen, List.take_length] at hn; exact hn
      simp [this]
theorem same_m (s t : St) (hl : s.ws.length < 4294967296) : Meets Try.prog 13 [s.pv, t.pv] [] (Ret (.b (decide (s = t)))) := by
  refine meets tbOk mixed Try.func13 pl13 rfl rfl ?_
  simp [Try.ntmps13]
  refine ⟨fun h => ?_, fun h => vcRet_of [] ?_ rfl⟩
  · refine (sameList_m s.ws t.ws hl).mono ?_
    rintro _ rfl
    simp
    refine vcRet_of [] ?_ rfl
    obtain ⟨a, b⟩ := s
    obtain ⟨a', b'⟩ := t
    simp at h
    simp [h]
  · have : s ≠ t := fun e => h (by rw [e])
    simp [this]
end Go.Proofs.Ytajkljbcfgegoaa
