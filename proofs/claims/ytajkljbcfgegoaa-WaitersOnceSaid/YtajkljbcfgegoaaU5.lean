/- Contracts: the reference's at, out, New, Serve, Cancel. No condition. -/
import Derived.Test.YtajkljbcfgegoaaU4
namespace Go.Proofs.Ytajkljbcfgegoaa
open Go.RowKit

theorem at_m (s : St) (now : Int) (hl : s.ws.length < 4294967296) : Meets Try.prog 54 [s.pv, .i now] [] (Ret (.i (rdy s now))) := by
  refine meets tbOk mixed Try.func54 pl54 rfl rfl ?_
  simp [Try.ntmps54]
  refine (refCheck_m s hl).mono ?_
  rintro _ rfl
  by_cases hc : chk s = 0
  case neg =>
    simp [hc]
    refine vcRet_of [] ?_ rfl
    simp [rdy, hc]
  simp [hc]
  refine (between_m now 0 1000000000000).mono ?_
  rintro _ rfl
  cases h1 : inB now 0 1000000000000
  · simp
    refine vcRet_of [] ?_ rfl
    have : badTime s now = true := by simp [inB] at h1; simp [badTime]; omega
    simp [rdy, hc, this]
  have h1' : 0 ≤ now ∧ now ≤ 1000000000000 := by simpa [inB] using h1
  by_cases h0 : 0 < s.ws.length
  · have hk : s.ws.length - 1 < s.ws.length := by omega
    obtain ⟨y, hy, ey⟩ := at_lt hk
    have hw : IntKind.i64.wrap ((s.ws.length : Int) - 1) = ((s.ws.length - 1 : Nat) : Int) := by rw [IntWalk.i64_in _ (by omega)]; omega
    simp [h0, hw, hk]
    rw [ey]
    refine ⟨fun h => vcRet_of [] ?_ rfl, fun h => vcRet_of [] ?_ rfl⟩
    · simp [rdy_bad (now := now) hc hy (.inr (.inr h))]
    · simp [rdy_ok (now := now) hc h0 hy (by omega)]
  · simp [h0]
    refine vcRet_of [] ?_ rfl
    simp [rdy_ok0 (now := now) hc (by omega) (by omega)]
theorem refOut_m (s : St) (i : Nat) (hi : i < s.ws.length) (hl : s.ws.length < 4294967296) : Meets Try.prog 55 [s.pv, .i i] [] (Ret (.tup [(⟨s.most, s.ws.eraseIdx i⟩ : St).pv, (s.ws.getD i default).pv])) := by
  refine meets tbOk mixed Try.func55 pl55 rfl rfl ?_
  obtain ⟨x, hx, e⟩ := at_lt hi
  simp [Try.ntmps55, hi, e, wrap_succ hi hl]
  refine ⟨by omega, by omega, by omega, by omega, by kernel_rfl, by kernel_rfl, vcRet_of [] ?_ rfl⟩
  simp
  have e2 : List.take s.ws.length (List.map Wt.cs s.ws) = List.map Wt.cs s.ws := List.take_of_length_le (by simp)
  rw [e2, List.eraseIdx_eq_take_drop_succ, List.map_append, List.map_take, List.map_drop]
  exact List.take_of_length_le (by simp)
theorem outAt_k (s : St) (k : Nat) : outAt s (k : Int) = (⟨s.most, s.ws.eraseIdx k⟩, s.ws.getD k default, 0) := by
  unfold outAt
  rw [if_neg (by omega)]
  rfl
theorem outAt_none (s : St) : outAt s (-1) = (s, ⟨0, 0, 0⟩, 4) := rfl
theorem refNew_m (m : Int) : Meets Try.prog 24 [.i m] [] (Ret (.tup [(new m).1.pv, .i (new m).2])) := by
  refine meets tbOk mixed Try.func24 pl24 rfl rfl ?_
  simp [Try.ntmps24]
  refine (between_m m 0 64).mono ?_
  rintro _ rfl
  cases hr : inB m 0 64
  · simp
    refine vcRet_of [] ?_ rfl
    simp [new, room_in, hr]
  · simp
    refine vcRet_of [] ?_ rfl
    simp [new, room_in, hr]
set_option maxHeartbeats 1000000 in
theorem refServe_m (s : St) (now : Int) (hl : s.ws.length < 4294967296) : Meets Try.prog 43 [s.pv, .i now] [] (Ret (.tup [(serve s now).1.pv, (serve s now).2.1.pv, .i (serve s now).2.2])) := by
  refine meets tbOk mixed Try.func43 pl43 rfl rfl ?_
  simp [Try.ntmps43]
  refine (at_m s now hl).mono ?_
  rintro _ rfl
  by_cases hc : rdy s now = 0
  case neg =>
    simp [hc]
    refine vcRet_of [] ?_ rfl
    simp [serve, hc]
  simp [hc]
  refine vc_loop (fun m σ => ∃ k : Nat, m = s.ws.length - k ∧ k ≤ s.ws.length ∧ noneTo (fun x : Wt => decide (now < x.dead)) s.ws k ∧ σ = ⟨44, [(8, .i k), (2, .ptr 2 0), (4, .ptr 4 0), (5, .ptr 5 0), (1, .i now)], [(2, .box 24 [.i s.most, .d (wl s.ws)]), (4, .box 24 [.i 0, .d (.v (.slice none 0 0))]), (5, .box 29 [.i 0, .i 0, .i 0])]⟩) ?_ ?_
  · exact ⟨_, _, ⟨0, rfl, Nat.zero_le _, noneTo_zero _ _, rfl⟩, [], _, rfl, by simp⟩
  rintro m σ ⟨k, rfl, hk, hn, rfl⟩
  by_cases hlt : k < s.ws.length
  · obtain ⟨x, hx, e⟩ := at_lt hlt
    by_cases hd : now < x.dead
    · simp [hlt, e, hd]
      refine (refOut_m s k hlt hl).mono ?_
      rintro _ rfl
      simp
      refine ⟨by kernel_rfl, vcRet_of [] ?_ rfl⟩
      have hp : idx (fun x : Wt => decide (now < x.dead)) s.ws 0 = k := idx_hit _ _ k x hx (by simp [hd]) hn
      have hs : serve s now = (⟨s.most, s.ws.eraseIdx k⟩, s.ws.getD k default, 0) := by rw [serve, hp, outAt_k]; simp [hc]
      simp [hs]
    · simp [hlt, e, hd, wrap_succ hlt hl]
      refine ⟨_, ?_, _, ⟨k + 1, rfl, hlt, noneTo_succ hn hx (by simp [hd]), rfl⟩, [], _, rfl, by simp⟩
      omega
  obtain rfl : k = s.ws.length := by omega
  have hp : idx (fun x : Wt => decide (now < x.dead)) s.ws 0 = -1 := idx_miss _ _ hn
  simp
  refine vcRet_of [] ?_ rfl
  simp [serve, hc, outAt, hp]
set_option maxHeartbeats 1000000 in
theorem refCancel_m (s : St) (n : Int) (hl : s.ws.length < 4294967296) : Meets Try.prog 44 [s.pv, .i n] [] (Ret (.tup [(cancel s n).1.pv, (cancel s n).2.1.pv, .i (cancel s n).2.2])) := by
  refine meets tbOk mixed Try.func44 pl44 rfl rfl ?_
  simp [Try.ntmps44]
  refine (refCheck_m s hl).mono ?_
  rintro _ rfl
  by_cases hc : chk s = 0
  case neg =>
    simp [hc]
    refine vcRet_of [] ?_ rfl
    simp [cancel, hc]
  simp [hc]
  refine (refFind_m s n hl).mono ?_
  rintro _ rfl
  rcases idx_range (fun x : Wt => x.call == n) s.ws 0 with h | ⟨h1, h2⟩
  · have hp : place s.ws n = -1 := h
    simp [hp]
    refine vcRet_of [] ?_ rfl
    simp [cancel, hc, hp, outAt_none]
  · obtain ⟨k, hp⟩ : ∃ k : Nat, place s.ws n = k := ⟨(place s.ws n).toNat, by unfold place; omega⟩
    have hlt : k < s.ws.length := by unfold place at hp; omega
    have hs : cancel s n = (⟨s.most, s.ws.eraseIdx k⟩, s.ws.getD k default, 0) := by rw [cancel, hp, outAt_k]; simp [hc]
    have hk0 : ¬ (k : Int) < 0 := by omega
    simp [hp, hk0]
    refine (refOut_m s k hlt hl).mono ?_
    rintro _ rfl
    simp
    refine ⟨by kernel_rfl, vcRet_of [] ?_ rfl⟩
    simp [hs]
set_option maxHeartbeats 1000000 in
theorem refPlace_m (s : St) (n : Int) (hl : s.ws.length < 4294967296) : Meets Try.prog 48 [s.pv, .i n] [] (Ret (.tup [.i (where_ s n).1, .i (where_ s n).2])) := by
  refine meets tbOk mixed Try.func48 pl48 rfl rfl ?_
  simp [Try.ntmps48]
  refine (refCheck_m s hl).mono ?_
  rintro _ rfl
  by_cases hc : chk s = 0
  case neg =>
    simp [hc]
    refine vcRet_of [] ?_ rfl
    simp [where_, hc]
  simp [hc]
  refine (refFind_m s n hl).mono ?_
  rintro _ rfl
  by_cases hp : place s.ws n < 0
  · simp [hp]
    refine vcRet_of [] ?_ rfl
    have hp' : ¬ 0 ≤ place s.ws n := by omega
    simp [where_, hc, hp']
  · simp [hp]
    refine vcRet_of [] ?_ rfl
    have hp' : 0 ≤ place s.ws n := by omega
    simp [where_, hc, hp']
set_option maxHeartbeats 1000000 in
theorem refDrain_m (s : St) (hl : s.ws.length < 4294967296) : Meets Try.prog 49 [s.pv] [] (Ret (.tup [(drain s).1.pv, .d (wl (drain s).2.1), .i (drain s).2.2])) := by
  refine meets tbOk mixed Try.func49 pl49 rfl rfl ?_
  simp [Try.ntmps49]
  refine (refCheck_m s hl).mono ?_
  rintro _ rfl
  by_cases hc : chk s = 0
  case neg =>
    simp [hc]
    refine vcRet_of [] ?_ rfl
    simp [drain, hc]
  simp [hc, hl]
  refine vcRet_of [] ?_ rfl
  simp [drain, hc]
  exact List.take_of_length_le (by simp)
end Go.Proofs.Ytajkljbcfgegoaa
