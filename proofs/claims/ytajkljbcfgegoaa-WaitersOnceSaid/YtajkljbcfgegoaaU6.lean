/- Contracts: the reference's Next, Resize, Expire, Join. No condition. -/
import Derived.Test.YtajkljbcfgegoaaU5
namespace Go.Proofs.Ytajkljbcfgegoaa
open Go.RowKit

@[simp] theorem take_map_cs (xs : List Wt) : List.take xs.length (List.map Wt.cs xs) = List.map Wt.cs xs := List.take_of_length_le (by simp)
theorem least_succ {ws : List Wt} {k : Nat} {x : Wt} (h : ws[k]? = some x) : least (ws.take (k + 1)) = min (least (ws.take k)) x.dead := by
  rw [List.take_add_one, h]
  simp [least, List.foldl_append]
set_option maxHeartbeats 1000000 in
theorem refNext_m (s : St) (hl : s.ws.length < 4294967296) : Meets Try.prog 47 [s.pv] [] (Ret (.tup [.i (next s).1, .i (next s).2])) := by
  refine meets tbOk mixed Try.func47 pl47 rfl rfl ?_
  simp [Try.ntmps47]
  refine (refCheck_m s hl).mono ?_
  rintro _ rfl
  by_cases hc : chk s = 0
  case neg =>
    simp [hc]
    refine vcRet_of [] ?_ rfl
    simp [next, hc]
  simp [hc]
  refine vc_loop (fun m σ => ∃ k : Nat, m = s.ws.length - k ∧ k ≤ s.ws.length ∧ σ = ⟨30, [(6, .i k), (5, .i (least (s.ws.take k))), (1, .ptr 1 0)], [(1, .box 24 [.i s.most, .d (wl s.ws)])]⟩) ?_ ?_
  · exact ⟨_, _, ⟨0, rfl, Nat.zero_le _, rfl⟩, [], _, rfl, by simp [least]⟩
  rintro m σ ⟨k, rfl, hk, rfl⟩
  by_cases hlt : k < s.ws.length
  · obtain ⟨x, hx, e⟩ := at_lt hlt
    simp [hlt, e, wrap_succ hlt hl]
    refine ⟨_, ?_, _, ⟨k + 1, rfl, hlt, rfl⟩, [], _, rfl, by simp [least_succ hx]⟩
    omega
  obtain rfl : k = s.ws.length := by omega
  by_cases h9 : least s.ws = 1000000000001
  · simp [h9]
    refine vcRet_of [] ?_ rfl
    simp [next, hc, h9]
  · simp [h9]
    refine vcRet_of [] ?_ rfl
    simp [next, hc, h9]
set_option maxHeartbeats 1000000 in
theorem refResize_m (s : St) (m : Int) (hl : s.ws.length < 4294967296) : Meets Try.prog 46 [s.pv, .i m] [] (Ret (.tup [(resize s m).1.pv, .d (wl (resize s m).2.1), .i (resize s m).2.2])) := by
  refine meets tbOk mixed Try.func46 pl46 rfl rfl ?_
  simp [Try.ntmps46]
  refine (refCheck_m s hl).mono ?_
  rintro _ rfl
  by_cases hc : chk s = 0
  case neg =>
    simp [hc]
    refine vcRet_of [] ?_ rfl
    simp [resize, hc]
  simp [hc]
  refine (between_m m 0 64).mono ?_
  rintro _ rfl
  cases hr : inB m 0 64
  · simp
    refine vcRet_of [] ?_ rfl
    simp [resize, hc, room_in, hr]
  have hm : 0 ≤ m ∧ m ≤ 64 := by simpa [inB] using hr
  obtain ⟨k, rfl⟩ : ∃ k : Nat, m = k := ⟨m.toNat, by omega⟩
  have e1 : (min (k : Int) s.ws.length).toNat = min k s.ws.length := by omega
  have e2 : List.take s.ws.length (List.map Wt.cs s.ws) = List.map Wt.cs s.ws := List.take_of_length_le (by simp)
  simp [e1, e2]
  refine ⟨by omega, by omega, by omega, by omega, vcRet_of [] ?_ rfl⟩
  simp [resize, hc, room_in, hr]
  rcases Nat.le_total k s.ws.length with h | h
  · rw [Nat.min_eq_left h, List.take_take, Nat.min_self]
    exact ⟨rfl, List.take_of_length_le (by simp)⟩
  · rw [Nat.min_eq_right h, e2, e2, List.take_of_length_le (i := k) (by simpa using h), List.drop_of_length_le (by simp), List.drop_of_length_le (i := k) (by simpa using h)]
    exact ⟨rfl, by simp⟩
set_option maxHeartbeats 1000000 in
theorem refExpire_m (s : St) (now : Int) (hl : s.ws.length < 4294967296) : Meets Try.prog 45 [s.pv, .i now] [] (Ret (.tup [(expire s now).1.pv, .d (wl (expire s now).2.1), .i (expire s now).2.2])) := by
  refine meets tbOk mixed Try.func45 pl45 rfl rfl ?_
  simp [Try.ntmps45]
  refine (at_m s now hl).mono ?_
  rintro _ rfl
  by_cases hc : rdy s now = 0
  case neg =>
    simp [hc]
    refine vcRet_of [] ?_ rfl
    simp [expire, hc]
  simp [hc]
  refine vc_loop (fun m σ => ∃ k : Nat, m = s.ws.length - k ∧ k ≤ s.ws.length ∧ σ = ⟨53, [(10, .i k), (8, .rw 8 ((s.ws.take k).filter fun x => decide (now < x.dead)).length), (9, .rw 9 ((s.ws.take k).filter fun x => !decide (now < x.dead)).length), (1, .i now), (2, .ptr 2 0), (4, .ptr 4 0)],
    [(2, .box 24 [.i s.most, .d (wl s.ws)]), (4, .box 24 [.i 0, .d (.v (.slice none 0 0))]), (8, .row 29 3 (((s.ws.take k).filter fun x => decide (now < x.dead)).map Wt.cs) false), (9, .row 29 3 (((s.ws.take k).filter fun x => !decide (now < x.dead)).map Wt.cs) false)]⟩) ?_ ?_
  · exact ⟨_, _, ⟨0, rfl, Nat.zero_le _, rfl⟩, [.row 8 29 3, .row 9 29 3], _, rfl, by simp⟩
  rintro m σ ⟨k, rfl, hk, rfl⟩
  by_cases hlt : k < s.ws.length
  · obtain ⟨x, hx, e⟩ := at_lt hlt
    have hf1 := List.length_filter_le (fun x : Wt => decide (now < x.dead)) (s.ws.take k)
    have hf2 := List.length_filter_le (fun x : Wt => !decide (now < x.dead)) (s.ws.take k)
    rw [List.length_take] at hf1 hf2
    by_cases hd : now < x.dead
    · simp [hlt, e, hd, wrap_succ hlt hl]
      refine ⟨by omega, _, ?_, _, ⟨k + 1, rfl, hlt, rfl⟩, [], _, rfl, by simp [List.take_add_one, hx, hd]⟩
      omega
    · simp [hlt, e, hd, wrap_succ hlt hl]
      refine ⟨by omega, _, ?_, _, ⟨k + 1, rfl, hlt, rfl⟩, [], _, rfl, by simp [List.take_add_one, hx, hd]⟩
      omega
  obtain rfl : k = s.ws.length := by omega
  simp
  refine vcRet_of [] ?_ rfl
  simp [expire, hc]
theorem rdy_chk {s : St} {now : Int} (h : rdy s now = 0) : chk s = 0 := by
  unfold rdy at h
  split at h
  · rename_i hc; exact absurd h hc
  · rename_i hc; simpa using hc
theorem chk_len {s : St} (h : chk s = 0) : (s.ws.length : Int) ≤ s.most ∧ 0 ≤ s.most ∧ s.most ≤ 64 := by
  unfold chk at h
  split at h
  · cases h
  · rename_i h0
    split at h
    · cases h
    · rename_i h1
      simp [room] at h0
      omega
set_option maxHeartbeats 1000000 in
theorem refJoin_m (s : St) (n now dead : Int) (hl : s.ws.length < 4294967296) : Meets Try.prog 50 [s.pv, .i n, .i now, .i dead] [] (Ret (.tup [(join s n now dead).1.pv, .i (join s n now dead).2])) := by
  refine meets tbOk mixed Try.func50 pl50 rfl rfl ?_
  simp [Try.ntmps50]
  refine (at_m s now hl).mono ?_
  rintro _ rfl
  by_cases hc : rdy s now = 0
  case neg =>
    simp [hc]
    refine vcRet_of [] ?_ rfl
    simp [join, hc]
  have hlm := chk_len (rdy_chk hc)
  simp [hc]
  refine (between_m n 1 1000000000000000).mono ?_
  rintro _ rfl
  have hco : callOk n = inB n 1 1000000000000000 := rfl
  have hde : (decide (0 ≤ dead) && decide (dead ≤ 1000000000001)) = inB dead 0 1000000000001 := rfl
  cases h1 : inB n 1 1000000000000000
  · simp
    refine vcRet_of [] ?_ rfl
    simp [join, hc, hco, h1]
  simp
  refine (between_m dead 0 1000000000001).mono ?_
  rintro _ rfl
  cases h2 : inB dead 0 1000000000001
  · simp
    refine vcRet_of [] ?_ rfl
    simp [join, hc, hco, h1, hde, h2]
  simp
  refine (refFind_m s n hl).mono ?_
  rintro _ rfl
  by_cases hp : 0 ≤ place s.ws n
  · simp [hp]
    refine vcRet_of [] ?_ rfl
    simp [join, hc, hco, h1, hde, h2, hp]
  by_cases hd : dead ≤ now
  · simp [hp, hd]
    refine vcRet_of [] ?_ rfl
    simp [join, hc, hco, h1, hde, h2, hp, hd]
  by_cases hm : (s.ws.length : Int) = s.most
  · simp [hp, hd, hm]
    refine vcRet_of [] ?_ rfl
    simp [join, hc, hco, h1, hde, h2, hp, hd, hm]
  have hm2 : ¬ s.most ≤ (s.ws.length : Int) := by omega
  simp [hp, hd, hm2]
  refine ⟨hl, by omega, vcRet_of [] ?_ rfl⟩
  simp [join, hc, hco, h1, hde, h2, hp, hd, hm]
  exact List.take_of_length_le (by simp)
end Go.Proofs.Ytajkljbcfgegoaa
