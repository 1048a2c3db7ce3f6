/- Contracts: the waiters' New, Clone, Place, Next, Expire. No condition. -/
import Derived.Test.YtajkljbcfgegoaaU6
namespace Go.Proofs.Ytajkljbcfgegoaa
open Go.RowKit

theorem new_m (m : Int) : Meets Try.prog 19 [.i m] [] (Ret (.tup [(new m).1.pv, .i (new m).2])) := by
  refine meets tbOk mixed Try.func19 pl19 rfl rfl ?_
  simp [Try.ntmps19]
  refine (room_m m).mono ?_
  rintro _ rfl
  cases hr : room m
  · simp
    refine vcRet_of [] ?_ rfl
    simp [new, hr]
  · simp
    refine vcRet_of [] ?_ rfl
    simp [new, hr]
set_option maxHeartbeats 1000000 in
theorem place_m (s : St) (n : Int) (hl : s.ws.length < 4294967296) : Meets Try.prog 18 [s.pv, .i n] [] (Ret (.tup [.i (where_ s n).1, .i (where_ s n).2])) := by
  refine meets tbOk mixed Try.func18 pl18 rfl rfl ?_
  simp [Try.ntmps18]
  refine (check_m s hl).mono ?_
  rintro _ rfl
  by_cases hc : chk s = 0
  case neg =>
    simp [hc]
    refine vcRet_of [] ?_ rfl
    simp [where_, hc]
  simp [hc]
  refine (find_m s.ws n hl).mono ?_
  rintro _ rfl
  by_cases hp : 0 ≤ place s.ws n
  · simp [hp]
    refine vcRet_of [] ?_ rfl
    simp [where_, hc, hp]
  · simp [hp]
    refine vcRet_of [] ?_ rfl
    simp [where_, hc, hp]
theorem expire1_m (x : Wt) (now : Int) : Meets Try.prog 33 [x.pv, .ptr 1000000 0] [.box 2 [.i now]] (fun r => r = ⟨.b (decide (now < x.dead)), [.box 2 [.i now]], []⟩) := by
  refine meets tbOk mixed Try.func33 pl33 rfl rfl ?_
  simp [Try.ntmps33]
  refine vcRet_of [] ?_ rfl
  simp
theorem serve1_m (x : Wt) (now : Int) : Meets Try.prog 30 [x.pv, .ptr 1000000 0] [.box 2 [.i now]] (fun r => r = ⟨.b (decide (now < x.dead)), [.box 2 [.i now]], []⟩) := by
  refine meets tbOk mixed Try.func30 pl30 rfl rfl ?_
  simp [Try.ntmps30]
  refine vcRet_of [] ?_ rfl
  simp
set_option maxHeartbeats 1000000 in
theorem divide_1 (f : Nat) (t : Nat) (v : D) (p : Wt → Bool) (xs : List Wt) (hl : xs.length < 4294967296) (hp : ∀ x ∈ xs, Meets Try.prog f [x.pv, .ptr 1000000 0] [.box t [.d v]] (fun r => r = ⟨.b (p x), [.box t [.d v]], []⟩)) :
    Meets Try.prog 32 [.d (wl xs), .clo f [.ptr 1000000 0]] [.box t [.d v]] (fun r => r = ⟨.tup [.d (wl (xs.filter p)), .d (wl (xs.filter fun x => !p x))], [.box t [.d v]], []⟩) := by
  refine meets tbOk mixed Try.func32 pl32 rfl rfl ?_
  simp [Try.ntmps32]
  refine vc_loop (fun m σ => ∃ k : Nat, m = xs.length - k ∧ k ≤ xs.length ∧ σ = ⟨28, [(10, .i k), (9, .i xs.length), (8, .d (wl xs)), (4, .rw 4 ((xs.take k).filter p).length), (5, .rw 5 ((xs.take k).filter fun x => !p x).length), (1, .clo f [.ptr 1000000 0])],
    [(1000000, .box t [.d v]), (4, .row 29 3 (((xs.take k).filter p).map Wt.cs) false), (5, .row 29 3 (((xs.take k).filter fun x => !p x).map Wt.cs) false)]⟩) ?_ ?_
  · exact ⟨_, _, ⟨0, rfl, Nat.zero_le _, rfl⟩, [.row 4 29 3, .row 5 29 3], _, rfl, by simp⟩
  rintro m σ ⟨k, rfl, hk, rfl⟩
  by_cases hlt : k < xs.length
  · obtain ⟨x, hx, e⟩ := at_lt hlt
    have hf1 := List.length_filter_le p (xs.take k)
    have hf2 := List.length_filter_le (fun x : Wt => !p x) (xs.take k)
    rw [List.length_take] at hf1 hf2
    simp [hlt, e]
    refine (hp x (List.mem_of_getElem? hx)).mono ?_
    rintro _ rfl
    cases hd : p x
    · simp [wrap_succ hlt hl]
      refine ⟨by omega, _, ?_, _, ⟨k + 1, rfl, hlt, rfl⟩, [], _, rfl, by simp [List.take_add_one, hx, hd]⟩
      omega
    · simp [wrap_succ hlt hl]
      refine ⟨by omega, _, ?_, _, ⟨k + 1, rfl, hlt, rfl⟩, [], _, rfl, by simp [List.take_add_one, hx, hd]⟩
      omega
  obtain rfl : k = xs.length := by omega
  simp
  refine vcRet_of [] ?_ rfl
  simp
end Go.Proofs.Ytajkljbcfgegoaa
