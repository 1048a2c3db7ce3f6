/- Contracts: the waiters' Next, Expire, Drain, Clone, Join. No condition. -/
import Derived.Test.YtajkljbcfgegoaaU7
namespace Go.Proofs.Ytajkljbcfgegoaa
open Go.RowKit

set_option maxHeartbeats 1000000 in
theorem next_m (s : St) (hl : s.ws.length < 4294967296) : Meets Try.prog 14 [s.pv] [] (Ret (.tup [.i (next s).1, .i (next s).2])) := by
  refine meets tbOk mixed Try.func14 pl14 rfl rfl ?_
  simp [Try.ntmps14]
  refine (check_m s hl).mono ?_
  rintro _ rfl
  by_cases hc : chk s = 0
  case neg =>
    simp [hc]
    refine vcRet_of [] ?_ rfl
    simp [next, hc]
  simp [hc]
  refine vc_loop (fun m σ => ∃ k : Nat, m = s.ws.length - k ∧ k ≤ s.ws.length ∧ σ = ⟨28, [(16, .i k), (15, .i s.ws.length), (14, .d (wl s.ws)), (5, .i (least (s.ws.take k)))], []⟩) ?_ ?_
  · exact ⟨_, _, ⟨0, rfl, Nat.zero_le _, rfl⟩, [], _, rfl, by simp [least]⟩
  rintro m σ ⟨k, rfl, hk, rfl⟩
  by_cases hlt : k < s.ws.length
  · obtain ⟨x, hx, e⟩ := at_lt hlt
    simp [hlt, e, wrap_succ hlt hl]
    refine ⟨_, ?_, _, ⟨k + 1, rfl, hlt, rfl⟩, [], _, rfl, by simp [least_succ hx]⟩
    omega
  obtain rfl : k = s.ws.length := by omega
  by_cases h9 : least s.ws = 1000000000001
  · simp [h9]
    refine vcRet_of [] ?_ rfl
    simp [next, hc, h9]
  · simp [h9]
    refine vcRet_of [] ?_ rfl
    simp [next, hc, h9]
set_option maxHeartbeats 1000000 in
theorem expire_m (s : St) (now : Int) (hl : s.ws.length < 4294967296) : Meets Try.prog 15 [s.pv, .i now] [] (Ret (.tup [(expire s now).1.pv, .d (wl (expire s now).2.1), .i (expire s now).2.2])) := by
  refine meets tbOk mixed Try.func15 pl15 rfl rfl ?_
  simp [Try.ntmps15]
  refine (ready_m s now hl).mono ?_
  rintro _ rfl
  by_cases hc : rdy s now = 0
  case neg =>
    simp [hc, St.box]
    refine vcRet_of [] ?_ rfl
    simp [expire, hc]
  simp [hc, St.box]
  refine (divide_1 33 2 (.v (.int .i64 now)) (fun x => decide (now < x.dead)) s.ws hl (fun x _ => expire1_m x now)).mono ?_
  rintro _ rfl
  simp
  refine vcRet_of [] ?_ rfl
  simp [expire, hc]
def CloneRes (xs : List Wt) (r : Res) : Prop := (xs = [] ∧ r = ⟨.d (.v (.slice none 0 0)), [], []⟩) ∨ r = ⟨.rw 2000000 xs.length, [], [.row 29 3 (xs.map Wt.cs) false]⟩
theorem clone_m (xs : List Wt) (hl : xs.length < 4294967296) : Meets Try.prog 37 [.d (wl xs)] [] (CloneRes xs) := by
  refine meets tbOk mixed Try.func37 pl37 rfl rfl ?_
  simp [Try.ntmps37]
  refine ⟨⟨hl, vcRet_of [5] ?_ (.inr rfl)⟩, fun h => vcRet_of [] ?_ (.inl ⟨h, rfl⟩)⟩
  · simp
  · simp
theorem drain1_m (x : Wt) : Meets Try.prog 42 [x.pv] [] (Ret (.b false)) := by
  refine meets tbOk mixed Try.func42 pl42 rfl rfl ?_
  simp [Try.ntmps42]
  refine vcRet_of [] ?_ rfl
  simp
set_option maxHeartbeats 1000000 in
theorem divide_0 (f : Nat) (p : Wt → Bool) (xs : List Wt) (hl : xs.length < 4294967296) (hp : ∀ x ∈ xs, Meets Try.prog f [x.pv] [] (Ret (.b (p x)))) :
    Meets Try.prog 32 [.d (wl xs), .clo f []] [] (Ret (.tup [.d (wl (xs.filter p)), .d (wl (xs.filter fun x => !p x))])) := by
  refine meets tbOk mixed Try.func32 pl32 rfl rfl ?_
  simp [Try.ntmps32]
  refine vc_loop (fun m σ => ∃ k : Nat, m = xs.length - k ∧ k ≤ xs.length ∧ σ = ⟨28, [(10, .i k), (9, .i xs.length), (8, .d (wl xs)), (4, .rw 4 ((xs.take k).filter p).length), (5, .rw 5 ((xs.take k).filter fun x => !p x).length), (1, .clo f [])],
    [(4, .row 29 3 (((xs.take k).filter p).map Wt.cs) false), (5, .row 29 3 (((xs.take k).filter fun x => !p x).map Wt.cs) false)]⟩) ?_ ?_
  · exact ⟨_, _, ⟨0, rfl, Nat.zero_le _, rfl⟩, [.row 4 29 3, .row 5 29 3], _, rfl, by simp⟩
  rintro m σ ⟨k, rfl, hk, rfl⟩
  by_cases hlt : k < xs.length
  · obtain ⟨x, hx, e⟩ := at_lt hlt
    have hf1 := List.length_filter_le p (xs.take k)
    have hf2 := List.length_filter_le (fun x : Wt => !p x) (xs.take k)
    rw [List.length_take] at hf1 hf2
    simp [hlt, e]
    refine (hp x (List.mem_of_getElem? hx)).mono ?_
    rintro _ rfl
    cases hd : p x
    · simp [wrap_succ hlt hl]
      refine ⟨by omega, _, ?_, _, ⟨k + 1, rfl, hlt, rfl⟩, [], _, rfl, by simp [List.take_add_one, hx, hd]⟩
      omega
    · simp [wrap_succ hlt hl]
      refine ⟨by omega, _, ?_, _, ⟨k + 1, rfl, hlt, rfl⟩, [], _, rfl, by simp [List.take_add_one, hx, hd]⟩
      omega
  obtain rfl : k = xs.length := by omega
  simp
  refine vcRet_of [] ?_ rfl
  simp
set_option maxHeartbeats 1000000 in
theorem drain_m (s : St) (hl : s.ws.length < 4294967296) : Meets Try.prog 23 [s.pv] [] (Ret (.tup [(drain s).1.pv, .d (wl (drain s).2.1), .i (drain s).2.2])) := by
  refine meets tbOk mixed Try.func23 pl23 rfl rfl ?_
  simp [Try.ntmps23]
  refine (check_m s hl).mono ?_
  rintro _ rfl
  by_cases hc : chk s = 0
  case neg =>
    simp [hc]
    refine vcRet_of [] ?_ rfl
    simp [drain, hc]
  simp [hc]
  refine (divide_0 42 (fun _ => false) s.ws hl (fun x _ => drain1_m x)).mono ?_
  rintro _ rfl
  simp
  refine vcRet_of [] ?_ rfl
  simp [drain, hc]
  rw [List.filter_eq_self.2 (by simp)]
set_option maxHeartbeats 2000000 in
theorem join_m (s : St) (n now dead : Int) (hl : s.ws.length < 4294967296) : Meets Try.prog 17 [s.pv, .i n, .i now, .i dead] [] (Ret (.tup [(join s n now dead).1.pv, .i (join s n now dead).2])) := by
  refine meets tbOk mixed Try.func17 pl17 rfl rfl ?_
  simp [Try.ntmps17]
  refine (ready_m s now hl).mono ?_
  rintro _ rfl
  by_cases hc : rdy s now = 0
  case neg =>
    simp [hc, St.box]
    refine vcRet_of [] ?_ rfl
    simp [join, hc]
  have hlm := chk_len (rdy_chk hc)
  simp [hc, St.box]
  refine (call_m n).mono ?_
  rintro _ rfl
  simp
  refine (all_m [callOk n, decide (0 ≤ dead), decide (dead ≤ 1000000000001)] (by simp)).mono ?_
  rintro _ rfl
  cases h1 : callOk n
  · simp
    refine vcRet_of [] ?_ rfl
    simp [join, hc, h1]
  by_cases h2 : 0 ≤ dead
  case neg =>
    simp [h2]
    refine vcRet_of [] ?_ rfl
    simp [join, hc, h1, h2]
  by_cases h3 : dead ≤ 1000000000001
  case neg =>
    simp [h2, h3]
    refine vcRet_of [] ?_ rfl
    simp [join, hc, h1, h2, h3]
  simp [h2, h3]
  refine (find_m s.ws n hl).mono ?_
  rintro _ rfl
  by_cases hp : 0 ≤ place s.ws n
  · simp [hp]
    refine vcRet_of [] ?_ rfl
    simp [join, hc, h1, h2, h3, hp]
  by_cases hd : dead ≤ now
  · simp [hp, hd]
    refine vcRet_of [] ?_ rfl
    simp [join, hc, h1, h2, h3, hp, hd]
  by_cases hm : (s.ws.length : Int) = s.most
  · simp [hp, hd, hm]
    refine vcRet_of [] ?_ rfl
    simp [join, hc, h1, h2, h3, hp, hd, hm]
  simp [hp, hd, hm]
  have hj : join s n now dead = (⟨s.most, s.ws ++ [⟨n, now, dead⟩]⟩, 0) := by simp [join, hc, h1, h2, h3, hp, hd, hm]
  refine (clone_m s.ws hl).mono ?_
  rintro _ (⟨h0, rfl⟩ | rfl)
  · simp
    refine vcRet_of [] ?_ rfl
    simp [hj, h0]
  · simp
    refine ⟨by omega, vcRet_of [] ?_ rfl⟩
    simp [hj]
    exact List.take_of_length_le (by simp)
theorem resize1_m (x : Wt) (k m : Int) (hk : IntKind.i64.wrap (k + 1) = k + 1) : Meets Try.prog 39 [x.pv, .ptr 1000000 0, .ptr 1000001 0] [.box 3 [.i k], .box 3 [.i m]] (fun r => r = ⟨.b (decide (k + 1 ≤ m)), [.box 3 [.i (k + 1)], .box 3 [.i m]], []⟩) := by
  refine meets tbOk mixed Try.func39 pl39 rfl rfl ?_
  simp [Try.ntmps39, hk]
  refine vcRet_of [] ?_ rfl
  simp
set_option maxHeartbeats 1000000 in
/-- divide with Resize's function, that counts. -/
theorem divide_2 (m : Int) (xs : List Wt) (hl : xs.length < 4294967296) (hm : 0 ≤ m) :
    Meets Try.prog 32 [.d (wl xs), .clo 39 [.ptr 1000000 0, .ptr 1000001 0]] [.box 3 [.i 0], .box 3 [.i m]] (fun r => r = ⟨.tup [.d (wl (xs.take m.toNat)), .d (wl (xs.drop m.toNat))], [.box 3 [.i xs.length], .box 3 [.i m]], []⟩) := by
  refine meets tbOk mixed Try.func32 pl32 rfl rfl ?_
  simp [Try.ntmps32]
  refine vc_loop (fun n σ => ∃ k : Nat, n = xs.length - k ∧ k ≤ xs.length ∧ σ = ⟨28, [(10, .i k), (9, .i xs.length), (8, .d (wl xs)), (4, .rw 4 ((xs.take k).take m.toNat).length), (5, .rw 5 ((xs.take k).drop m.toNat).length), (1, .clo 39 [.ptr 1000000 0, .ptr 1000001 0])],
    [(1000000, .box 3 [.i k]), (1000001, .box 3 [.i m]), (4, .row 29 3 (((xs.take k).take m.toNat).map Wt.cs) false), (5, .row 29 3 (((xs.take k).drop m.toNat).map Wt.cs) false)]⟩) ?_ ?_
  · exact ⟨_, _, ⟨0, rfl, Nat.zero_le _, rfl⟩, [.row 4 29 3, .row 5 29 3], _, rfl, by simp⟩
  rintro n σ ⟨k, rfl, hk, rfl⟩
  by_cases hlt : k < xs.length
  · obtain ⟨x, hx, e⟩ := at_lt hlt
    simp [hlt, e]
    refine (resize1_m x k m (wrap_succ hlt hl)).mono ?_
    rintro _ rfl
    by_cases hd : (k : Int) + 1 ≤ m
    · simp [hd, wrap_succ hlt hl]
      refine ⟨by omega, _, ?_, _, ⟨k + 1, rfl, hlt, rfl⟩, [], _, rfl, ?_⟩
      · omega
      · simp
        have hL : (List.map Wt.cs xs)[k]? = some x.cs := by simp [hx]
        rw [List.take_add_one, hL]
        refine ⟨⟨by omega, by omega⟩, ?_, ?_⟩
        · rw [List.take_of_length_le (i := m.toNat) (l := List.take k (List.map Wt.cs xs)) (by simp; omega), List.take_of_length_le (i := m.toNat) (l := List.take k (List.map Wt.cs xs) ++ (some x.cs).toList) (by simp; omega)]
          rfl
        · rw [List.drop_of_length_le (i := m.toNat) (l := List.take k (List.map Wt.cs xs)) (by simp; omega), List.drop_of_length_le (i := m.toNat) (l := List.take k (List.map Wt.cs xs) ++ (some x.cs).toList) (by simp; omega)]
    · simp [hd, wrap_succ hlt hl]
      refine ⟨by omega, _, ?_, _, ⟨k + 1, rfl, hlt, rfl⟩, [], _, rfl, ?_⟩
      · omega
      · simp
        have hL : (List.map Wt.cs xs)[k]? = some x.cs := by simp [hx]
        rw [List.take_add_one, hL]
        refine ⟨⟨by omega, by omega⟩, ?_, ?_⟩
        · rw [List.take_append_of_le_length (by simp; omega)]
        · rw [List.drop_append_of_le_length (by simp; omega)]
          rfl
  obtain rfl : k = xs.length := by omega
  simp
  refine vcRet_of [] ?_ rfl
  simp
  exact ⟨List.take_of_length_le (by simp), List.take_of_length_le (by simp)⟩
set_option maxHeartbeats 1000000 in
theorem resize_m (s : St) (m : Int) (hl : s.ws.length < 4294967296) : Meets Try.prog 20 [s.pv, .i m] [] (Ret (.tup [(resize s m).1.pv, .d (wl (resize s m).2.1), .i (resize s m).2.2])) := by
  refine meets tbOk mixed Try.func20 pl20 rfl rfl ?_
  simp [Try.ntmps20]
  refine (check_m s hl).mono ?_
  rintro _ rfl
  by_cases hc : chk s = 0
  case neg =>
    simp [hc]
    refine vcRet_of [] ?_ rfl
    simp [resize, hc]
  simp [hc]
  refine (room_m m).mono ?_
  rintro _ rfl
  cases hr : room m
  · simp
    refine vcRet_of [] ?_ rfl
    simp [resize, hc, hr]
  have hm : 0 ≤ m := by simp [room] at hr; omega
  simp
  refine (divide_2 m s.ws hl hm).mono ?_
  rintro _ rfl
  simp
  refine vcRet_of [] ?_ rfl
  simp [resize, hc, hr]
end Go.Proofs.Ytajkljbcfgegoaa
