/- Contracts: Resize, Remove, Put, and the reference's; the reference's Usable. No condition. -/
import Derived.Test.YtjbpkibhkaagjaaI6
namespace Go.Proofs.Ytjbpkibhkaagjaa
open Go.RowKit

theorem over_max {s : St} {m : Int} : max ((s.cs.length : Int) - m) 0 = (over s m : Int) := by unfold over; omega
theorem over_wrap {s : St} {m : Int} (hm : 0 ≤ m ∧ m ≤ 64) (hl : s.cs.length < 4294967296) : IntKind.i64.wrap ((s.cs.length : Int) - m) = (s.cs.length : Int) - m := small_wrap (by omega)
set_option maxHeartbeats 1000000 in
theorem resize_m (s : St) (m : Int) (hl : s.cs.length < 4294967296) : Meets Try.prog 22 [s.pv, .i m] [] (Ret (.tup [(resize s m).1.pv, .d (nl (resize s m).2.1), .i (resize s m).2.2])) := by
  refine meetsH [] tbOk mixed Try.func22 pl22 rfl rfl ?_
  simp [Try.ntmps22]
  refine (check_m s hl).mono ?_
  rintro _ rfl
  by_cases hc : chk s = 0
  case neg =>
    simp [hc]
    refine vcRet_of [] ?_ rfl
    simp [resize, hc]
  by_cases h1 : m < 0
  · simp [hc, h1]
    refine vcRet_of [] ?_ rfl
    have : inB m 0 64 = false := by simp [inB]; omega
    simp [resize, hc, this]
  by_cases h2 : 64 < m
  · simp [hc, h1, h2]
    refine vcRet_of [] ?_ rfl
    have : inB m 0 64 = false := by simp [inB]; omega
    simp [resize, hc, this]
  have h3 : inB m 0 64 = true := by simp [inB]; omega
  simp [hc, h1, h2, over_wrap (s := s) (m := m) (by omega) hl, over_max]
  refine (split_n (over s m) s.cs hl).mono ?_
  rintro _ rfl
  simp
  refine vcRet_of [] ?_ rfl
  simp [resize, hc, h3]
set_option maxHeartbeats 1000000 in
theorem refResize_m (s : St) (m : Int) (hl : s.cs.length < 4294967296) : Meets Try.prog 42 [s.pv, .i m] [] (Ret (.tup [(resize s m).1.pv, .d (nl (resize s m).2.1), .i (resize s m).2.2])) := by
  refine meetsH [] tbOk mixed Try.func42 pl42 rfl rfl ?_
  simp [Try.ntmps42]
  refine (refCheck_m s hl).mono ?_
  rintro _ rfl
  by_cases hc : chk s = 0
  case neg =>
    simp [hc]
    refine vcRet_of [] ?_ rfl
    simp [resize, hc]
  simp [hc]
  refine (between_m m 0 64).mono ?_
  rintro _ rfl
  cases h3 : inB m 0 64
  · simp
    refine vcRet_of [] ?_ rfl
    simp [resize, hc, h3]
  have hm : 0 ≤ m ∧ m ≤ 64 := by simpa [inB] using h3
  simp
  refine vc_loop (fun n σ => ∃ k : Nat, n = over s m - k ∧ k ≤ over s m ∧ σ = ⟨43, [(8, .rw 8 k), (1, .i m), (2, .ptr 2 0), (4, .ptr 4 0)], [(2, .box 24 [.i m, .i s.idle, .i s.age, .d (cl (s.cs.drop k))]), (4, .box 24 [.i 0, .i 0, .i 0, .d (.v (.slice none 0 0))]), (8, .row 2 1 (((s.cs.take k).map Cn.conn).map nds) false)]⟩) ?_ ?_
  · exact ⟨_, _, ⟨0, rfl, Nat.zero_le _, rfl⟩, [.row 8 2 1], _, rfl, by simp⟩
  rintro n σ ⟨k, rfl, hk, rfl⟩
  have hov : over s m ≤ s.cs.length := by unfold over; omega
  by_cases hlt : k < over s m
  · have hkl : k < s.cs.length := by omega
    obtain ⟨x, hx, e⟩ := at_lt hkl
    have h4 : m < ((s.cs.length - k : Nat) : Int) := by unfold over at hlt; omega
    have h5 : 0 < s.cs.length - k := by omega
    have e5 : min k s.cs.length = k := by omega
    simp [h4, h5, e, e5, hx]
    have e6 : List.take (s.cs.length - k) (List.drop k (List.map Cn.ds s.cs)) = List.drop k (List.map Cn.ds s.cs) := List.take_of_length_le (by simp)
    refine ⟨by omega, by omega, _, ?_, _, ⟨k + 1, rfl, hlt, rfl⟩, [], _, rfl, by simp [List.take_add_one, hx, e5, e6]⟩
    omega
  obtain rfl : k = over s m := by omega
  have h4 : ¬ m < ((s.cs.length - over s m : Nat) : Int) := by unfold over; omega
  have e5 : min (over s m) s.cs.length = over s m := by omega
  simp [h4]
  refine vcRet_of [] ?_ rfl
  simp [resize, hc, h3, e5]
  exact List.take_of_length_le (by simp; omega)
set_option maxHeartbeats 1000000 in
theorem refUsable_m (s : St) (now : Int) (hl : s.cs.length < 4294967296) : Meets Try.prog 44 [s.pv, .i now] [] (Ret (.tup [.d (nl (usable s now).1), .i (usable s now).2])) := by
  refine meetsH [] tbOk mixed Try.func44 pl44 rfl rfl ?_
  simp [Try.ntmps44]
  refine (at_m s now hl).mono ?_
  rintro _ rfl
  by_cases hc : rdy s now = 0
  case neg =>
    simp [hc]
    refine vcRet_of [] ?_ rfl
    simp [usable, hc]
  have hs := small_of hc
  obtain ⟨p, hp⟩ : ∃ p, good s.idle s.age now = p := ⟨_, rfl⟩
  have w0 := small_wrap (a := (s.cs.length : Int) - 1) (by omega)
  simp [hc, w0]
  refine vc_loop (fun n σ => ∃ k : Nat, n = s.cs.length - k ∧ k ≤ s.cs.length ∧ σ = ⟨41, [(8, .i ((s.cs.length : Int) - 1 - k)), (7, .rw 7 ((s.cs.reverse.take k).filter p).length), (1, .i now), (2, .ptr 2 0)], [(2, s.box), (7, .row 2 1 ((((s.cs.reverse.take k).filter p).map Cn.conn).map nds) false)]⟩) ?_ ?_
  · exact ⟨_, _, ⟨0, rfl, Nat.zero_le _, rfl⟩, [.row 7 2 1], _, rfl, by simp⟩
  rintro n σ ⟨k, rfl, hk, rfl⟩
  by_cases hlt : k < s.cs.length
  · obtain ⟨q, hq⟩ : ∃ q, q + 1 + k = s.cs.length := ⟨s.cs.length - 1 - k, by omega⟩
    have hql : q < s.cs.length := by omega
    obtain ⟨x, hx, e⟩ := at_lt hql
    have e1 : (s.cs.length : Int) - 1 - k = (q : Int) := by omega
    have w1 : IntKind.i64.wrap ((q : Int) - 1) = (s.cs.length : Int) - 1 - (k + 1 : Nat) := by rw [small_wrap (by omega)]; omega
    have hr : s.cs.reverse[k]? = some x := by
      rw [List.getElem?_reverse hlt, show s.cs.length - 1 - k = q by omega, hx]
    have hf := List.length_filter_le p (s.cs.reverse.take k)
    rw [List.length_take, List.length_reverse] at hf
    rw [e1]
    simp [hql, e]
    refine effCall (usable1_m s now x (hs x (List.mem_of_getElem? hx))) ?_
    rw [hp]
    cases hd : p x
    · simp [hql, e]
      refine ⟨by kernel_rfl, ?_⟩
      simp [w1]
      refine ⟨_, ?_, _, ⟨k + 1, rfl, hlt, rfl⟩, [], _, rfl, by simp [List.take_add_one, hr, hd]⟩
      omega
    · simp [hql, e]
      refine ⟨by kernel_rfl, ?_⟩
      simp [w1, hql, e]
      refine ⟨by omega, _, ?_, _, ⟨k + 1, rfl, hlt, rfl⟩, [], _, rfl, by simp [List.take_add_one, hr, hd]⟩
      omega
  obtain rfl : k = s.cs.length := by omega
  rw [show ((s.cs.length : Int) - 1 - s.cs.length) = -1 by omega]
  simp
  refine vcRet_of [] ?_ rfl
  simp [usable, hc, left, hp]
  rw [List.take_of_length_le (by simp), List.filter_reverse, List.map_reverse]
abbrev cloneR (xs : List Cn) : Res := ⟨.rw 2000000 xs.length, [], [.row 29 3 (xs.map Cn.ds) false]⟩
theorem clone_m (xs : List Cn) (hl : xs.length < 4294967296) : Meets Try.prog 36 [.d (cl xs)] [] (fun r => r = cloneR xs) := by
  refine meetsH [] tbOk mixed Try.func36 pl36 rfl rfl ?_
  simp [Try.ntmps36]
  refine ⟨⟨hl, vcRet_of [5] ?_ rfl⟩, fun h => vcRet_prep [.row 2 29 3] [2] rfl ?_ rfl⟩
  · simp
  · simp [h]
set_option maxHeartbeats 1000000 in
theorem delete_m (xs : List Cn) (i : Nat) (hi : i < xs.length) (hl : xs.length < 4294967296) : Meets Try.prog 48 [.rw 1000000 xs.length, .i i, .i ((i : Int) + 1)] [.row 29 3 (xs.map Cn.ds) false]
    (fun r => r = ⟨.rw 1000000 (xs.length - 1), [.row 29 3 ((xs.eraseIdx i).map Cn.ds ++ [[.v (.int .i64 0), .v (.int .i64 0), .v (.int .i64 0)]]) false], []⟩) := by
  refine meetsH [] tbOk mixed Try.func48 pl48 rfl rfl ?_
  have h1 : ¬ ((i : Int) = i + 1) := by omega
  have h2 : ¬ (i = xs.length) := by omega
  have e3 : i + (xs.length - (i + 1)) = xs.length - 1 := by omega
  simp [Try.ntmps48, h1, h2, e3]
  refine ⟨⟨by omega, by omega⟩, by omega, ⟨by omega, by omega⟩, by omega, by kernel_rfl, ?_⟩
  refine ⟨by omega, by omega, vcRet_of [] ?_ rfl⟩
  have e4 : List.take (xs.length - (i + 1)) (List.drop (i + 1) (List.map Cn.ds xs)) = List.drop (i + 1) (List.map Cn.ds xs) := List.take_of_length_le (by simp)
  have e5 : xs.length - (xs.length - 1) = 1 := by omega
  have e6 : List.map Cn.ds (xs.eraseIdx i) = List.take i (List.map Cn.ds xs) ++ List.drop (i + 1) (List.map Cn.ds xs) := by rw [List.eraseIdx_eq_take_drop_succ, List.map_append, List.map_take, List.map_drop]
  have e7 : List.take (xs.length - 1) (List.take i (List.map Cn.ds xs) ++ (List.drop (i + 1) (List.map Cn.ds xs) ++ List.drop (xs.length - 1) (List.map Cn.ds xs))) = List.take i (List.map Cn.ds xs) ++ List.drop (i + 1) (List.map Cn.ds xs) := by
    rw [← List.append_assoc]
    exact List.take_left' (by simp; omega)
  have e8 : List.drop xs.length (List.take i (List.map Cn.ds xs) ++ (List.drop (i + 1) (List.map Cn.ds xs) ++ List.drop (xs.length - 1) (List.map Cn.ds xs))) = [] := List.drop_of_length_le (by simp; omega)
  rw [e4, e5, e6]
  simp [e7, e8]
theorem remove_none (s : St) (n : Int) (hc : chk s = 0) (h : place s.cs n < 0) : remove s n = (s, ⟨0, 0, 0⟩, 4) := by simp [remove, hc, h]
theorem remove_at (s : St) (n : Int) (k : Nat) {x : Cn} (hc : chk s = 0) (h : place s.cs n = k) (hx : s.cs[k]? = some x) : remove s n = (⟨s.most, s.idle, s.age, s.cs.eraseIdx k⟩, x, 0) := by
  have : ¬ place s.cs n < 0 := by omega
  simp [remove, hc, h, hx]
set_option maxHeartbeats 2000000 in
theorem remove_m (s : St) (n : Int) (hl : s.cs.length < 4294967296) : Meets Try.prog 26 [s.pv, .i n] [] (Ret (.tup [(remove s n).1.pv, (remove s n).2.1.pv, .i (remove s n).2.2])) := by
  refine meetsH [] tbOk mixed Try.func26 pl26 rfl rfl ?_
  simp [Try.ntmps26]
  refine (check_m s hl).mono ?_
  rintro _ rfl
  by_cases hc : chk s = 0
  case neg =>
    simp [hc]
    refine vcRet_of [] ?_ rfl
    simp [remove, hc]
  simp [hc]
  refine (find_m s.cs n hl).mono ?_
  rintro _ rfl
  by_cases h0 : place s.cs n < 0
  · simp [h0]
    refine vcRet_of [] ?_ rfl
    simp [remove_none s n hc h0]
  obtain ⟨k, hk⟩ : ∃ k : Nat, place s.cs n = k := ⟨_, (Int.toNat_of_nonneg (by omega)).symm⟩
  have hlt : k < s.cs.length := by
    have := idx_range (fun x : Cn => x.conn == n) s.cs 0
    unfold place at hk
    omega
  obtain ⟨x, hx, e⟩ := at_lt hlt
  have e9 := remove_at s n k hc hk hx
  have h1 : ¬ (k : Int) < 0 := by omega
  simp [hk, h1, hlt, e]
  refine (clone_m s.cs hl).mono ?_
  rintro _ rfl
  simp [wrap_succ hlt hl]
  refine (delete_m s.cs k hlt hl).mono ?_
  rintro _ rfl
  simp
  refine ⟨by kernel_rfl, vcRet_of [] ?_ rfl⟩
  simp [e9, List.length_eraseIdx, hlt]
set_option maxRecDepth 20000 in
set_option maxHeartbeats 2000000 in
theorem refRemove_m (s : St) (n : Int) (hl : s.cs.length < 4294967296) : Meets Try.prog 41 [s.pv, .i n] [] (Ret (.tup [(remove s n).1.pv, (remove s n).2.1.pv, .i (remove s n).2.2])) := by
  refine meetsH [] tbOk mixed Try.func41 pl41 rfl rfl ?_
  simp [Try.ntmps41]
  refine (refCheck_m s hl).mono ?_
  rintro _ rfl
  by_cases hc : chk s = 0
  case neg =>
    simp [hc]
    refine vcRet_of [] ?_ rfl
    simp [remove, hc]
  simp [hc]
  refine (refFind_m s n hl).mono ?_
  rintro _ rfl
  by_cases h0 : place s.cs n < 0
  · simp [h0]
    refine vcRet_of [] ?_ rfl
    simp [remove_none s n hc h0]
  obtain ⟨k, hk⟩ : ∃ k : Nat, place s.cs n = k := ⟨_, (Int.toNat_of_nonneg (by omega)).symm⟩
  have hlt : k < s.cs.length := by
    have := idx_range (fun x : Cn => x.conn == n) s.cs 0
    unfold place at hk
    omega
  obtain ⟨x, hx, e⟩ := at_lt hlt
  have e9 := remove_at s n k hc hk hx
  have h1 : ¬ (k : Int) < 0 := by omega
  simp [hk, h1, hlt, e, wrap_succ hlt hl]
  refine ⟨by omega, by omega, by omega, by omega, by kernel_rfl, by kernel_rfl, vcRet_of [] ?_ rfl⟩
  simp [e9]
  rw [List.eraseIdx_eq_take_drop_succ, List.map_append, List.map_take, List.map_drop]
  exact List.take_of_length_le (by simp)
end Go.Proofs.Ytjbpkibhkaagjaa
