/- Contracts: Next, Resize, Drain, and the reference's; the reference's Usable. No condition. -/
import Derived.Test.YtjbpkibhkaagjaaI5
namespace Go.Proofs.Ytjbpkibhkaagjaa
open Go.RowKit

@[simp] theorem take_map_ds (xs : List Cn) : List.take xs.length (List.map Cn.ds xs) = List.map Cn.ds xs := List.take_of_length_le (by simp)
@[simp] theorem take_map_nds (xs : List Cn) : List.take xs.length (List.map (nds ∘ Cn.conn) xs) = List.map (nds ∘ Cn.conn) xs := List.take_of_length_le (by simp)
theorem sums {s : St} (hc : chk s = 0) {x : Cn} (hx : x ∈ s.cs) : IntKind.i64.wrap (x.since + s.idle) = x.since + s.idle ∧ IntKind.i64.wrap (x.born + s.age) = x.born + s.age := by
  have h1 := chk_mem hc hx
  have h2 := chk_nums hc
  simp [nums, inB] at h2
  exact ⟨small_wrap (by omega), small_wrap (by omega)⟩
set_option maxRecDepth 20000 in
set_option maxHeartbeats 1000000 in
theorem next_m (s : St) (hl : s.cs.length < 4294967296) : Meets Try.prog 15 [s.pv] [] (Ret (.tup [.i (next s).1, .i (next s).2])) := by
  refine meetsH [] tbOk mixed Try.func15 pl15 rfl rfl ?_
  simp [Try.ntmps15]
  refine (check_m s hl).mono ?_
  rintro _ rfl
  by_cases hc : chk s = 0
  case neg =>
    simp [hc]
    refine vcRet_of [] ?_ rfl
    simp [next, hc]
  simp [hc]
  refine vc_loop (fun m σ => ∃ k : Nat, m = s.cs.length - k ∧ k ≤ s.cs.length ∧ σ = ⟨36, [(16, .i k), (15, .i s.cs.length), (14, .d (cl s.cs)), (5, .i (least s (s.cs.take k))), (1, .ptr 1 0)], [(1, s.box)]⟩) ?_ ?_
  · exact ⟨_, _, ⟨0, rfl, Nat.zero_le _, rfl⟩, [], _, rfl, by simp [least]⟩
  rintro m σ ⟨k, rfl, hk, rfl⟩
  by_cases hlt : k < s.cs.length
  · obtain ⟨x, hx, e⟩ := at_lt hlt
    obtain ⟨w1, w2⟩ := sums hc (List.mem_of_getElem? hx)
    simp [hlt, e, w1, w2, wrap_succ hlt hl]
    refine ⟨_, ?_, _, ⟨k + 1, rfl, hlt, rfl⟩, [], _, rfl, by simp [least_succ hx]⟩
    omega
  obtain rfl : k = s.cs.length := by omega
  by_cases h9 : 1000000000000 < least s s.cs
  · simp [h9]
    refine vcRet_of [] ?_ rfl
    simp [next, hc, h9]
  · simp [h9]
    refine vcRet_of [] ?_ rfl
    simp [next, hc, h9]
set_option maxRecDepth 20000 in
set_option maxHeartbeats 1000000 in
theorem refNext_m (s : St) (hl : s.cs.length < 4294967296) : Meets Try.prog 43 [s.pv] [] (Ret (.tup [.i (next s).1, .i (next s).2])) := by
  refine meetsH [] tbOk mixed Try.func43 pl43 rfl rfl ?_
  simp [Try.ntmps43]
  refine (refCheck_m s hl).mono ?_
  rintro _ rfl
  by_cases hc : chk s = 0
  case neg =>
    simp [hc]
    refine vcRet_of [] ?_ rfl
    simp [next, hc]
  simp [hc]
  refine vc_loop (fun m σ => ∃ k : Nat, m = s.cs.length - k ∧ k ≤ s.cs.length ∧ σ = ⟨42, [(6, .i k), (5, .i (least s (s.cs.take k))), (1, .ptr 1 0)], [(1, s.box)]⟩) ?_ ?_
  · exact ⟨_, _, ⟨0, rfl, Nat.zero_le _, rfl⟩, [], _, rfl, by simp [least]⟩
  rintro m σ ⟨k, rfl, hk, rfl⟩
  by_cases hlt : k < s.cs.length
  · obtain ⟨x, hx, e⟩ := at_lt hlt
    obtain ⟨w1, w2⟩ := sums hc (List.mem_of_getElem? hx)
    simp [hlt, e, w1, w2, wrap_succ hlt hl]
    refine ⟨by kernel_rfl, _, ?_, _, ⟨k + 1, rfl, hlt, rfl⟩, [], _, rfl, by simp [least_succ hx]⟩
    omega
  obtain rfl : k = s.cs.length := by omega
  by_cases h9 : 1000000000000 < least s s.cs
  · simp [h9]
    refine vcRet_of [] ?_ rfl
    simp [next, hc, h9]
  · simp [h9]
    refine vcRet_of [] ?_ rfl
    simp [next, hc, h9]
theorem drain1_m (x : Cn) : Meets Try.prog 49 [x.pv] [] (Ret (.b false)) := by
  refine meetsH [] tbOk mixed Try.func49 pl49 rfl rfl ?_
  simp [Try.ntmps49]
  refine vcRet_of [] ?_ rfl
  simp
set_option maxHeartbeats 1000000 in
theorem split_0 (xs : List Cn) (hl : xs.length < 4294967296) : Meets Try.prog 32 [.d (cl xs), .clo 49 []] [] (Ret (.tup [.d (cl []), .d (nl (cns xs))])) := by
  refine meetsH [] tbOk mixed Try.func32 pl32 rfl rfl ?_
  simp [Try.ntmps32]
  refine vc_loop (fun m σ => ∃ k : Nat, m = xs.length - k ∧ k ≤ xs.length ∧ σ = ⟨29, [(10, .i k), (9, .i xs.length), (8, .d (cl xs)), (4, .d (.v (.slice none 0 0))), (5, .rw 5 k), (1, .clo 49 [])],
    [(5, .row 2 1 (((xs.take k).map Cn.conn).map nds) false)]⟩) ?_ ?_
  · exact ⟨_, _, ⟨0, rfl, Nat.zero_le _, rfl⟩, [.row 5 2 1], _, rfl, by simp⟩
  rintro m σ ⟨k, rfl, hk, rfl⟩
  by_cases hlt : k < xs.length
  · obtain ⟨x, hx, e⟩ := at_lt hlt
    simp [hlt, e]
    refine (drain1_m x).mono ?_
    rintro _ rfl
    have e5 : min k xs.length = k := by omega
    simp [wrap_succ hlt hl, e5]
    refine ⟨by omega, _, ?_, _, ⟨k + 1, rfl, hlt, rfl⟩, [], _, rfl, by simp [List.take_add_one, hx, e5]⟩
    omega
  obtain rfl : k = xs.length := by omega
  simp
  refine vcRet_of [] ?_ rfl
  simp
set_option maxHeartbeats 1000000 in
theorem drain_m (s : St) (hl : s.cs.length < 4294967296) : Meets Try.prog 27 [s.pv] [] (Ret (.tup [(drain s).1.pv, .d (nl (drain s).2.1), .i (drain s).2.2])) := by
  refine meetsH [] tbOk mixed Try.func27 pl27 rfl rfl ?_
  simp [Try.ntmps27]
  refine (check_m s hl).mono ?_
  rintro _ rfl
  by_cases hc : chk s = 0
  case neg =>
    simp [hc]
    refine vcRet_of [] ?_ rfl
    simp [drain, hc]
  simp [hc]
  refine (split_0 s.cs hl).mono ?_
  rintro _ rfl
  simp
  refine vcRet_of [] ?_ rfl
  simp [drain, hc]
set_option maxHeartbeats 1000000 in
theorem refDrain_m (s : St) (hl : s.cs.length < 4294967296) : Meets Try.prog 45 [s.pv] [] (Ret (.tup [(drain s).1.pv, .d (nl (drain s).2.1), .i (drain s).2.2])) := by
  refine meetsH [] tbOk mixed Try.func45 pl45 rfl rfl ?_
  simp [Try.ntmps45]
  refine (refCheck_m s hl).mono ?_
  rintro _ rfl
  by_cases hc : chk s = 0
  case neg =>
    simp [hc]
    refine vcRet_of [] ?_ rfl
    simp [drain, hc]
  simp [hc]
  refine vc_loop (fun m σ => ∃ k : Nat, m = s.cs.length - k ∧ k ≤ s.cs.length ∧ σ = ⟨33, [(7, .i k), (6, .rw 6 k), (1, .ptr 1 0), (2, .ptr 2 0)], [(1, s.box), (2, .box 24 [.i 0, .i 0, .i 0, .d (.v (.slice none 0 0))]), (6, .row 2 1 (((s.cs.take k).map Cn.conn).map nds) false)]⟩) ?_ ?_
  · exact ⟨_, _, ⟨0, rfl, Nat.zero_le _, rfl⟩, [.row 6 2 1], _, rfl, by simp⟩
  rintro m σ ⟨k, rfl, hk, rfl⟩
  by_cases hlt : k < s.cs.length
  · obtain ⟨x, hx, e⟩ := at_lt hlt
    have e5 : min k s.cs.length = k := by omega
    simp [hlt, e, wrap_succ hlt hl, e5]
    refine ⟨by omega, _, ?_, _, ⟨k + 1, rfl, hlt, rfl⟩, [], _, rfl, by simp [List.take_add_one, hx, e5]⟩
    omega
  obtain rfl : k = s.cs.length := by omega
  simp
  refine vcRet_of [] ?_ rfl
  simp [drain, hc]
theorem resize1_m (x : Cn) (k m : Int) (hk : IntKind.i64.wrap (k + 1) = k + 1) : Meets Try.prog 38 [x.pv, .ptr 1000000 0, .ptr 1000001 0] [.box 3 [.i k], .box 3 [.i m]] (fun r => r = ⟨.b (decide (m < k + 1)), [.box 3 [.i (k + 1)], .box 3 [.i m]], []⟩) := by
  refine meetsH [] tbOk mixed Try.func38 pl38 rfl rfl ?_
  simp [Try.ntmps38, hk]
  refine vcRet_of [] ?_ rfl
  simp
set_option maxHeartbeats 1000000 in
/-- split with Resize's function, that counts. -/
theorem split_n (o : Nat) (xs : List Cn) (hl : xs.length < 4294967296) :
    Meets Try.prog 32 [.d (cl xs), .clo 38 [.ptr 1000000 0, .ptr 1000001 0]] [.box 3 [.i 0], .box 3 [.i o]] (fun r => r = ⟨.tup [.d (cl (xs.drop o)), .d (nl (cns (xs.take o)))], [.box 3 [.i xs.length], .box 3 [.i o]], []⟩) := by
  refine meetsH [] tbOk mixed Try.func32 pl32 rfl rfl ?_
  simp [Try.ntmps32]
  refine vc_loop (fun n σ => ∃ k : Nat, n = xs.length - k ∧ k ≤ xs.length ∧ σ = ⟨29, [(10, .i k), (9, .i xs.length), (8, .d (cl xs)), (4, .rw 4 ((xs.take k).drop o).length), (5, .rw 5 ((xs.take k).take o).length), (1, .clo 38 [.ptr 1000000 0, .ptr 1000001 0])],
    [(1000000, .box 3 [.i k]), (1000001, .box 3 [.i o]), (4, .row 29 3 (((xs.take k).drop o).map Cn.ds) false), (5, .row 2 1 ((((xs.take k).take o).map Cn.conn).map nds) false)]⟩) ?_ ?_
  · exact ⟨_, _, ⟨0, rfl, Nat.zero_le _, rfl⟩, [.row 4 29 3, .row 5 2 1], _, rfl, by simp⟩
  rintro n σ ⟨k, rfl, hk, rfl⟩
  by_cases hlt : k < xs.length
  · obtain ⟨x, hx, e⟩ := at_lt hlt
    simp [hlt, e]
    refine (resize1_m x k o (wrap_succ hlt hl)).mono ?_
    rintro _ rfl
    have hf1 : ((xs.take k).drop o).length ≤ k := by simp; omega
    have hf2 : ((xs.take k).take o).length ≤ k := by simp; omega
    have hL : (List.map Cn.ds xs)[k]? = some x.ds := by simp [hx]
    have hM : (List.map (nds ∘ Cn.conn) xs)[k]? = some (nds x.conn) := by simp [hx]
    by_cases hd : (o : Int) < (k : Int) + 1
    · simp [hd, wrap_succ hlt hl]
      refine ⟨by omega, _, ?_, _, ⟨k + 1, rfl, hlt, rfl⟩, [], _, rfl, ?_⟩
      · omega
      · simp
        rw [List.take_add_one, hL, List.take_add_one, hM]
        refine ⟨⟨by omega, by omega⟩, ?_, ?_⟩
        · rw [List.drop_append_of_le_length (by simp; omega)]
          rfl
        · rw [List.take_append_of_le_length (by simp; omega)]
    · simp [hd, wrap_succ hlt hl]
      refine ⟨by omega, _, ?_, _, ⟨k + 1, rfl, hlt, rfl⟩, [], _, rfl, ?_⟩
      · omega
      · simp
        rw [List.take_add_one, hL, List.take_add_one, hM]
        refine ⟨⟨by omega, by omega⟩, ?_, ?_⟩
        · rw [List.drop_of_length_le (i := o) (l := List.take k (List.map Cn.ds xs)) (by simp; omega), List.drop_of_length_le (i := o) (l := List.take k (List.map Cn.ds xs) ++ (some x.ds).toList) (by simp; omega)]
        · rw [List.take_of_length_le (i := o) (l := List.take k (List.map (nds ∘ Cn.conn) xs)) (by simp; omega), List.take_of_length_le (i := o) (l := List.take k (List.map (nds ∘ Cn.conn) xs) ++ (some (nds x.conn)).toList) (by simp; omega)]
          rfl
  obtain rfl : k = xs.length := by omega
  simp
  refine vcRet_of [] ?_ rfl
  simp
  exact ⟨List.take_of_length_le (by simp), List.take_of_length_le (by simp)⟩
end Go.Proofs.Ytjbpkibhkaagjaa
