/- Contracts: split, Reap and Take, that hand back the closed numbers as a row of the caller's own. No condition. -/
import Derived.Test.YtjbpkibhkaagjaaI16
import Derived.Test.YtjbpkibhkaagjaaQ3
namespace Go.Proofs.Ytjbpkibhkaagjaa
open Go.RowKit

set_option maxHeartbeats 1000000 in
theorem split_2r (s : St) (now : Int) (xs : List Cn) (hl : xs.length < 4294967296) (hs : ∀ x ∈ xs, Small s.idle s.age now x) {C : List Int} (hC : cns (xs.filter fun x => !good s.idle s.age now x) = C) :
    Meets Try.prog 32 [.d (cl xs), .clo 33 [.ptr 1000000 0, .ptr 1000001 0]] [.box 2 [.i now], s.box] (fun r => r = ⟨.tup [.d (cl (xs.filter (good s.idle s.age now))), .rw 2000000 C.length], [.box 2 [.i now], s.box], [.row 2 1 (C.map nds) false]⟩) := by
  refine meetsH [] tbOk mixed Try.func32 pl32 rfl rfl ?_
  simp [Try.ntmps32]
  subst hC
  obtain ⟨p, hp⟩ : ∃ p, good s.idle s.age now = p := ⟨_, rfl⟩
  simp only [hp]
  refine vc_loop (fun m σ => ∃ k : Nat, m = xs.length - k ∧ k ≤ xs.length ∧ σ = ⟨29, [(10, .i k), (9, .i xs.length), (8, .d (cl xs)), (4, .rw 4 ((xs.take k).filter p).length), (5, .rw 5 ((xs.take k).filter fun x => !p x).length), (1, .clo 33 [.ptr 1000000 0, .ptr 1000001 0])],
    [(1000000, .box 2 [.i now]), (1000001, s.box), (4, .row 29 3 (((xs.take k).filter p).map Cn.ds) false), (5, .row 2 1 ((((xs.take k).filter fun x => !p x).map Cn.conn).map nds) false)]⟩) ?_ ?_
  · exact ⟨_, _, ⟨0, rfl, Nat.zero_le _, rfl⟩, [.row 4 29 3, .row 5 2 1], _, rfl, by simp⟩
  rintro m σ ⟨k, rfl, hk, rfl⟩
  by_cases hlt : k < xs.length
  · obtain ⟨x, hx, e⟩ := at_lt hlt
    have hf1 := List.length_filter_le p (xs.take k)
    have hf2 := List.length_filter_le (fun x : Cn => !p x) (xs.take k)
    rw [List.length_take] at hf1 hf2
    simp [hlt, e]
    refine (reap1_m s now x (hs x (List.mem_of_getElem? hx))).mono ?_
    rintro _ rfl
    rw [hp]
    cases hd : p x
    · simp [wrap_succ hlt hl]
      refine ⟨by omega, _, ?_, _, ⟨k + 1, rfl, hlt, rfl⟩, [], _, rfl, by simp [List.take_add_one, hx, hd]⟩
      omega
    · simp [wrap_succ hlt hl]
      refine ⟨by omega, _, ?_, _, ⟨k + 1, rfl, hlt, rfl⟩, [], _, rfl, by simp [List.take_add_one, hx, hd]⟩
      omega
  obtain rfl : k = xs.length := by omega
  simp
  refine vcRet_of [5] ?_ rfl
  simp
set_option maxHeartbeats 1000000 in
theorem reap_r (s : St) (now : Int) (hl : s.cs.length < 4294967296) (hc : rdy s now = 0) {C : List Int} (hC : shut s now = C) : Meets Try.prog 16 [s.pv, .i now] [] (fun r => r = ⟨.tup [(⟨s.most, s.idle, s.age, left s now⟩ : St).pv, .rw 2000000 C.length, .i 0], [], [.row 2 1 (C.map nds) false]⟩) := by
  refine meetsH [] tbOk mixed Try.func16 pl16 rfl rfl ?_
  simp [Try.ntmps16]
  refine (ready_m s now hl).mono ?_
  rintro _ rfl
  simp [hc]
  refine (split_2r s now s.cs hl (small_of hc) hC).mono ?_
  rintro _ rfl
  simp
  refine vcRet_of [18] ?_ rfl
  simp [left]
set_option maxRecDepth 100000 in
set_option maxHeartbeats 2000000 in
theorem take_none_r (s : St) (now : Int) (hl : s.cs.length < 4294967296) (hc : rdy s now = 0) {C : List Int} (hC : shut s now = C) (hL : left s now = []) : Meets Try.prog 12 [s.pv, .i now] [] (fun r => r = ⟨.tup [(⟨s.most, s.idle, s.age, []⟩ : St).pv, (⟨0, 0, 0⟩ : Cn).pv, .rw 2000000 C.length, .i 4], [], [.row 2 1 (C.map nds) false]⟩) := by
  refine meetsH [] tbOk mixed Try.func12 pl12 rfl rfl ?_
  simp [Try.ntmps12]
  refine (reap_r s now hl hc hC).mono ?_
  rintro _ rfl
  simp [hL]
  refine (last_m []).mono ?_
  rintro _ rfl
  simp
  refine vc_range ⟨57, [.ptr 24 0], [24], [.box 22 [.d (cl [])]], backs [], maskOf [24, 4, 5, 6, 7], fun i σ => i = 0 ∧ σ = ⟨38, [(24, .clo 57 [.ptr 24 0]), (4, .ptr 4 0), (5, .ptr 5 0), (6, .ptr 6 0), (7, .ptr 7 0)], [(24, .box 22 [.d (cl [])]), (4, .box 24 [.i s.most, .i s.idle, .i s.age, .d (cl [])]), (5, .box 29 [.i 0, .i 0, .i 0]), (6, .box 30 [.rw 13 C.length]), (7, .box 25 [.i 0]), (13, .row 2 1 (C.map nds) false)]⟩⟩ (backward_it [] (by decide)) (by kernel_rfl) (fun x hx => backs_mem hx) ?_ ?_ ?_ ?_
  · exact ⟨_, ⟨rfl, rfl⟩, [], _, rfl, by simp⟩
  · rintro i σ ⟨rfl, rfl⟩
    simp
  · rintro i x σ ⟨rfl, rfl⟩ hx
    cases hx
  · rintro σ ⟨h0, rfl⟩
    simp
    refine ⟨by kernel_rfl, vcRet_of [13] ?_ rfl⟩
    simp
set_option maxRecDepth 100000 in
set_option maxHeartbeats 2000000 in
theorem take_some_r (s : St) (now : Int) (hl : s.cs.length < 4294967296) (hc : rdy s now = 0) {C : List Int} (hC : shut s now = C) {L : List Cn} {y : Cn} (hL : left s now = L ++ [y]) : Meets Try.prog 12 [s.pv, .i now] [] (fun r => r = ⟨.tup [(⟨s.most, s.idle, s.age, L⟩ : St).pv, y.pv, .rw 2000000 C.length, .i 0], [], [.row 2 1 (C.map nds) false]⟩) := by
  refine meetsH [] tbOk mixed Try.func12 pl12 rfl rfl ?_
  have hlL : (L ++ [y]).length < 4294967296 := hL ▸ take_len hl
  simp [Try.ntmps12]
  refine (reap_r s now hl hc hC).mono ?_
  rintro _ rfl
  obtain ⟨M, hM⟩ : ∃ M, L ++ [y] = M := ⟨_, rfl⟩
  rw [hM] at hL hlL
  simp [hL]
  refine (last_m M).mono ?_
  rintro _ rfl
  simp
  refine vc_range ⟨57, [.ptr 24 0], [24], [.box 22 [.d (cl M)]], backs M, maskOf [24, 4, 5, 6, 7], fun i σ => i = 0 ∧ σ = ⟨38, [(24, .clo 57 [.ptr 24 0]), (4, .ptr 4 0), (5, .ptr 5 0), (6, .ptr 6 0), (7, .ptr 7 0)], [(24, .box 22 [.d (cl M)]), (4, .box 24 [.i s.most, .i s.idle, .i s.age, .d (cl M)]), (5, .box 29 [.i 0, .i 0, .i 0]), (6, .box 30 [.rw 13 C.length]), (7, .box 25 [.i 0]), (13, .row 2 1 (C.map nds) false)]⟩⟩ (backward_it M hlL) (by kernel_rfl) (fun x hx => backs_mem hx) ?_ ?_ ?_ ?_
  · exact ⟨_, ⟨rfl, rfl⟩, [], _, rfl, by simp⟩
  · rintro i σ ⟨rfl, rfl⟩
    simp
  · rintro i x σ ⟨rfl, rfl⟩ hx
    have hMl : M.length = L.length + 1 := by rw [← hM]; simp
    have hx2 : some x = some [.i (L.length : Int), y.pv] := by
      rw [← hx]
      show (backs M)[0]? = _
      rw [backs_at (by omega)]
      have e1 : (M.length : Int) - 1 - (0 : Nat) = (L.length : Int) := by omega
      have e2 : M.length - 1 - 0 = L.length := by omega
      have e3 : M[L.length]? = some y := by rw [← hM]; simp
      rw [e1, e2, getD_some e3]
    obtain rfl := Option.some.inj hx2
    have hle : L.length ≤ M.length := by omega
    have hT : List.take L.length (List.map Cn.ds M) = List.map Cn.ds L := by rw [← hM, List.map_append]; exact List.take_left' (by simp)
    simp [hT]
    refine ⟨hle, by kernel_rfl, vcRet_of [13] ?_ rfl⟩
    simp
  · rintro σ ⟨h0, rfl⟩
    have h0 : M.length = 0 := by rw [← backs_len]; exact h0.symm ▸ rfl
    rw [← hM] at h0
    simp at h0
end Go.Proofs.Ytjbpkibhkaagjaa
