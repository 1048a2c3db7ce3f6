/- Contracts: enter's function, IndexFunc, DeleteFunc, Clone. No condition. -/
import Derived.Test.YtakmipccgpgfgaaR8
namespace Go.Proofs.Ytakmipccgpgfgaa
open Go.RowKit

def noneTo (p : Int → Bool) (xs : List Int) (k : Nat) : Prop := ∀ i y, i < k → xs[i]? = some y → p y = false
theorem noneTo_zero (p : Int → Bool) (xs : List Int) : noneTo p xs 0 := fun _ _ h => absurd h (by omega)
theorem noneTo_succ {p : Int → Bool} {xs : List Int} {k : Nat} {x : Int} (h : noneTo p xs k) (hx : xs[k]? = some x) (hp : p x = false) : noneTo p xs (k + 1) := fun i y hi hy => by
  by_cases hik : i = k
  · subst hik; rw [hx] at hy; cases hy; exact hp
  · exact h i y (by omega) hy
theorem noneTo_take {p : Int → Bool} {xs : List Int} {k : Nat} (h : noneTo p xs k) : (xs.take k).filter (fun x => !p x) = xs.take k := by
  rw [List.filter_eq_self]
  intro a ha
  obtain ⟨i, hi⟩ := List.getElem?_of_mem ha
  rw [List.getElem?_take] at hi
  split at hi
  · rename_i hik
    rw [h i a hik hi]; rfl
  · cases hi
def isGone (w now x : Int) : Bool := decide (w ≤ now - x)
theorem left_gone (l : List Int) (w now : Int) : l.filter (fun x => !isGone w now x) = left l w now := by
  unfold left isGone
  congr 1
  funext x
  rw [← decide_not]
  congr 1
  simp
  omega
theorem clone_m (xs : List Int) (hl : xs.length < 4294967296) : Meets Try.prog 37 [.d (il xs)] [] (fun r => r = ⟨.rw 2000000 xs.length, [], [.row 2 1 (xs.map ics) false]⟩) := by
  refine meets tbOk mixed Try.func37 pl37 rfl rfl ?_
  simp [Try.ntmps37]
  refine ⟨⟨hl, vcRet_of [5] (by simp) rfl⟩, fun h => ?_⟩
  refine vcRet_prep [.row 2 2 1] [2] (σ1 := _) rfl ?_ rfl
  simp [h]
theorem goneA_m (r l w now : Int) (rets : D) (reqs : D) (x : Int) (hx : IntKind.i64.wrap (now - x) = now - x) : Meets Try.prog 41 [.i x, .ptr 1000000 0, .ptr 1000001 0] [.box 2 [.i now], .box 36 [.i r, .i l, .i w, .d reqs, .d rets]] (fun q => q = ⟨.b (isGone w now x), [.box 2 [.i now], .box 36 [.i r, .i l, .i w, .d reqs, .d rets]], []⟩) := by
  refine meets tbOk mixed Try.func41 pl41 rfl rfl ?_
  simp [Try.ntmps41, hx]
  exact vcRet_of [] (by simp [isGone]) rfl
theorem indexA_m (r l w now : Int) (rets : D) (reqs : D) (xs : List Int) (hl : xs.length < 4294967296) (hx : ∀ x ∈ xs, IntKind.i64.wrap (now - x) = now - x) :
    Meets Try.prog 53 [.rw 1000000 xs.length, .clo 41 [.ptr 1000001 0, .ptr 1000002 0]] (.row 2 1 (xs.map ics) false :: [.box 2 [.i now], .box 36 [.i r, .i l, .i w, .d reqs, .d rets]]) (fun q => (noneTo (isGone w now) xs xs.length ∧ q = ⟨.i (-1), .row 2 1 (xs.map ics) false :: [.box 2 [.i now], .box 36 [.i r, .i l, .i w, .d reqs, .d rets]], []⟩) ∨ ∃ (i : Nat) (x : Int), xs[i]? = some x ∧ isGone w now x = true ∧ noneTo (isGone w now) xs i ∧ q = ⟨.i i, .row 2 1 (xs.map ics) false :: [.box 2 [.i now], .box 36 [.i r, .i l, .i w, .d reqs, .d rets]], []⟩) := by
  refine meets tbOk mixed Try.func53 pl53 rfl rfl ?_
  simp [Try.ntmps53]
  refine vc_loop (fun m σ => ∃ k : Nat, m = xs.length - k ∧ k ≤ xs.length ∧ noneTo (isGone w now) xs k ∧ σ = ⟨19, [(8, .i k), (7, .i xs.length), (0, .rw 1000000 xs.length), (1, .clo 41 [.ptr 1000001 0, .ptr 1000002 0])], [(1000000, .row 2 1 (xs.map ics) false), (1000001, .box 2 [.i now]), (1000002, .box 36 [.i r, .i l, .i w, .d reqs, .d rets])]⟩) ?_ ?_
  · exact ⟨_, _, ⟨0, rfl, Nat.zero_le _, noneTo_zero _ _, rfl⟩, [], _, rfl, by simp⟩
  rintro m σ ⟨k, rfl, hk, hn, rfl⟩
  by_cases hlt : k < xs.length
  · obtain ⟨x, hx', e⟩ := at_lt hlt
    simp [hlt, e]
    refine (goneA_m r l w now rets reqs x (hx x (List.mem_of_getElem? hx'))).mono ?_
    rintro _ rfl
    cases hg : isGone w now x
    · simp [wrap_succ hlt hl]
      refine ⟨_, ?_, _, ⟨k + 1, rfl, hlt, noneTo_succ hn hx' hg, rfl⟩, [], _, rfl, by simp⟩
      omega
    · simp
      exact vcRet_of [] (by simp) (.inr ⟨k, x, hx', hg, hn, rfl⟩)
  obtain rfl : k = xs.length := by omega
  simp
  exact vcRet_of [] (by simp) (.inl ⟨hn, rfl⟩)
set_option maxHeartbeats 4000000 in
theorem deleteA_m (r l w now : Int) (rets : D) (reqs : D) (xs : List Int) (hl : xs.length < 4294967296) (hx : ∀ x ∈ xs, IntKind.i64.wrap (now - x) = now - x) :
    Meets Try.prog 42 [.rw 1000000 xs.length, .clo 41 [.ptr 1000001 0, .ptr 1000002 0]] (.row 2 1 (xs.map ics) false :: [.box 2 [.i now], .box 36 [.i r, .i l, .i w, .d reqs, .d rets]]) (fun q => ∃ Z : List (List D), q = ⟨.rw 1000000 (left xs w now).length, .row 2 1 ((left xs w now).map ics ++ Z) false :: [.box 2 [.i now], .box 36 [.i r, .i l, .i w, .d reqs, .d rets]], []⟩) := by
  refine meets tbOk mixed Try.func42 pl42 rfl rfl ?_
  simp [Try.ntmps42]
  refine (indexA_m r l w now rets reqs xs hl hx).mono ?_
  rintro _ (⟨hn, rfl⟩ | ⟨i, x0, hi, hg, hn, rfl⟩)
  · simp
    have h9 := noneTo_take hn
    rw [List.take_length, left_gone] at h9
    exact vcRet_of [] (by simp [h9]) ⟨[], rfl⟩
  have hil := (List.getElem?_eq_some_iff.1 hi).1
  have hi1 : ¬ ((i : Int) = -1) := by omega
  have hw1 := wrap_succ hil hl
  simp [hi1, hw1]
  refine vc_loop (fun m σ => ∃ (j i : Nat) (M : List Int), m = xs.length - j ∧ j ≤ xs.length ∧ i < j ∧ M.length = xs.length ∧ M.take i = (xs.take j).filter (fun x => !isGone w now x) ∧ M.drop j = xs.drop j ∧ σ = ⟨42, [(6, .i j), (5, .i i), (0, .rw 1000000 xs.length), (1, .clo 41 [.ptr 1000001 0, .ptr 1000002 0])], [(1000000, .row 2 1 (M.map ics) false), (1000001, .box 2 [.i now]), (1000002, .box 36 [.i r, .i l, .i w, .d reqs, .d rets])]⟩) ?_ ?_
  · refine ⟨_, _, ⟨i + 1, i, xs, rfl, by omega, by omega, rfl, ?_, rfl, rfl⟩, [], _, rfl, by simp⟩
    rw [List.take_add_one, hi, List.filter_append, noneTo_take hn]
    simp [hg]
  clear hn hg hi hil hi1 hw1
  rintro m σ ⟨j, i, M, rfl, hj, hij, hM, hk, hd, rfl⟩
  by_cases hlt : j < xs.length
  · have hjM : j < M.length := by omega
    obtain ⟨x, hx', e⟩ := at_lt hlt
    have hMx : M[j]? = some x := by
      have h1 : (M.drop j)[0]? = (xs.drop j)[0]? := by rw [hd]
      rw [List.getElem?_drop, List.getElem?_drop, Nat.add_zero] at h1
      rw [h1, hx']
    have eM : M[j] = x := by rw [List.getElem?_eq_getElem hjM] at hMx; exact Option.some.inj hMx
    have hiM : (i : Int) < xs.length := by omega
    have hiN : i < M.length := by omega
    have wj := wrap_succ hlt hl
    have wi := wrap_succ (show i < xs.length by omega) hl
    have hd1 : ∀ M' : List Int, (∀ q, j < q → M'[q]? = M[q]?) → M'.drop (j + 1) = xs.drop (j + 1) := fun M' h => by
      apply List.ext_getElem?
      intro q
      rw [List.getElem?_drop, List.getElem?_drop, h _ (by omega)]
      have h1 : (M.drop j)[q + 1]? = (xs.drop j)[q + 1]? := by rw [hd]
      rw [List.getElem?_drop, List.getElem?_drop] at h1
      rw [show j + 1 + q = j + (q + 1) by omega]
      exact h1
    simp [hlt, hM, eM]
    refine (goneA_m r l w now rets reqs x (hx x (List.mem_of_getElem? hx'))).mono ?_
    rintro _ rfl
    cases hg : isGone w now x
    · simp [hiM, hM, wi, wj]
      refine ⟨by omega, _, ?_, _, ⟨j + 1, rfl, hlt, i + 1, by omega, M.set i x, by simp [hM], ?_, hd1 _ fun q hq => ?_, rfl⟩, [], _, rfl, by simp⟩
      · omega
      · have q1 : xs.take (j + 1) = xs.take j ++ [x] := by rw [List.take_add_one, hx']; rfl
        have q2 : (M.set i x).take (i + 1) = M.take i ++ [x] := by rw [List.take_add_one, List.getElem?_set_self hiN, List.take_set_of_le (by omega)]; rfl
        rw [q1, q2, List.filter_append, ← hk]
        simp [hg]
      · rw [List.getElem?_set_ne (by omega)]
    · simp [wj]
      refine ⟨_, ?_, _, ⟨j + 1, rfl, hlt, i, by omega, M, hM, ?_, hd1 _ fun q hq => rfl, rfl⟩, [], _, rfl, by simp⟩
      · omega
      · have q1 : xs.take (j + 1) = xs.take j ++ [x] := by rw [List.take_add_one, hx']; rfl
        rw [q1, List.filter_append, ← hk]
        simp [hg]
  obtain rfl : j = xs.length := by omega
  rw [List.take_length, left_gone] at hk
  have hil : i = (left xs w now).length := by rw [← hk, List.length_take]; omega
  have hM2 : (M.map ics).take i = (left xs w now).map ics := by rw [← List.map_take, hk]
  simp [hM]
  refine ⟨by omega, by omega, by omega, vcRet_of [] ?_ ⟨List.replicate (xs.length - i) [.v (.int .i64 0)] ++ (M.map ics).drop (i + (xs.length - i)), rfl⟩⟩
  simp [hM2, ← hil]
theorem goneB_m (r l w now : Int) (rets : D) (n' : Nat) (R : List (List D)) (x : Int) (hx : IntKind.i64.wrap (now - x) = now - x) : Meets Try.prog 41 [.i x, .ptr 1000000 0, .ptr 1000001 0] [.box 2 [.i now], .box 36 [.i r, .i l, .i w, .rw 1000002 n', .d rets], .row 2 1 R false] (fun q => q = ⟨.b (isGone w now x), [.box 2 [.i now], .box 36 [.i r, .i l, .i w, .rw 1000002 n', .d rets], .row 2 1 R false], []⟩) := by
  refine meets tbOk mixed Try.func41 pl41 rfl rfl ?_
  simp [Try.ntmps41, hx]
  exact vcRet_of [] (by simp [isGone]) rfl
theorem indexB_m (r l w now : Int) (rets : D) (n' : Nat) (R : List (List D)) (xs : List Int) (hl : xs.length < 4294967296) (hx : ∀ x ∈ xs, IntKind.i64.wrap (now - x) = now - x) :
    Meets Try.prog 53 [.rw 1000000 xs.length, .clo 41 [.ptr 1000001 0, .ptr 1000002 0]] (.row 2 1 (xs.map ics) false :: [.box 2 [.i now], .box 36 [.i r, .i l, .i w, .rw 1000003 n', .d rets], .row 2 1 R false]) (fun q => (noneTo (isGone w now) xs xs.length ∧ q = ⟨.i (-1), .row 2 1 (xs.map ics) false :: [.box 2 [.i now], .box 36 [.i r, .i l, .i w, .rw 1000003 n', .d rets], .row 2 1 R false], []⟩) ∨ ∃ (i : Nat) (x : Int), xs[i]? = some x ∧ isGone w now x = true ∧ noneTo (isGone w now) xs i ∧ q = ⟨.i i, .row 2 1 (xs.map ics) false :: [.box 2 [.i now], .box 36 [.i r, .i l, .i w, .rw 1000003 n', .d rets], .row 2 1 R false], []⟩) := by
  refine meets tbOk mixed Try.func53 pl53 rfl rfl ?_
  simp [Try.ntmps53]
  refine vc_loop (fun m σ => ∃ k : Nat, m = xs.length - k ∧ k ≤ xs.length ∧ noneTo (isGone w now) xs k ∧ σ = ⟨19, [(8, .i k), (7, .i xs.length), (0, .rw 1000000 xs.length), (1, .clo 41 [.ptr 1000001 0, .ptr 1000002 0])], [(1000000, .row 2 1 (xs.map ics) false), (1000001, .box 2 [.i now]), (1000002, .box 36 [.i r, .i l, .i w, .rw 1000003 n', .d rets]), (1000003, .row 2 1 R false)]⟩) ?_ ?_
  · exact ⟨_, _, ⟨0, rfl, Nat.zero_le _, noneTo_zero _ _, rfl⟩, [], _, rfl, by simp⟩
  rintro m σ ⟨k, rfl, hk, hn, rfl⟩
  by_cases hlt : k < xs.length
  · obtain ⟨x, hx', e⟩ := at_lt hlt
    simp [hlt, e]
    refine (goneB_m r l w now rets n' R x (hx x (List.mem_of_getElem? hx'))).mono ?_
    rintro _ rfl
    cases hg : isGone w now x
    · simp [wrap_succ hlt hl]
      refine ⟨_, ?_, _, ⟨k + 1, rfl, hlt, noneTo_succ hn hx' hg, rfl⟩, [], _, rfl, by simp⟩
      omega
    · simp
      exact vcRet_of [] (by simp) (.inr ⟨k, x, hx', hg, hn, rfl⟩)
  obtain rfl : k = xs.length := by omega
  simp
  exact vcRet_of [] (by simp) (.inl ⟨hn, rfl⟩)
set_option maxHeartbeats 4000000 in
theorem deleteB_m (r l w now : Int) (rets : D) (n' : Nat) (R : List (List D)) (xs : List Int) (hl : xs.length < 4294967296) (hx : ∀ x ∈ xs, IntKind.i64.wrap (now - x) = now - x) :
    Meets Try.prog 42 [.rw 1000000 xs.length, .clo 41 [.ptr 1000001 0, .ptr 1000002 0]] (.row 2 1 (xs.map ics) false :: [.box 2 [.i now], .box 36 [.i r, .i l, .i w, .rw 1000003 n', .d rets], .row 2 1 R false]) (fun q => ∃ Z : List (List D), q = ⟨.rw 1000000 (left xs w now).length, .row 2 1 ((left xs w now).map ics ++ Z) false :: [.box 2 [.i now], .box 36 [.i r, .i l, .i w, .rw 1000003 n', .d rets], .row 2 1 R false], []⟩) := by
  refine meets tbOk mixed Try.func42 pl42 rfl rfl ?_
  simp [Try.ntmps42]
  refine (indexB_m r l w now rets n' R xs hl hx).mono ?_
  rintro _ (⟨hn, rfl⟩ | ⟨i, x0, hi, hg, hn, rfl⟩)
  · simp
    have h9 := noneTo_take hn
    rw [List.take_length, left_gone] at h9
    exact vcRet_of [] (by simp [h9]) ⟨[], rfl⟩
  have hil := (List.getElem?_eq_some_iff.1 hi).1
  have hi1 : ¬ ((i : Int) = -1) := by omega
  have hw1 := wrap_succ hil hl
  simp [hi1, hw1]
  refine vc_loop (fun m σ => ∃ (j i : Nat) (M : List Int), m = xs.length - j ∧ j ≤ xs.length ∧ i < j ∧ M.length = xs.length ∧ M.take i = (xs.take j).filter (fun x => !isGone w now x) ∧ M.drop j = xs.drop j ∧ σ = ⟨42, [(6, .i j), (5, .i i), (0, .rw 1000000 xs.length), (1, .clo 41 [.ptr 1000001 0, .ptr 1000002 0])], [(1000000, .row 2 1 (M.map ics) false), (1000001, .box 2 [.i now]), (1000002, .box 36 [.i r, .i l, .i w, .rw 1000003 n', .d rets]), (1000003, .row 2 1 R false)]⟩) ?_ ?_
  · refine ⟨_, _, ⟨i + 1, i, xs, rfl, by omega, by omega, rfl, ?_, rfl, rfl⟩, [], _, rfl, by simp⟩
    rw [List.take_add_one, hi, List.filter_append, noneTo_take hn]
    simp [hg]
  clear hn hg hi hil hi1 hw1
  rintro m σ ⟨j, i, M, rfl, hj, hij, hM, hk, hd, rfl⟩
  by_cases hlt : j < xs.length
  · have hjM : j < M.length := by omega
    obtain ⟨x, hx', e⟩ := at_lt hlt
    have hMx : M[j]? = some x := by
      have h1 : (M.drop j)[0]? = (xs.drop j)[0]? := by rw [hd]
      rw [List.getElem?_drop, List.getElem?_drop, Nat.add_zero] at h1
      rw [h1, hx']
    have eM : M[j] = x := by rw [List.getElem?_eq_getElem hjM] at hMx; exact Option.some.inj hMx
    have hiM : (i : Int) < xs.length := by omega
    have hiN : i < M.length := by omega
    have wj := wrap_succ hlt hl
    have wi := wrap_succ (show i < xs.length by omega) hl
    have hd1 : ∀ M' : List Int, (∀ q, j < q → M'[q]? = M[q]?) → M'.drop (j + 1) = xs.drop (j + 1) := fun M' h => by
      apply List.ext_getElem?
      intro q
      rw [List.getElem?_drop, List.getElem?_drop, h _ (by omega)]
      have h1 : (M.drop j)[q + 1]? = (xs.drop j)[q + 1]? := by rw [hd]
      rw [List.getElem?_drop, List.getElem?_drop] at h1
      rw [show j + 1 + q = j + (q + 1) by omega]
      exact h1
    simp [hlt, hM, eM]
    refine (goneB_m r l w now rets n' R x (hx x (List.mem_of_getElem? hx'))).mono ?_
    rintro _ rfl
    cases hg : isGone w now x
    · simp [hiM, hM, wi, wj]
      refine ⟨by omega, _, ?_, _, ⟨j + 1, rfl, hlt, i + 1, by omega, M.set i x, by simp [hM], ?_, hd1 _ fun q hq => ?_, rfl⟩, [], _, rfl, by simp⟩
      · omega
      · have q1 : xs.take (j + 1) = xs.take j ++ [x] := by rw [List.take_add_one, hx']; rfl
        have q2 : (M.set i x).take (i + 1) = M.take i ++ [x] := by rw [List.take_add_one, List.getElem?_set_self hiN, List.take_set_of_le (by omega)]; rfl
        rw [q1, q2, List.filter_append, ← hk]
        simp [hg]
      · rw [List.getElem?_set_ne (by omega)]
    · simp [wj]
      refine ⟨_, ?_, _, ⟨j + 1, rfl, hlt, i, by omega, M, hM, ?_, hd1 _ fun q hq => rfl, rfl⟩, [], _, rfl, by simp⟩
      · omega
      · have q1 : xs.take (j + 1) = xs.take j ++ [x] := by rw [List.take_add_one, hx']; rfl
        rw [q1, List.filter_append, ← hk]
        simp [hg]
  obtain rfl : j = xs.length := by omega
  rw [List.take_length, left_gone] at hk
  have hil : i = (left xs w now).length := by rw [← hk, List.length_take]; omega
  have hM2 : (M.map ics).take i = (left xs w now).map ics := by rw [← List.map_take, hk]
  simp [hM]
  refine ⟨by omega, by omega, by omega, vcRet_of [] ?_ ⟨List.replicate (xs.length - i) [.v (.int .i64 0)] ++ (M.map ics).drop (i + (xs.length - i)), rfl⟩⟩
  simp [hM2, ← hil]
end Go.Proofs.Ytakmipccgpgfgaa
