/- Contracts: left, gone, the last time, IsSorted. No condition. -/
import Derived.Test.YtakmipccgpgfgaaR3
namespace Go.Proofs.Ytakmipccgpgfgaa
open Go.RowKit

theorem add_wrap {x w : Int} (hx : 0 ≤ x ∧ x ≤ 1000000000000) (hw : 0 ≤ w ∧ w ≤ 1000000000000) : IntKind.i64.wrap (x + w) = x + w := IntWalk.i64_in _ (by omega)
set_option maxHeartbeats 1000000 in
theorem left_m (l : List Int) (w now : Int) (hl : l.length < 4294967296) (hx : ∀ x ∈ l, 0 ≤ x ∧ x ≤ 1000000000000) (hw : 0 ≤ w ∧ w ≤ 1000000000000) :
    Meets Try.prog 43 [.d (il l), .i w, .i now] [] (fun r => r = ⟨.rw 2000000 (left l w now).length, [], [.row 2 1 ((left l w now).map ics) false]⟩) := by
  refine meets tbOk mixed Try.func43 pl43 rfl rfl ?_
  simp [Try.ntmps43]
  refine vc_loop (fun m σ => ∃ k : Nat, m = l.length - k ∧ k ≤ l.length ∧ σ = ⟨31, [(8, .i k), (7, .rw 7 (left (l.take k) w now).length), (0, .d (il l)), (1, .i w), (2, .i now)], [(7, .row 2 1 ((left (l.take k) w now).map ics) false)]⟩) ?_ ?_
  · exact ⟨_, _, ⟨0, rfl, Nat.zero_le _, rfl⟩, [.row 7 2 1], _, rfl, by simp [left]⟩
  rintro m σ ⟨k, rfl, hk, rfl⟩
  by_cases hlt : k < l.length
  · obtain ⟨x, hx', e⟩ := at_lt hlt
    have hwr := add_wrap (hx x (List.mem_of_getElem? hx')) hw
    have hf := List.length_filter_le (fun x : Int => decide (now < x + w)) (l.take k)
    rw [List.length_take] at hf
    have hf' : (left (l.take k) w now).length ≤ k := by unfold left; omega
    by_cases hc : now < x + w
    · have h9 : left (l.take (k + 1)) w now = left (l.take k) w now ++ [x] := by simp [left, List.take_add_one, hx', hc]
      simp [hlt, e, hwr, hc, wrap_succ hlt hl]
      refine ⟨by omega, _, ?_, _, ⟨k + 1, rfl, hlt, rfl⟩, [], _, rfl, by simp [h9]⟩
      omega
    · have h9 : left (l.take (k + 1)) w now = left (l.take k) w now := by simp [left, List.take_add_one, hx', hc]
      simp [hlt, e, hwr, hc, wrap_succ hlt hl]
      refine ⟨_, ?_, _, ⟨k + 1, rfl, hlt, rfl⟩, [], _, rfl, by simp [h9]⟩
      omega
  obtain rfl : k = l.length := by omega
  simp
  exact vcRet_of [7] (by simp) rfl
def goneRes (b : Bu) : Res := ⟨.agg [.i b.ratio, .i b.least, .i b.window, .rw 2000000 b.reqs.length, .rw 2000001 b.rets.length], [], [.row 2 1 (b.reqs.map ics) false, .row 2 1 (b.rets.map ics) false]⟩
theorem gone_m (b : Bu) (now : Int) (h1 : b.reqs.length < 4294967296) (h2 : b.rets.length < 4294967296) (hx : ∀ x ∈ b.reqs, 0 ≤ x ∧ x ≤ 1000000000000) (hy : ∀ x ∈ b.rets, 0 ≤ x ∧ x ≤ 1000000000000) (hw : 0 ≤ b.window ∧ b.window ≤ 1000000000000) :
    Meets Try.prog 35 [b.pv, .i now] [] (fun r => r = goneRes (gone b now)) := by
  refine meets tbOk mixed Try.func35 pl35 rfl rfl ?_
  simp [Try.ntmps35]
  refine (left_m b.reqs b.window now h1 hx hw).mono ?_
  rintro _ rfl
  simp
  refine (left_m b.rets b.window now h2 hy hw).mono ?_
  rintro _ rfl
  simp
  exact vcRet_of [10, 17] (by simp [gone]; decide) rfl
theorem lastOf_at {l : List Int} {x : Int} (_ : 0 < l.length) (hx : l[l.length - 1]? = some x) : lastOf l = x := by
  rw [lastOf, List.getLastD_eq_getLast?, List.getLast?_eq_getElem?, hx]; rfl
def lastR (b : Bu) : Int := if b.rets.length = 0 then lastOf b.reqs else max (lastOf b.reqs) (lastOf b.rets)
theorem refLast_m (b : Bu) (h1 : b.reqs.length < 4294967296) (h2 : b.rets.length < 4294967296) : Meets Try.prog 32 [b.pv] [] (Ret (.i (lastR b))) := by
  refine meets tbOk mixed Try.func32 pl32 rfl rfl ?_
  have w0 : ∀ n : Nat, 0 < n → n < 4294967296 → IntKind.i64.wrap ((n : Int) - 1) = ((n - 1 : Nat) : Int) := fun n h h' => by rw [IntWalk.i64_in _ (by omega)]; omega
  by_cases a1 : 0 < b.reqs.length
  · obtain ⟨x, hx, ex⟩ := at_lt (show b.reqs.length - 1 < b.reqs.length by omega)
    have e1 := w0 _ a1 h1
    have k1 : b.reqs.length - 1 < b.reqs.length := by omega
    have l1 := lastOf_at a1 hx
    by_cases a2 : 0 < b.rets.length
    · obtain ⟨y, hy, ey⟩ := at_lt (show b.rets.length - 1 < b.rets.length by omega)
      have e2 := w0 _ a2 h2
      have k2 : b.rets.length - 1 < b.rets.length := by omega
      have l2 := lastOf_at a2 hy
      have hr : lastR b = max x y := by rw [lastR, if_neg (by omega), l1, l2]
      simp [Try.ntmps32, a1, a2, e1, e2, k1, k2, ex, ey]
      exact vcRet_of [] (by simp [hr]) rfl
    · have hr : lastR b = x := by rw [lastR, if_pos (by omega), l1]
      simp [Try.ntmps32, a1, a2, e1, k1, ex]
      exact vcRet_of [] (by simp [hr]) rfl
  · have hn : b.reqs = [] := List.eq_nil_of_length_eq_zero (by omega)
    have l1 : lastOf b.reqs = 0 := by rw [hn]; rfl
    by_cases a2 : 0 < b.rets.length
    · obtain ⟨y, hy, ey⟩ := at_lt (show b.rets.length - 1 < b.rets.length by omega)
      have e2 := w0 _ a2 h2
      have k2 : b.rets.length - 1 < b.rets.length := by omega
      have l2 := lastOf_at a2 hy
      have hr : lastR b = max 0 y := by rw [lastR, if_neg (by omega), l1, l2]
      simp [Try.ntmps32, a1, a2, e2, k2, ey]
      exact vcRet_of [] (by simp [hr]) rfl
    · have hr : lastR b = 0 := by rw [lastR, if_pos (by omega), l1]
      simp [Try.ntmps32, a1, a2]
      exact vcRet_of [] (by simp [hr]) rfl
end Go.Proofs.Ytakmipccgpgfgaa
