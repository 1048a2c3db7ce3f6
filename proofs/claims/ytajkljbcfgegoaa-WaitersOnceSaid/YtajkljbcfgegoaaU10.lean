/- Contracts: the waiters' out, Serve, Cancel. No condition. -/
import Derived.Test.YtajkljbcfgegoaaU8
import Derived.Test.YtajkljbcfgegoaaU9
namespace Go.Proofs.Ytajkljbcfgegoaa
open Go.RowKit

set_option maxHeartbeats 1000000 in
theorem out_m (s : St) (i : Nat) (hi : i < s.ws.length) (hl : s.ws.length < 4294967296) {x : Wt} (hx : s.ws[i]? = some x) : Meets Try.prog 28 [s.pv, .i i] [] (Ret (.tup [(outAt s i).1.pv, (outAt s i).2.1.pv, .i 0])) := by
  refine meets tbOk mixed Try.func28 pl28 rfl rfl ?_
  have h0 : ¬ (i : Int) < 0 := by omega
  obtain ⟨x', hx', e⟩ := at_lt hi
  cases hx.symm.trans hx'
  simp [Try.ntmps28, h0, hi, e]
  refine (clone_m s.ws hl).mono ?_
  rintro _ (⟨hn, rfl⟩ | rfl)
  · simp [hn] at hi
  simp [wrap_succ hi hl]
  refine (delete_m s.ws i hi hl).mono ?_
  rintro _ rfl
  simp
  refine ⟨by kernel_rfl, vcRet_of [] ?_ rfl⟩
  simp [outAt, h0, e, List.length_eraseIdx, hi]
theorem outNone_m (s : St) (i : Int) (hi : i < 0) : Meets Try.prog 28 [s.pv, .i i] [] (Ret (.tup [(outAt s i).1.pv, (outAt s i).2.1.pv, .i 4])) := by
  refine meets tbOk mixed Try.func28 pl28 rfl rfl ?_
  simp [Try.ntmps28, hi]
  refine vcRet_of [] ?_ rfl
  simp [outAt, hi]
theorem outAny_m (s : St) (p : Wt → Bool) (hl : s.ws.length < 4294967296) : Meets Try.prog 28 [s.pv, .i (idx p s.ws 0)] [] (Ret (.tup [(outAt s (idx p s.ws 0)).1.pv, (outAt s (idx p s.ws 0)).2.1.pv, .i (outAt s (idx p s.ws 0)).2.2])) := by
  rcases idx_range p s.ws 0 with h | h
  · rw [h]
    have e : (outAt s (-1)).2.2 = 4 := by simp [outAt]
    rw [e]
    exact outNone_m s (-1) (by omega)
  · obtain ⟨k, hk⟩ : ∃ k : Nat, idx p s.ws 0 = k := ⟨_, (Int.toNat_of_nonneg h.1).symm⟩
    rw [hk] at h ⊢
    have hlt : k < s.ws.length := by omega
    obtain ⟨x, hx, _⟩ := at_lt hlt
    have e : (outAt s (k : Int)).2.2 = 0 := by rw [outAt, if_neg (by omega)]
    rw [e]
    exact out_m s k hlt hl hx
set_option maxHeartbeats 1000000 in
theorem serve_m (s : St) (now : Int) (hl : s.ws.length < 4294967296) : Meets Try.prog 12 [s.pv, .i now] [] (Ret (.tup [(serve s now).1.pv, (serve s now).2.1.pv, .i (serve s now).2.2])) := by
  refine meets tbOk mixed Try.func12 pl12 rfl rfl ?_
  simp [Try.ntmps12]
  refine (ready_m s now hl).mono ?_
  rintro _ rfl
  by_cases hc : rdy s now = 0
  case neg =>
    simp [hc, St.box]
    refine vcRet_of [] ?_ rfl
    simp [serve, hc]
  simp [hc, St.box]
  refine effCall (indexFunc_1 30 2 (.v (.int .i64 now)) (fun x => decide (now < x.dead)) s.ws hl (fun x _ => serve1_m x now)) ?_
  simp
  refine effCall (outAny_m s _ hl) ?_
  simp
  refine ⟨by kernel_rfl, vcRet_of [] ?_ rfl⟩
  simp [serve, hc]
set_option maxHeartbeats 1000000 in
theorem cancel_m (s : St) (n : Int) (hl : s.ws.length < 4294967296) : Meets Try.prog 21 [s.pv, .i n] [] (Ret (.tup [(cancel s n).1.pv, (cancel s n).2.1.pv, .i (cancel s n).2.2])) := by
  refine meets tbOk mixed Try.func21 pl21 rfl rfl ?_
  simp [Try.ntmps21]
  refine (check_m s hl).mono ?_
  rintro _ rfl
  by_cases hc : chk s = 0
  case neg =>
    simp [hc]
    refine vcRet_of [] ?_ rfl
    simp [cancel, hc]
  simp [hc]
  refine effCall (find_m s.ws n hl) ?_
  simp
  refine effCall (outAny_m s _ hl) ?_
  simp
  refine ⟨by kernel_rfl, vcRet_of [] ?_ rfl⟩
  simp [cancel, hc, place]
end Go.Proofs.Ytajkljbcfgegoaa
