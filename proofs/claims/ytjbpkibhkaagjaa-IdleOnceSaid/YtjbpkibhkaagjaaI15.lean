/- Contracts: the statements IdleStates and IdlePlays. No condition. -/
import Derived.Test.YtjbpkibhkaagjaaI14
namespace Go.Proofs.Ytjbpkibhkaagjaa
open Go.RowKit

set_option maxRecDepth 20000 in
set_option maxHeartbeats 8000000 in
theorem states_m (s : St) (c : Cal) (hw : 0 ≤ c.what) : Meets Try.prog 8 [s.pv, c.pv] [] (Ret (.b true)) := by
  refine meetsH [(30, [(false, 5)])] tbOk mixed Try.func8 pl8 rfl rfl ?_
  by_cases h200 : (200 : Int) < s.cs.length
  · simp [Try.ntmps8, h200]
    refine awake_m.mono ?_
    rintro _ rfl
    simp
    refine vcRet_of [] ?_ rfl
    simp
  have hl : s.cs.length < 4294967295 := by omega
  have hl' : s.cs.length < 4294967296 := by omega
  simp [Try.ntmps8, h200]
  refine ⟨by omega, by kernel_rfl, ?_⟩
  refine (do_m s c hl hw).mono ?_
  rintro _ rfl
  simp
  refine effCall (check_m s hl') ?_
  simp
  refine effCall (refCheck_m s hl') ?_
  simp
  refine effCall (same_m s s hl') ?_
  simp
  refine effCall awake_m ?_
  simp
  refine ⟨by kernel_rfl, vcRet_of [] ?_ rfl⟩
  simp
set_option maxRecDepth 20000 in
set_option maxHeartbeats 8000000 in
theorem plays_m (most idle age : Int) (l : List Cal) (hw : ∀ c ∈ l, 0 ≤ c.what) : Meets Try.prog 7 [.agg [.i most, .i idle, .i age], .d (cals l)] [] (Ret (.b true)) := by
  refine meetsH [] tbOk mixed Try.func7 pl7 rfl rfl ?_
  by_cases h100 : (100 : Int) < l.length
  · simp [Try.ntmps7, h100]
    refine awake_m.mono ?_
    rintro _ rfl
    simp
    refine vcRet_of [] ?_ rfl
    simp
  simp [Try.ntmps7, h100]
  refine (new_m most idle age).mono ?_
  rintro _ rfl
  simp
  refine (refNew_m most idle age).mono ?_
  rintro _ rfl
  simp
  have h0 : (new most idle age).1.cs = [] := by unfold new; split <;> rfl
  refine (same_m (new most idle age).1 (new most idle age).1 (by rw [h0]; decide)).mono ?_
  rintro _ rfl
  simp
  refine vc_loop (fun m σ => ∃ (k : Nat) (s : St), m = l.length - k ∧ k ≤ l.length ∧ s.cs.length ≤ k ∧ σ = ⟨64, [(9, .i k), (1, .d (cals l)), (5, .ptr 5 0)], [(5, s.box)]⟩) ?_ ?_
  · exact ⟨_, _, ⟨0, (new most idle age).1, rfl, Nat.zero_le _, by rw [h0]; exact Nat.le_refl _, rfl⟩, [], _, rfl, by simp⟩
  rintro m σ ⟨k, s, rfl, hk, hs, rfl⟩
  by_cases hlt : k < l.length
  · obtain ⟨x, hx, e⟩ := at_lt hlt
    have hd := doS_len s x
    simp [hlt, e]
    refine effCall (do_m s x (by omega) (hw x (List.mem_of_getElem? hx))) ?_
    simp
    refine ⟨by kernel_rfl, ?_⟩
    simp [wrap_succ hlt (show l.length < 4294967296 by omega)]
    refine ⟨_, ?_, _, ⟨k + 1, rfl, hlt, doS s x, by omega, rfl⟩, [], _, rfl, by simp⟩
    omega
  obtain rfl : k = l.length := by omega
  simp
  refine awake_m.mono ?_
  rintro _ rfl
  simp
  refine vcRet_of [] ?_ rfl
  simp
end Go.Proofs.Ytjbpkibhkaagjaa
