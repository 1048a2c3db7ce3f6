/- Contracts: the statements WaitersStates and WaitersPlays. No condition. -/
import Derived.Test.YtajkljbcfgegoaaU12
import Derived.Test.YtajkljbcfgegoaaV21
import Derived.Test.YtajkljbcfgegoaaP4
namespace Go.Proofs.Ytajkljbcfgegoaa
open Go.RowKit

set_option maxRecDepth 4000 in
set_option maxHeartbeats 4000000 in
theorem states_m (s : St) (c : Cal) (hw : 0 ≤ c.what) : Meets Try.prog 9 [s.pv, c.pv] [] (Ret (.b true)) := by
  refine meetsS [(26, [(false, 5)])] tbOk mixed Try.func9 pl9 rfl rfl ?_
  by_cases h200 : (200 : Int) < s.ws.length
  · simp [Try.ntmps9, Cal.pv, h200]
    refine awake_m.mono ?_
    rintro _ rfl
    simp
    refine vcRet_of [] ?_ rfl
    simp
  have hl : s.ws.length < 4294967295 := by omega
  have hl' : s.ws.length < 4294967296 := by omega
  simp [Try.ntmps9, Cal.pv, h200]
  refine ⟨by omega, by kernel_rfl, ?_⟩
  refine (do_m s c hl hw).mono ?_
  rintro _ rfl
  simp
  refine effCall (check_m s hl') ?_
  simp
  refine effCall (refCheck_m s hl') ?_
  simp
  refine effCall (same_m s s hl') ?_
  simp
  refine effCall awake_m ?_
  simp
  refine ⟨by kernel_rfl, vcRet_of [] ?_ rfl⟩
  simp
theorem Good.doS {s : St} (h : Good s) (c : Cal) : Good (doS s c) := by
  unfold Go.Proofs.Ytajkljbcfgegoaa.doS
  repeat' split
  · exact h.serve _
  · exact h.cancel _
  · exact h.expire _
  · exact h.resize _
  · exact h
  · exact h
  · exact h.join _ _ _
@[simp] def Cal.cs (c : Cal) : List D := [.v (.int .u8 c.what), .v (.int .i64 c.call), .v (.int .i64 c.now), .v (.int .i64 c.dead)]
@[simp] def cl (l : List Cal) : D := .sl 4 (l.map Cal.cs)
set_option maxRecDepth 4000 in
set_option maxHeartbeats 4000000 in
theorem plays_m (most : Int) (l : List Cal) (hw : ∀ c ∈ l, 0 ≤ c.what) : Meets Try.prog 8 [.i most, .d (cl l)] [] (Ret (.b true)) := by
  refine meetsS [] tbOk mixed Try.func8 pl8 rfl rfl ?_
  by_cases h100 : (100 : Int) < l.length
  · simp [Try.ntmps8, h100]
    refine awake_m.mono ?_
    rintro _ rfl
    simp
    refine vcRet_of [] ?_ rfl
    simp
  simp [Try.ntmps8, h100]
  refine (new_m most).mono ?_
  rintro _ rfl
  simp
  refine (refNew_m most).mono ?_
  rintro _ rfl
  simp
  have hg0 := Good.new most
  refine (same_m _ _ (by have := hg0.short; omega)).mono ?_
  rintro _ rfl
  simp
  refine vc_loop (fun n σ => ∃ (k : Nat) (s : St), n = l.length - k ∧ k ≤ l.length ∧ Good s ∧ σ = ⟨63, [(9, .i k), (1, .d (cl l)), (5, .ptr 5 0), (6, .i (new most).2)], [(5, .box 24 [.i s.most, .d (wl s.ws)])]⟩) ?_ ?_
  · exact ⟨_, _, ⟨0, _, rfl, Nat.zero_le _, hg0, rfl⟩, [], _, rfl, by simp⟩
  rintro n σ ⟨k, s, rfl, hk, hg, rfl⟩
  by_cases hlt : k < l.length
  · obtain ⟨x, hx, e⟩ := at_lt hlt
    have hs := hg.short
    have hg' := hg.doS x
    have hs' := hg'.short
    have hc := chk_good.2 hg'
    simp [hlt, e]
    refine effCall (do_m s x (by omega) (hw x (List.mem_of_getElem? hx))) ?_
    simp
    refine ⟨by kernel_rfl, ?_⟩
    by_cases h0 : (new most).2 = 0
    · simp [h0]
      refine (check_m (doS s x) (by omega)).mono ?_
      rintro _ rfl
      simp [hc, wrap_succ hlt (show l.length < 4294967296 by omega)]
      refine ⟨_, ?_, _, ⟨k + 1, rfl, hlt, _, hg', rfl⟩, [], _, rfl, by simp [h0]⟩
      omega
    · simp [h0, wrap_succ hlt (show l.length < 4294967296 by omega)]
      refine ⟨_, ?_, _, ⟨k + 1, rfl, hlt, _, hg', rfl⟩, [], _, rfl, by simp⟩
      omega
  obtain rfl : k = l.length := by omega
  simp
  refine awake_m.mono ?_
  rintro _ rfl
  simp
  refine vcRet_of [] ?_ rfl
  simp
end Go.Proofs.Ytajkljbcfgegoaa
