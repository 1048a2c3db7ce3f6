/- Contracts: the laws' function that makes a call. No condition. -/
import Derived.Test.YtajkljbcfgegoaaU10
namespace Go.Proofs.Ytajkljbcfgegoaa
open Go.RowKit

structure Cal where
  what : Int
  call : Int
  now : Int
  dead : Int
def Cal.pv (c : Cal) : PV := .agg [.d (.v (.int .u8 c.what)), .i c.call, .i c.now, .i c.dead]
/-- The state after a call. -/
def doS (s : St) (c : Cal) : St :=
  if c.what % 9 = 3 then (serve s c.now).1 else if c.what % 9 = 4 then (cancel s c.call).1 else if c.what % 9 = 5 then (expire s c.now).1
  else if c.what % 9 = 6 then (resize s c.call).1 else if c.what % 9 = 7 then s else if c.what % 9 = 8 then s else (join s c.call c.now c.dead).1
theorem Cal.rem {c : Cal} {k : Int} (h : c.what % 9 = k) (hw : 0 ≤ c.what) : c.what.tmod 9 = k := by rw [Int.tmod_eq_emod_of_nonneg hw, h]
theorem outAt_len (s : St) (i : Int) : (outAt s i).1.ws.length ≤ s.ws.length := by
  unfold outAt
  split
  · exact Nat.le_refl _
  · exact (List.eraseIdx_sublist ..).length_le
theorem serve_len (s : St) (now : Int) : (serve s now).1.ws.length ≤ s.ws.length := by
  unfold serve
  split
  · exact Nat.le_refl _
  · exact outAt_len _ _
theorem cancel_len (s : St) (n : Int) : (cancel s n).1.ws.length ≤ s.ws.length := by
  unfold cancel
  split
  · exact Nat.le_refl _
  · exact outAt_len _ _
theorem expire_len (s : St) (now : Int) : (expire s now).1.ws.length ≤ s.ws.length ∧ (expire s now).2.1.length ≤ s.ws.length := by
  unfold expire
  split
  · exact ⟨Nat.le_refl _, Nat.zero_le _⟩
  · exact ⟨List.length_filter_le _ _, List.length_filter_le _ _⟩
theorem resize_len (s : St) (m : Int) : (resize s m).1.ws.length ≤ s.ws.length ∧ (resize s m).2.1.length ≤ s.ws.length := by
  unfold resize
  split
  · exact ⟨Nat.le_refl _, Nat.zero_le _⟩
  · split
    · exact ⟨Nat.le_refl _, Nat.zero_le _⟩
    · exact ⟨(List.take_sublist ..).length_le, (List.drop_sublist ..).length_le⟩
theorem drain_len (s : St) : (drain s).1.ws.length ≤ s.ws.length ∧ (drain s).2.1.length ≤ s.ws.length := by
  unfold drain
  split
  · exact ⟨Nat.le_refl _, Nat.zero_le _⟩
  · exact ⟨Nat.zero_le _, Nat.le_refl _⟩
theorem join_len (s : St) (n now dead : Int) : (join s n now dead).1.ws.length ≤ s.ws.length + 1 := by
  unfold join
  split
  · exact Nat.le_succ _
  · split
    · exact Nat.le_succ _
    · split
      · exact Nat.le_succ _
      · split
        · exact Nat.le_succ _
        · split
          · exact Nat.le_succ _
          · simp
set_option maxHeartbeats 4000000 in
theorem do3_m (s : St) (c : Cal) (hl : s.ws.length < 4294967295) (h : c.what % 9 = 3) (hw : 0 ≤ c.what) : Meets Try.prog 25 [s.pv, c.pv] [] (Ret (.tup [(doS s c).pv, .b true])) := by
  refine meets tbOk mixed Try.func25 pl25 rfl rfl ?_
  have hl' : s.ws.length < 4294967296 := by omega
  have hb := serve_len s c.now
  simp [Try.ntmps25, Cal.pv, Cal.rem h hw]
  refine (serve_m s c.now hl').mono ?_
  rintro _ rfl
  simp
  refine (refServe_m s c.now hl').mono ?_
  rintro _ rfl
  simp
  refine effCall (same_m _ _ (Nat.lt_of_le_of_lt hb hl')) ?_
  simp
  refine ⟨by kernel_rfl, vcRet_of [] ?_ rfl⟩
  simp [doS, h]
set_option maxHeartbeats 4000000 in
theorem do4_m (s : St) (c : Cal) (hl : s.ws.length < 4294967295) (h : c.what % 9 = 4) (hw : 0 ≤ c.what) : Meets Try.prog 25 [s.pv, c.pv] [] (Ret (.tup [(doS s c).pv, .b true])) := by
  refine meets tbOk mixed Try.func25 pl25 rfl rfl ?_
  have hl' : s.ws.length < 4294967296 := by omega
  have hb := cancel_len s c.call
  simp [Try.ntmps25, Cal.pv, Cal.rem h hw]
  refine (cancel_m s c.call hl').mono ?_
  rintro _ rfl
  simp
  refine (refCancel_m s c.call hl').mono ?_
  rintro _ rfl
  simp
  refine effCall (same_m _ _ (Nat.lt_of_le_of_lt hb hl')) ?_
  simp
  refine ⟨by kernel_rfl, vcRet_of [] ?_ rfl⟩
  simp [doS, h]
set_option maxHeartbeats 4000000 in
theorem do5_m (s : St) (c : Cal) (hl : s.ws.length < 4294967295) (h : c.what % 9 = 5) (hw : 0 ≤ c.what) : Meets Try.prog 25 [s.pv, c.pv] [] (Ret (.tup [(doS s c).pv, .b true])) := by
  refine meets tbOk mixed Try.func25 pl25 rfl rfl ?_
  have hl' : s.ws.length < 4294967296 := by omega
  have hb := expire_len s c.now
  simp [Try.ntmps25, Cal.pv, Cal.rem h hw]
  refine (expire_m s c.now hl').mono ?_
  rintro _ rfl
  simp
  refine (refExpire_m s c.now hl').mono ?_
  rintro _ rfl
  simp
  refine effCall (sameList_m _ _ (Nat.lt_of_le_of_lt hb.2 hl')) ?_
  simp
  refine effCall (same_m _ _ (Nat.lt_of_le_of_lt hb.1 hl')) ?_
  simp
  refine ⟨by kernel_rfl, vcRet_of [] ?_ rfl⟩
  simp [doS, h]
set_option maxHeartbeats 4000000 in
theorem do6_m (s : St) (c : Cal) (hl : s.ws.length < 4294967295) (h : c.what % 9 = 6) (hw : 0 ≤ c.what) : Meets Try.prog 25 [s.pv, c.pv] [] (Ret (.tup [(doS s c).pv, .b true])) := by
  refine meets tbOk mixed Try.func25 pl25 rfl rfl ?_
  have hl' : s.ws.length < 4294967296 := by omega
  have hb := resize_len s c.call
  simp [Try.ntmps25, Cal.pv, Cal.rem h hw]
  refine (resize_m s c.call hl').mono ?_
  rintro _ rfl
  simp
  refine (refResize_m s c.call hl').mono ?_
  rintro _ rfl
  simp
  refine effCall (sameList_m _ _ (Nat.lt_of_le_of_lt hb.2 hl')) ?_
  simp
  refine effCall (same_m _ _ (Nat.lt_of_le_of_lt hb.1 hl')) ?_
  simp
  refine ⟨by kernel_rfl, vcRet_of [] ?_ rfl⟩
  simp [doS, h]
set_option maxHeartbeats 4000000 in
theorem do8_m (s : St) (c : Cal) (hl : s.ws.length < 4294967295) (h : c.what % 9 = 8) (hw : 0 ≤ c.what) : Meets Try.prog 25 [s.pv, c.pv] [] (Ret (.tup [(doS s c).pv, .b true])) := by
  refine meets tbOk mixed Try.func25 pl25 rfl rfl ?_
  have hl' : s.ws.length < 4294967296 := by omega
  have hb := drain_len s
  simp [Try.ntmps25, Cal.pv, Cal.rem h hw]
  refine (drain_m s hl').mono ?_
  rintro _ rfl
  simp
  refine (refDrain_m s hl').mono ?_
  rintro _ rfl
  simp
  refine effCall (sameList_m _ _ (Nat.lt_of_le_of_lt hb.2 hl')) ?_
  simp
  refine effCall (same_m _ _ (Nat.lt_of_le_of_lt hb.1 hl')) ?_
  simp
  refine ⟨by kernel_rfl, vcRet_of [] ?_ rfl⟩
  simp [doS, h]
set_option maxHeartbeats 4000000 in
theorem do0_m (s : St) (c : Cal) (hl : s.ws.length < 4294967295) (h : c.what % 9 < 3) (hw : 0 ≤ c.what) : Meets Try.prog 25 [s.pv, c.pv] [] (Ret (.tup [(doS s c).pv, .b true])) := by
  refine meets tbOk mixed Try.func25 pl25 rfl rfl ?_
  have hl' : s.ws.length < 4294967296 := by omega
  have e3 : ¬ c.what.tmod 9 = 3 := by rw [Int.tmod_eq_emod_of_nonneg hw]; omega
  have e4 : ¬ c.what.tmod 9 = 4 := by rw [Int.tmod_eq_emod_of_nonneg hw]; omega
  have e5 : ¬ c.what.tmod 9 = 5 := by rw [Int.tmod_eq_emod_of_nonneg hw]; omega
  have e6 : ¬ c.what.tmod 9 = 6 := by rw [Int.tmod_eq_emod_of_nonneg hw]; omega
  have e7 : ¬ c.what.tmod 9 = 7 := by rw [Int.tmod_eq_emod_of_nonneg hw]; omega
  have e8 : ¬ c.what.tmod 9 = 8 := by rw [Int.tmod_eq_emod_of_nonneg hw]; omega
  have hb := join_len s c.call c.now c.dead
  simp [Try.ntmps25, Cal.pv, e3, e4, e5, e6, e7, e8]
  refine (join_m s c.call c.now c.dead hl').mono ?_
  rintro _ rfl
  simp
  refine (refJoin_m s c.call c.now c.dead hl').mono ?_
  rintro _ rfl
  simp
  refine effCall (same_m _ _ (by omega)) ?_
  simp
  refine ⟨by kernel_rfl, vcRet_of [] ?_ rfl⟩
  have d3 : ¬ c.what % 9 = 3 := by omega
  have d4 : ¬ c.what % 9 = 4 := by omega
  have d5 : ¬ c.what % 9 = 5 := by omega
  have d6 : ¬ c.what % 9 = 6 := by omega
  have d7 : ¬ c.what % 9 = 7 := by omega
  have d8 : ¬ c.what % 9 = 8 := by omega
  simp [doS, d3, d4, d5, d6, d7, d8]
set_option maxHeartbeats 4000000 in
theorem do7_m (s : St) (c : Cal) (hl : s.ws.length < 4294967295) (h : c.what % 9 = 7) (hw : 0 ≤ c.what) : Meets Try.prog 25 [s.pv, c.pv] [] (Ret (.tup [(doS s c).pv, .b true])) := by
  refine meets tbOk mixed Try.func25 pl25 rfl rfl ?_
  have hl' : s.ws.length < 4294967296 := by omega
  simp [Try.ntmps25, Cal.pv, Cal.rem h hw]
  refine (next_m s hl').mono ?_
  rintro _ rfl
  simp
  refine (refNext_m s hl').mono ?_
  rintro _ rfl
  simp
  refine (place_m s c.call hl').mono ?_
  rintro _ rfl
  simp
  refine (refPlace_m s c.call hl').mono ?_
  rintro _ rfl
  simp
  refine vcRet_of [] ?_ rfl
  simp [doS, h]
theorem do_m (s : St) (c : Cal) (hl : s.ws.length < 4294967295) (hw : 0 ≤ c.what) : Meets Try.prog 25 [s.pv, c.pv] [] (Ret (.tup [(doS s c).pv, .b true])) := by
  by_cases h3 : c.what % 9 = 3
  · exact do3_m s c hl h3 hw
  by_cases h4 : c.what % 9 = 4
  · exact do4_m s c hl h4 hw
  by_cases h5 : c.what % 9 = 5
  · exact do5_m s c hl h5 hw
  by_cases h6 : c.what % 9 = 6
  · exact do6_m s c hl h6 hw
  by_cases h7 : c.what % 9 = 7
  · exact do7_m s c hl h7 hw
  by_cases h8 : c.what % 9 = 8
  · exact do8_m s c hl h8 hw
  exact do0_m s c hl (by omega) hw
end Go.Proofs.Ytajkljbcfgegoaa
