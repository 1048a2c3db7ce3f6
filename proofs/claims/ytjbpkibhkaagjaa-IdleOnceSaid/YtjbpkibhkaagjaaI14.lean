/- Contracts: the laws' function that makes a call. No condition. -/
import Derived.Test.YtjbpkibhkaagjaaI13
namespace Go.Proofs.Ytjbpkibhkaagjaa
open Go.RowKit

structure Cal where
  what : Int
  conn : Int
  born : Int
  now : Int
@[simp] def Cal.pv (c : Cal) : PV := .agg [.d (.v (.int .u8 c.what)), .i c.conn, .i c.born, .i c.now]
@[simp] def Cal.ds (c : Cal) : List D := [.v (.int .u8 c.what), .v (.int .i64 c.conn), .v (.int .i64 c.born), .v (.int .i64 c.now)]
@[simp] def cals (l : List Cal) : D := .sl 4 (l.map Cal.ds)
/-- The state after a call. -/
def doS (s : St) (c : Cal) : St :=
  if c.what % 10 = 4 then (take s c.now).1 else if c.what % 10 = 5 then (take s c.now).1 else if c.what % 10 = 6 then (reap s c.now).1
  else if c.what % 10 = 7 then (remove s c.conn).1 else if c.what % 10 = 8 then (resize s c.born).1 else if c.what % 10 = 9 then s else (put s c.conn c.born c.now).1
theorem Cal.rem {c : Cal} {k : Int} (h : c.what % 10 = k) (hw : 0 ≤ c.what) : c.what.tmod 10 = k := by rw [Int.tmod_eq_emod_of_nonneg hw, h]
theorem left_len (s : St) (now : Int) : (left s now).length ≤ s.cs.length := List.length_filter_le _ _
theorem shut_len (s : St) (now : Int) : (shut s now).length ≤ s.cs.length := by unfold shut; rw [List.length_map]; exact List.length_filter_le _ _
theorem take_lens (s : St) (now : Int) : (take s now).1.cs.length ≤ s.cs.length ∧ (take s now).2.2.1.length ≤ s.cs.length := by
  have h1 := left_len s now
  have h2 := shut_len s now
  unfold take
  split
  · exact ⟨Nat.le_refl _, Nat.zero_le _⟩
  · split
    · exact ⟨Nat.zero_le _, h2⟩
    · exact ⟨by simp; omega, h2⟩
theorem reap_lens (s : St) (now : Int) : (reap s now).1.cs.length ≤ s.cs.length ∧ (reap s now).2.1.length ≤ s.cs.length := by
  unfold reap
  split
  · exact ⟨Nat.le_refl _, Nat.zero_le _⟩
  · exact ⟨left_len s now, shut_len s now⟩
theorem remove_lens (s : St) (n : Int) : (remove s n).1.cs.length ≤ s.cs.length := by
  unfold remove
  split
  · exact Nat.le_refl _
  · split
    · exact Nat.le_refl _
    · exact (List.eraseIdx_sublist ..).length_le
theorem resize_lens (s : St) (m : Int) : (resize s m).1.cs.length ≤ s.cs.length ∧ (resize s m).2.1.length ≤ s.cs.length := by
  unfold resize
  split
  · exact ⟨Nat.le_refl _, Nat.zero_le _⟩
  · split
    · exact ⟨Nat.le_refl _, Nat.zero_le _⟩
    · exact ⟨(List.drop_sublist ..).length_le, by rw [List.length_map]; exact (List.take_sublist ..).length_le⟩
theorem drain_lens (s : St) : (drain s).1.cs.length ≤ s.cs.length ∧ (drain s).2.1.length ≤ s.cs.length := by
  unfold drain
  split
  · exact ⟨Nat.le_refl _, Nat.zero_le _⟩
  · exact ⟨Nat.zero_le _, by simp⟩
theorem usable_lens (s : St) (now : Int) : (usable s now).1.length ≤ s.cs.length := by
  unfold usable
  split
  · exact Nat.zero_le _
  · have := left_len s now
    simpa using this
theorem put_lens (s : St) (n b now : Int) : (put s n b now).1.cs.length ≤ s.cs.length + 1 ∧ (put s n b now).2.1.length ≤ 1 := by
  unfold put
  split
  · exact ⟨Nat.le_succ _, Nat.zero_le _⟩
  split
  · exact ⟨Nat.le_succ _, Nat.zero_le _⟩
  split
  · exact ⟨Nat.le_succ _, Nat.zero_le _⟩
  split
  · exact ⟨Nat.le_succ _, Nat.le_refl _⟩
  split
  · exact ⟨by simp, Nat.zero_le _⟩
  · exact ⟨by simp, Nat.le_refl _⟩
theorem doS_len (s : St) (c : Cal) : (doS s c).cs.length ≤ s.cs.length + 1 := by
  unfold doS
  split
  · exact Nat.le_succ_of_le (take_lens _ _).1
  split
  · exact Nat.le_succ_of_le (take_lens _ _).1
  split
  · exact Nat.le_succ_of_le (reap_lens _ _).1
  split
  · exact Nat.le_succ_of_le (remove_lens _ _)
  split
  · exact Nat.le_succ_of_le (resize_lens _ _).1
  split
  · exact Nat.le_succ _
  · exact (put_lens _ _ _ _).1
set_option maxRecDepth 20000 in
set_option maxHeartbeats 8000000 in
theorem do4_m (s : St) (c : Cal) (hl : s.cs.length < 4294967295) (h : c.what % 10 = 4) (hw : 0 ≤ c.what) : Meets Try.prog 24 [s.pv, c.pv] [] (Ret (.tup [(doS s c).pv, .b true])) := by
  refine meetsH [] tbOk mixed Try.func24 pl24 rfl rfl ?_
  have hl' : s.cs.length < 4294967296 := by omega
  have hb := take_lens s c.now
  simp [Try.ntmps24, Cal.rem h hw]
  refine (take_m s c.now hl').mono ?_
  rintro _ rfl
  simp
  refine (refTake_m s c.now hl').mono ?_
  rintro _ rfl
  simp
  refine effCall (sameNumbers_m _ _ (Nat.lt_of_le_of_lt hb.2 hl')) ?_
  simp
  refine effCall (same_m _ _ (Nat.lt_of_le_of_lt hb.1 hl')) ?_
  simp
  refine ⟨by kernel_rfl, vcRet_of [] ?_ rfl⟩
  simp [doS, h]
set_option maxRecDepth 20000 in
set_option maxHeartbeats 8000000 in
theorem do5_m (s : St) (c : Cal) (hl : s.cs.length < 4294967295) (h : c.what % 10 = 5) (hw : 0 ≤ c.what) : Meets Try.prog 24 [s.pv, c.pv] [] (Ret (.tup [(doS s c).pv, .b true])) := by
  refine meetsH [] tbOk mixed Try.func24 pl24 rfl rfl ?_
  have hl' : s.cs.length < 4294967296 := by omega
  have hb := take_lens s c.now
  simp [Try.ntmps24, Cal.rem h hw]
  refine (take_m s c.now hl').mono ?_
  rintro _ rfl
  simp
  refine (refTake_m s c.now hl').mono ?_
  rintro _ rfl
  simp
  refine effCall (sameNumbers_m _ _ (Nat.lt_of_le_of_lt hb.2 hl')) ?_
  simp
  refine effCall (same_m _ _ (Nat.lt_of_le_of_lt hb.1 hl')) ?_
  simp
  refine ⟨by kernel_rfl, vcRet_of [] ?_ rfl⟩
  simp [doS, h]
set_option maxRecDepth 20000 in
set_option maxHeartbeats 8000000 in
theorem do6_m (s : St) (c : Cal) (hl : s.cs.length < 4294967295) (h : c.what % 10 = 6) (hw : 0 ≤ c.what) : Meets Try.prog 24 [s.pv, c.pv] [] (Ret (.tup [(doS s c).pv, .b true])) := by
  refine meetsH [] tbOk mixed Try.func24 pl24 rfl rfl ?_
  have hl' : s.cs.length < 4294967296 := by omega
  have hb := reap_lens s c.now
  simp [Try.ntmps24, Cal.rem h hw]
  refine (reap_m s c.now hl').mono ?_
  rintro _ rfl
  simp
  refine (refReap_m s c.now hl').mono ?_
  rintro _ rfl
  simp
  refine effCall (sameNumbers_m _ _ (Nat.lt_of_le_of_lt hb.2 hl')) ?_
  simp
  refine effCall (same_m _ _ (Nat.lt_of_le_of_lt hb.1 hl')) ?_
  simp
  refine ⟨by kernel_rfl, vcRet_of [] ?_ rfl⟩
  simp [doS, h]
set_option maxRecDepth 20000 in
set_option maxHeartbeats 8000000 in
theorem do7_m (s : St) (c : Cal) (hl : s.cs.length < 4294967295) (h : c.what % 10 = 7) (hw : 0 ≤ c.what) : Meets Try.prog 24 [s.pv, c.pv] [] (Ret (.tup [(doS s c).pv, .b true])) := by
  refine meetsH [] tbOk mixed Try.func24 pl24 rfl rfl ?_
  have hl' : s.cs.length < 4294967296 := by omega
  have hb := remove_lens s c.conn
  simp [Try.ntmps24, Cal.rem h hw]
  refine (remove_m s c.conn hl').mono ?_
  rintro _ rfl
  simp
  refine (refRemove_m s c.conn hl').mono ?_
  rintro _ rfl
  simp
  refine effCall (same_m _ _ (Nat.lt_of_le_of_lt hb hl')) ?_
  simp
  refine ⟨by kernel_rfl, vcRet_of [] ?_ rfl⟩
  simp [doS, h]
set_option maxRecDepth 20000 in
set_option maxHeartbeats 8000000 in
theorem do8_m (s : St) (c : Cal) (hl : s.cs.length < 4294967295) (h : c.what % 10 = 8) (hw : 0 ≤ c.what) : Meets Try.prog 24 [s.pv, c.pv] [] (Ret (.tup [(doS s c).pv, .b true])) := by
  refine meetsH [] tbOk mixed Try.func24 pl24 rfl rfl ?_
  have hl' : s.cs.length < 4294967296 := by omega
  have hb := resize_lens s c.born
  simp [Try.ntmps24, Cal.rem h hw]
  refine (resize_m s c.born hl').mono ?_
  rintro _ rfl
  simp
  refine (refResize_m s c.born hl').mono ?_
  rintro _ rfl
  simp
  refine effCall (sameNumbers_m _ _ (Nat.lt_of_le_of_lt hb.2 hl')) ?_
  simp
  refine effCall (same_m _ _ (Nat.lt_of_le_of_lt hb.1 hl')) ?_
  simp
  refine ⟨by kernel_rfl, vcRet_of [] ?_ rfl⟩
  simp [doS, h]
set_option maxRecDepth 20000 in
set_option maxHeartbeats 8000000 in
theorem do9_m (s : St) (c : Cal) (hl : s.cs.length < 4294967295) (h : c.what % 10 = 9) (hw : 0 ≤ c.what) : Meets Try.prog 24 [s.pv, c.pv] [] (Ret (.tup [(doS s c).pv, .b true])) := by
  refine meetsH [] tbOk mixed Try.func24 pl24 rfl rfl ?_
  have hl' : s.cs.length < 4294967296 := by omega
  have hb := drain_lens s
  have hb2 := usable_lens s c.now
  simp [Try.ntmps24, Cal.rem h hw]
  refine (next_m s hl').mono ?_
  rintro _ rfl
  simp
  refine (refNext_m s hl').mono ?_
  rintro _ rfl
  simp
  refine (usable_m s c.now hl').mono ?_
  rintro _ rfl
  simp
  refine (refUsable_m s c.now hl').mono ?_
  rintro _ rfl
  simp
  refine (drain_m s hl').mono ?_
  rintro _ rfl
  simp
  refine (refDrain_m s hl').mono ?_
  rintro _ rfl
  simp
  refine effCall (sameNumbers_m _ _ (Nat.lt_of_le_of_lt hb2 hl')) ?_
  simp
  refine effCall (sameNumbers_m _ _ (Nat.lt_of_le_of_lt hb.2 hl')) ?_
  simp
  refine effCall (same_m _ _ (Nat.lt_of_le_of_lt hb.1 hl')) ?_
  simp
  refine ⟨by kernel_rfl, vcRet_of [] ?_ rfl⟩
  simp [doS, h]
set_option maxRecDepth 20000 in
set_option maxHeartbeats 8000000 in
theorem doPut_m (s : St) (c : Cal) (hl : s.cs.length < 4294967295) (h4 : ¬ c.what % 10 = 4) (h5 : ¬ c.what % 10 = 5) (h6 : ¬ c.what % 10 = 6) (h7 : ¬ c.what % 10 = 7) (h8 : ¬ c.what % 10 = 8) (h9 : ¬ c.what % 10 = 9) (hw : 0 ≤ c.what) : Meets Try.prog 24 [s.pv, c.pv] [] (Ret (.tup [(doS s c).pv, .b true])) := by
  refine meetsH [] tbOk mixed Try.func24 pl24 rfl rfl ?_
  have hl' : s.cs.length < 4294967296 := by omega
  have hb := put_lens s c.conn c.born c.now
  have g : c.what.tmod 10 = c.what % 10 := Int.tmod_eq_emod_of_nonneg hw
  simp [Try.ntmps24, g, h4, h5, h6, h7, h8, h9]
  refine (put_m s c.conn c.born c.now hl').mono ?_
  rintro _ rfl
  simp
  refine (refPut_m s c.conn c.born c.now hl').mono ?_
  rintro _ rfl
  simp
  refine effCall (sameNumbers_m _ _ (by omega)) ?_
  simp
  refine effCall (same_m _ _ (by omega)) ?_
  simp
  refine ⟨by kernel_rfl, vcRet_of [] ?_ rfl⟩
  simp [doS, h4, h5, h6, h7, h8, h9]
theorem do_m (s : St) (c : Cal) (hl : s.cs.length < 4294967295) (hw : 0 ≤ c.what) : Meets Try.prog 24 [s.pv, c.pv] [] (Ret (.tup [(doS s c).pv, .b true])) := by
  by_cases h4 : c.what % 10 = 4
  · exact do4_m s c hl h4 hw
  by_cases h5 : c.what % 10 = 5
  · exact do5_m s c hl h5 hw
  by_cases h6 : c.what % 10 = 6
  · exact do6_m s c hl h6 hw
  by_cases h7 : c.what % 10 = 7
  · exact do7_m s c hl h7 hw
  by_cases h8 : c.what % 10 = 8
  · exact do8_m s c hl h8 hw
  by_cases h9 : c.what % 10 = 9
  · exact do9_m s c hl h9 hw
  exact doPut_m s c hl h4 h5 h6 h7 h8 h9 hw
end Go.Proofs.Ytjbpkibhkaagjaa
