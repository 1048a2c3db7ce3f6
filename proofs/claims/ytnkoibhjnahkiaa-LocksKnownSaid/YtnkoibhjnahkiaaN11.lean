/- The statement Known No condition. -/
import Derived.Test.YtnkoibhjnahkiaaN9
namespace Go.Proofs.Ytnkoibhjnahkiaa
open Go.RowKit
set_option maxRecDepth 100000

def kn2 : Sy := ⟨[⟨1, []⟩, ⟨0, []⟩], [⟨1, [], true⟩], [0]⟩
def kn3 : Sy := ⟨[⟨1, []⟩, ⟨2, []⟩], [⟨1, [], true⟩], [0]⟩
theorem kn_lock2 : onLock aw1 0 1 (lockF 1) = (aw1, 8) := by decide
theorem kn_rlock : onLock aw1 0 2 (rlockF 2) = (aw1, 9) := by decide
theorem kn_shut : onQueue aw1 0 shutF = (kn2, 0) := by decide
theorem kn_recv : onQueue kn2 0 recvF = (kn2, 0) := by decide
theorem kn_recvV : recvV kn2 0 = 0 := by decide
theorem kn_recvB : recvB kn2 0 = false := by decide
theorem kn_there5 : thereS kn2 ⟨5, 0, 0⟩ = (true, 0) := by decide
theorem kn_there6 : thereS kn2 ⟨6, 0, 0⟩ = (true, 0) := by decide
theorem kn_there0 : thereS kn2 ⟨0, 0, 0⟩ = (false, 2) := by decide
theorem kn_lock3 : onLock kn2 1 2 (lockF 2) = (kn3, 0) := by decide
theorem kn_stuck : stuckS kn3 [1, 2, 3] [⟨3, 1, 0⟩, ⟨3, 0, 0⟩, ⟨3, 0, 0⟩] = ([1, 2, 3], 0) := by
  unfold stuckS
  rw [if_neg (by decide), fin.eq_def, if_neg (by decide)]
  decide
theorem kn_free : stuckS kn3 [2, 3] [⟨3, 0, 0⟩, ⟨3, 0, 0⟩] = ([], 0) := by
  unfold stuckS
  rw [if_neg (by decide), fin.eq_def, if_pos (by decide), fin.eq_def, if_neg (by decide)]
  decide
theorem kn_fits2 : Fits kn2 := by simp [Fits, kn2]
theorem kn_fits3 : Fits kn3 := by simp [Fits, kn3]
/-- A task that is none, and a bench that was not made. -/
@[simp] def tk0 : PV := .agg [.i 0, .i 0, .i 0, .i 0, .i 0, .i 0, .i 0]
@[simp] def odd : MObj := .box 73 [.d (.v (.slice none 0 0)), .d (.v (.slice none 0 0)), .d (.v (.slice none 0 0)), .i 0, .d (.v (.slice none 0 0)), .d (.v (.slice none 0 0)), .b false]
@[simp] def nilP : PV := .d (.v (.pointer none))
@[simp] def wEnd : PV := .agg [.i 2, .i 0, .i 0]
theorem stepNil_m : Meets Try.prog 29 [nilP, tk0] [] (Ret (.tup [tk0, wEnd, .d (.v (.slice none 0 0))])) := by
  refine meetsH [] tbOk mixed Try.func29 pl29 rfl rfl ?_
  simp [Try.ntmps29, nilP, tk0]
  refine ⟨by kernel_rfl, ?_⟩
  refine vcRet_of [] ?_ rfl
  simp
theorem stepOdd_m : Meets Try.prog 29 [.ptr 1000000 0, tk0] [odd] (fun r => r = ⟨.tup [tk0, wEnd, .d (.v (.slice none 0 0))], [odd], []⟩) := by
  refine meetsH [] tbOk mixed Try.func29 pl29 rfl rfl ?_
  simp [Try.ntmps29, tk0, odd]
  refine ⟨by kernel_rfl, ?_⟩
  refine vcRet_of [] ?_ rfl
  simp
theorem saveOdd_m : Meets Try.prog 30 [.ptr 1000000 0] [odd] (fun r => r = ⟨.tup [noSy.pv, .i 0, .d (.v (.slice none 0 0))], [odd], []⟩) := by
  refine meetsH [] tbOk mixed Try.func30 pl30 rfl rfl ?_
  simp [Try.ntmps30, odd]
  refine vcRet_of [] ?_ rfl
  simp [noSy]
theorem tickNil_m (n : Int) : Meets Try.prog 31 [nilP, .i n] [] (Ret (.i 1)) := by
  refine meetsH [] tbOk mixed Try.func31 pl31 rfl rfl ?_
  simp [Try.ntmps31, nilP]
  refine vcRet_of [] ?_ rfl
  simp
theorem tickOdd_m (n : Int) : Meets Try.prog 31 [.ptr 1000000 0, .i n] [odd] (fun r => r = ⟨.i 1, [odd], []⟩) := by
  refine meetsH [] tbOk mixed Try.func31 pl31 rfl rfl ?_
  simp [Try.ntmps31, odd]
  refine vcRet_of [] ?_ rfl
  simp
theorem enOdd_m (w : Wt) : Meets Try.prog 32 [.ptr 1000000 0, tk0, w.pv2] [odd] (fun r => r = ⟨.b false, [odd], []⟩) := by
  refine meetsH [] tbOk mixed Try.func32 pl32 rfl rfl ?_
  simp [Try.ntmps32, odd, tk0]
  refine vcRet_of [] ?_ rfl
  simp
set_option maxHeartbeats 4000000 in
theorem lawKnown_m : Meets Try.prog 8 [] [] (Ret (.b true)) := by
  refine meetsH [] tbOk mixed Try.func8 pl8 rfl rfl ?_
  simp [Try.ntmps8]
  refine (new_m 2 [1] (by simp) 1).mono ?_
  rintro _ rfl
  rw [aw_new]
  simp
  refine (lock_m aw0 aw_fits0 0 1).mono ?_
  rintro _ rfl
  rw [aw_lock]
  simp
  refine (lock_m aw1 aw_fits1 0 1).mono ?_
  rintro _ rfl
  rw [kn_lock2]
  simp
  refine (rlock_m aw1 aw_fits1 0 2).mono ?_
  rintro _ rfl
  rw [kn_rlock]
  simp
  refine (shut_m aw1 aw_fits1 0).mono ?_
  rintro _ rfl
  rw [kn_shut]
  simp
  refine (recv_m kn2 kn_fits2 0).mono ?_
  rintro _ rfl
  rw [kn_recv, kn_recvV, kn_recvB]
  simp
  refine (there_m kn2 kn_fits2 ⟨5, 0, 0⟩).mono ?_
  rintro _ rfl
  rw [kn_there5]
  simp
  refine (there_m kn2 kn_fits2 ⟨6, 0, 0⟩).mono ?_
  rintro _ rfl
  rw [kn_there6]
  simp
  refine (there_m kn2 kn_fits2 ⟨0, 0, 0⟩).mono ?_
  rintro _ rfl
  rw [kn_there0]
  simp
  refine (lock_m kn2 kn_fits2 1 2).mono ?_
  rintro _ rfl
  rw [kn_lock3]
  simp
  refine (stuck_m kn3 kn_fits3 [1, 2, 3] [⟨3, 1, 0⟩, ⟨3, 0, 0⟩, ⟨3, 0, 0⟩] (by simp) (by simp)).mono ?_
  rintro _ rfl
  rw [kn_stuck]
  simp
  refine (stuck_m kn3 kn_fits3 [2, 3] [⟨3, 0, 0⟩, ⟨3, 0, 0⟩] (by simp) (by simp)).mono ?_
  rintro _ rfl
  rw [kn_free]
  simp
  refine (sameInts_m [1, 2, 3] [1, 2, 3] (by simp)).mono ?_
  rintro _ rfl
  simp
  refine (stepNil_m).mono ?_
  rintro _ rfl
  simp
  refine (stepOdd_m).mono ?_
  rintro _ rfl
  simp
  refine (saveOdd_m).mono ?_
  rintro _ rfl
  simp
  refine (tickNil_m 1).mono ?_
  rintro _ rfl
  simp
  refine (tickOdd_m 1).mono ?_
  rintro _ rfl
  simp
  refine (enOdd_m ⟨7, 0, 0⟩).mono ?_
  rintro _ rfl
  simp
  refine awake_m.mono ?_
  rintro _ rfl
  simp
  exact vcRet_of [] (by simp) rfl
end Go.Proofs.Ytnkoibhjnahkiaa
