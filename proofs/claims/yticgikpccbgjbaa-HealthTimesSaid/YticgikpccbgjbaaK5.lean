/- Contracts: what is wrong with an event by itself. No condition. -/
import Derived.Test.YticgikpccbgjbaaK4
namespace Go.Proofs.Yticgikpccbgjbaa
open Go.RowKit

def argBad (x : Ev) : Bool :=
  if x.kind = 1 then !decide (x.bk = 0) || !decide (x.id = 0) || x.ok
  else if x.kind = 2 then !decide (x.now = 0) || x.ok
  else if x.kind = 3 then !decide (x.now = 0) || !decide (x.bk = 0)
  else if x.kind = 4 then !decide (x.now = 0) || !decide (x.id = 0)
  else true
def rangeBad (x : Ev) (n : Int) : Bool := decide (x.now < 0) || decide (1000000000000 < x.now) || decide (x.bk < 0) || decide (n ≤ x.bk) || ((decide (x.kind = 2) || decide (x.kind = 3)) && (decide (x.id < 1) || decide (1000000000 < x.id)))
def ev (x : Ev) (n : Int) : Int := if argBad x then 2 else if rangeBad x n then 7 else 0
set_option maxRecDepth 100000 in
set_option maxHeartbeats 8000000 in
theorem refEvent_m (x : Ev) (n : Int) : Meets Try.prog 37 [x.pv, .i n] [] (Ret (.i (ev x n))) := by
  refine meetsH [] tbOk mixed Try.func37 pl37 rfl rfl ?_
  by_cases k1 : x.kind = 1
  · skip
    by_cases hb : x.bk = 0
    case neg =>
      simp [Try.ntmps37, k1, hb]
      refine ⟨by kernel_rfl, vcRet_of [] ?_ rfl⟩
      simp [ev, argBad, rangeBad, k1, hb]
    by_cases hi : x.id = 0
    case neg =>
      simp [Try.ntmps37, k1, hb, hi]
      refine ⟨by kernel_rfl, vcRet_of [] ?_ rfl⟩
      simp [ev, argBad, rangeBad, k1, hb, hi]
    by_cases ho : x.ok = false
    case neg =>
      simp [Try.ntmps37, k1, hb, hi, ho]
      refine ⟨by kernel_rfl, vcRet_of [] ?_ rfl⟩
      simp [ev, argBad, rangeBad, k1, hb, hi, ho]
    by_cases r1 : x.now < 0
    case pos =>
      simp [Try.ntmps37, k1, hb, hi, ho, r1]
      refine ⟨by kernel_rfl, vcRet_of [] ?_ rfl⟩
      simp [ev, argBad, rangeBad, k1, hb, hi, ho, r1]
    by_cases r2 : 1000000000000 < x.now
    case pos =>
      simp [Try.ntmps37, k1, hb, hi, ho, r1, r2]
      refine ⟨by kernel_rfl, vcRet_of [] ?_ rfl⟩
      simp [ev, argBad, rangeBad, k1, hb, hi, ho, r1, r2]
    by_cases r4 : n ≤ 0
    case pos =>
      simp [Try.ntmps37, k1, hb, hi, ho, r1, r2, r4]
      refine ⟨by kernel_rfl, vcRet_of [] ?_ rfl⟩
      simp [ev, argBad, rangeBad, k1, hb, hi, ho, r1, r2, r4]
    simp [Try.ntmps37, k1, hb, hi, ho, r1, r2, r4]
    refine ⟨by kernel_rfl, vcRet_of [] ?_ rfl⟩
    simp [ev, argBad, rangeBad, k1, hb, hi, ho, r1, r2, r4]
  by_cases k2 : x.kind = 2
  · skip
    by_cases hn : x.now = 0
    case neg =>
      simp [Try.ntmps37, k2, hn]
      refine ⟨by kernel_rfl, vcRet_of [] ?_ rfl⟩
      simp [ev, argBad, rangeBad, k2, hn]
    by_cases ho : x.ok = false
    case neg =>
      simp [Try.ntmps37, k2, hn, ho]
      refine ⟨by kernel_rfl, vcRet_of [] ?_ rfl⟩
      simp [ev, argBad, rangeBad, k2, hn, ho]
    by_cases r3 : x.bk < 0
    case pos =>
      simp [Try.ntmps37, k2, hn, ho, r3]
      refine ⟨by kernel_rfl, vcRet_of [] ?_ rfl⟩
      simp [ev, argBad, rangeBad, k2, hn, ho, r3]
    by_cases r4 : n ≤ x.bk
    case pos =>
      simp [Try.ntmps37, k2, hn, ho, r3, r4]
      refine ⟨by kernel_rfl, vcRet_of [] ?_ rfl⟩
      simp [ev, argBad, rangeBad, k2, hn, ho, r3, r4]
    by_cases r5 : x.id < 1
    case pos =>
      simp [Try.ntmps37, k2, hn, ho, r3, r4, r5]
      refine ⟨by kernel_rfl, vcRet_of [] ?_ rfl⟩
      simp [ev, argBad, rangeBad, k2, hn, ho, r3, r4, r5]
    by_cases r6 : 1000000000 < x.id
    case pos =>
      simp [Try.ntmps37, k2, hn, ho, r3, r4, r5, r6]
      refine ⟨by kernel_rfl, vcRet_of [] ?_ rfl⟩
      simp [ev, argBad, rangeBad, k2, hn, ho, r3, r4, r5, r6]
    simp [Try.ntmps37, k2, hn, ho, r3, r4, r5, r6]
    refine ⟨by kernel_rfl, vcRet_of [] ?_ rfl⟩
    simp [ev, argBad, rangeBad, k2, hn, ho, r3, r4, r5, r6]
  by_cases k3 : x.kind = 3
  · skip
    by_cases hn : x.now = 0
    case neg =>
      simp [Try.ntmps37, k3, hn]
      refine ⟨by kernel_rfl, vcRet_of [] ?_ rfl⟩
      simp [ev, argBad, rangeBad, k3, hn]
    by_cases hb : x.bk = 0
    case neg =>
      simp [Try.ntmps37, k3, hn, hb]
      refine ⟨by kernel_rfl, vcRet_of [] ?_ rfl⟩
      simp [ev, argBad, rangeBad, k3, hn, hb]
    by_cases r4 : n ≤ 0
    case pos =>
      simp [Try.ntmps37, k3, hn, hb, r4]
      refine ⟨by kernel_rfl, vcRet_of [] ?_ rfl⟩
      simp [ev, argBad, rangeBad, k3, hn, hb, r4]
    by_cases r5 : x.id < 1
    case pos =>
      simp [Try.ntmps37, k3, hn, hb, r4, r5]
      refine ⟨by kernel_rfl, vcRet_of [] ?_ rfl⟩
      simp [ev, argBad, rangeBad, k3, hn, hb, r4, r5]
    by_cases r6 : 1000000000 < x.id
    case pos =>
      simp [Try.ntmps37, k3, hn, hb, r4, r5, r6]
      refine ⟨by kernel_rfl, vcRet_of [] ?_ rfl⟩
      simp [ev, argBad, rangeBad, k3, hn, hb, r4, r5, r6]
    simp [Try.ntmps37, k3, hn, hb, r4, r5, r6]
    refine ⟨by kernel_rfl, vcRet_of [] ?_ rfl⟩
    simp [ev, argBad, rangeBad, k3, hn, hb, r4, r5, r6]
  by_cases k4 : x.kind = 4
  · skip
    by_cases hn : x.now = 0
    case neg =>
      simp [Try.ntmps37, k4, hn]
      refine ⟨by kernel_rfl, vcRet_of [] ?_ rfl⟩
      simp [ev, argBad, rangeBad, k4, hn]
    by_cases hi : x.id = 0
    case neg =>
      simp [Try.ntmps37, k4, hn, hi]
      refine ⟨by kernel_rfl, vcRet_of [] ?_ rfl⟩
      simp [ev, argBad, rangeBad, k4, hn, hi]
    by_cases r3 : x.bk < 0
    case pos =>
      simp [Try.ntmps37, k4, hn, hi, r3]
      refine ⟨by kernel_rfl, vcRet_of [] ?_ rfl⟩
      simp [ev, argBad, rangeBad, k4, hn, hi, r3]
    by_cases r4 : n ≤ x.bk
    case pos =>
      simp [Try.ntmps37, k4, hn, hi, r3, r4]
      refine ⟨by kernel_rfl, vcRet_of [] ?_ rfl⟩
      simp [ev, argBad, rangeBad, k4, hn, hi, r3, r4]
    simp [Try.ntmps37, k4, hn, hi, r3, r4]
    refine ⟨by kernel_rfl, vcRet_of [] ?_ rfl⟩
    simp [ev, argBad, rangeBad, k4, hn, hi, r3, r4]
  simp [Try.ntmps37, k1, k2, k3, k4]
  refine ⟨by kernel_rfl, vcRet_of [] ?_ rfl⟩
  simp [ev, argBad, rangeBad, k1, k2, k3, k4]
set_option maxRecDepth 100000 in
set_option maxHeartbeats 8000000 in
theorem event_m (x : Ev) (n : Int) : Meets Try.prog 51 [x.pv, .i n] [] (Ret (.i (ev x n))) := by
  refine meetsH [] tbOk mixed Try.func51 pl51 rfl rfl ?_
  by_cases k1 : x.kind = 1
  · skip
    by_cases hb : x.bk = 0
    case neg =>
      simp [Try.ntmps51, k1, hb]
      refine vcRet_of [] ?_ rfl
      simp [ev, argBad, rangeBad, k1, hb]
    by_cases hi : x.id = 0
    case neg =>
      simp [Try.ntmps51, k1, hb, hi]
      refine vcRet_of [] ?_ rfl
      simp [ev, argBad, rangeBad, k1, hb, hi]
    by_cases ho : x.ok = false
    case neg =>
      simp [Try.ntmps51, k1, hb, hi, ho]
      refine vcRet_of [] ?_ rfl
      simp [ev, argBad, rangeBad, k1, hb, hi, ho]
    by_cases r1 : x.now < 0
    case pos =>
      simp [Try.ntmps51, k1, hb, hi, ho, r1]
      refine vcRet_of [] ?_ rfl
      simp [ev, argBad, rangeBad, k1, hb, hi, ho, r1]
    by_cases r2 : 1000000000000 < x.now
    case pos =>
      simp [Try.ntmps51, k1, hb, hi, ho, r1, r2]
      refine vcRet_of [] ?_ rfl
      simp [ev, argBad, rangeBad, k1, hb, hi, ho, r1, r2]
    by_cases r4 : n ≤ 0
    case pos =>
      simp [Try.ntmps51, k1, hb, hi, ho, r1, r2, r4]
      refine vcRet_of [] ?_ rfl
      simp [ev, argBad, rangeBad, k1, hb, hi, ho, r1, r2, r4]
    simp [Try.ntmps51, k1, hb, hi, ho, r1, r2, r4]
    refine vcRet_of [] ?_ rfl
    simp [ev, argBad, rangeBad, k1, hb, hi, ho, r1, r2, r4]
  by_cases k2 : x.kind = 2
  · skip
    by_cases hn : x.now = 0
    case neg =>
      simp [Try.ntmps51, k2, hn]
      refine ⟨by kernel_rfl, vcRet_of [] ?_ rfl⟩
      simp [ev, argBad, rangeBad, k2, hn]
    by_cases ho : x.ok = false
    case neg =>
      simp [Try.ntmps51, k2, hn, ho]
      refine ⟨by kernel_rfl, vcRet_of [] ?_ rfl⟩
      simp [ev, argBad, rangeBad, k2, hn, ho]
    by_cases r3 : x.bk < 0
    case pos =>
      simp [Try.ntmps51, k2, hn, ho, r3]
      refine ⟨by kernel_rfl, vcRet_of [] ?_ rfl⟩
      simp [ev, argBad, rangeBad, k2, hn, ho, r3]
    by_cases r4 : n ≤ x.bk
    case pos =>
      simp [Try.ntmps51, k2, hn, ho, r3, r4]
      refine ⟨by kernel_rfl, vcRet_of [] ?_ rfl⟩
      simp [ev, argBad, rangeBad, k2, hn, ho, r3, r4]
    by_cases r5 : x.id < 1
    case pos =>
      simp [Try.ntmps51, k2, hn, ho, r3, r4, r5]
      refine ⟨by kernel_rfl, vcRet_of [] ?_ rfl⟩
      simp [ev, argBad, rangeBad, k2, hn, ho, r3, r4, r5]
    by_cases r6 : 1000000000 < x.id
    case pos =>
      simp [Try.ntmps51, k2, hn, ho, r3, r4, r5, r6]
      refine ⟨by kernel_rfl, vcRet_of [] ?_ rfl⟩
      simp [ev, argBad, rangeBad, k2, hn, ho, r3, r4, r5, r6]
    simp [Try.ntmps51, k2, hn, ho, r3, r4, r5, r6]
    refine ⟨by kernel_rfl, vcRet_of [] ?_ rfl⟩
    simp [ev, argBad, rangeBad, k2, hn, ho, r3, r4, r5, r6]
  by_cases k3 : x.kind = 3
  · skip
    by_cases hn : x.now = 0
    case neg =>
      simp [Try.ntmps51, k3, hn]
      refine ⟨by kernel_rfl, vcRet_of [] ?_ rfl⟩
      simp [ev, argBad, rangeBad, k3, hn]
    by_cases hb : x.bk = 0
    case neg =>
      simp [Try.ntmps51, k3, hn, hb]
      refine ⟨by kernel_rfl, vcRet_of [] ?_ rfl⟩
      simp [ev, argBad, rangeBad, k3, hn, hb]
    by_cases r4 : n ≤ 0
    case pos =>
      simp [Try.ntmps51, k3, hn, hb, r4]
      refine ⟨by kernel_rfl, vcRet_of [] ?_ rfl⟩
      simp [ev, argBad, rangeBad, k3, hn, hb, r4]
    by_cases r5 : x.id < 1
    case pos =>
      simp [Try.ntmps51, k3, hn, hb, r4, r5]
      refine ⟨by kernel_rfl, vcRet_of [] ?_ rfl⟩
      simp [ev, argBad, rangeBad, k3, hn, hb, r4, r5]
    by_cases r6 : 1000000000 < x.id
    case pos =>
      simp [Try.ntmps51, k3, hn, hb, r4, r5, r6]
      refine ⟨by kernel_rfl, vcRet_of [] ?_ rfl⟩
      simp [ev, argBad, rangeBad, k3, hn, hb, r4, r5, r6]
    simp [Try.ntmps51, k3, hn, hb, r4, r5, r6]
    refine ⟨by kernel_rfl, vcRet_of [] ?_ rfl⟩
    simp [ev, argBad, rangeBad, k3, hn, hb, r4, r5, r6]
  by_cases k4 : x.kind = 4
  · skip
    by_cases hn : x.now = 0
    case neg =>
      simp [Try.ntmps51, k4, hn]
      refine ⟨by kernel_rfl, vcRet_of [] ?_ rfl⟩
      simp [ev, argBad, rangeBad, k4, hn]
    by_cases hi : x.id = 0
    case neg =>
      simp [Try.ntmps51, k4, hn, hi]
      refine ⟨by kernel_rfl, vcRet_of [] ?_ rfl⟩
      simp [ev, argBad, rangeBad, k4, hn, hi]
    by_cases r3 : x.bk < 0
    case pos =>
      simp [Try.ntmps51, k4, hn, hi, r3]
      refine ⟨by kernel_rfl, vcRet_of [] ?_ rfl⟩
      simp [ev, argBad, rangeBad, k4, hn, hi, r3]
    by_cases r4 : n ≤ x.bk
    case pos =>
      simp [Try.ntmps51, k4, hn, hi, r3, r4]
      refine ⟨by kernel_rfl, vcRet_of [] ?_ rfl⟩
      simp [ev, argBad, rangeBad, k4, hn, hi, r3, r4]
    simp [Try.ntmps51, k4, hn, hi, r3, r4]
    refine ⟨by kernel_rfl, vcRet_of [] ?_ rfl⟩
    simp [ev, argBad, rangeBad, k4, hn, hi, r3, r4]
  simp [Try.ntmps51, k1, k2, k3, k4]
  refine vcRet_of [] ?_ rfl
  simp [ev, argBad, rangeBad, k1, k2, k3, k4]
end Go.Proofs.Yticgikpccbgjbaa
