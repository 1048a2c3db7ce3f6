/- Locks: contracts (N4). No condition. -/
import Derived.Test.YtnkoibhjnahkiaaN1
namespace Go.Proofs.Ytnkoibhjnahkiaa
open Go.RowKit

theorem between_m (n a b : Int) : Meets Try.prog 33 [.i n, .i a, .i b] [] (Ret (.b (decide (a ≤ n) && decide (n ≤ b)))) := by
  refine meets tbOk mixed Try.func33 pl33 rfl rfl ?_
  by_cases h : a ≤ n
  · simp [Try.ntmps33, h]
    exact vcRet_of [] (by simp) rfl
  · simp [Try.ntmps33, h]
    exact vcRet_of [] (by simp) rfl
set_option maxRecDepth 100000 in
set_option maxHeartbeats 1000000 in
theorem long_m (s : Sy) (hf : Fits s) : Meets Try.prog 41 [s.pv] [] (Ret (.b (long s))) := by
  obtain ⟨f1, f2, f3, f4, f5⟩ := hf
  refine meetsH [] tbOk mixed Try.func41 pl41 rfl rfl ?_
  simp [Try.ntmps41]
  refine vc_loop (fun n σ => ∃ k : Nat, n = s.queues.length - k ∧ k ≤ s.queues.length ∧ noneTo over s.queues k ∧ σ = ⟨41, [(3, .i k), (1, .ptr 1 0)], [(1, s.box)]⟩) ?_ ?_
  · exact ⟨_, _, ⟨0, rfl, Nat.zero_le _, noneTo_zero _ _, rfl⟩, [], _, rfl, by simp⟩
  rintro n σ ⟨k, rfl, hk, hn, rfl⟩
  by_cases hlt : k < s.queues.length
  · obtain ⟨x, hx, e⟩ := at_lt hlt
    by_cases ho : x.room < x.items.length
    · simp [hlt, e, ho]
      refine ⟨by kernel_rfl, ?_⟩
      refine vcRet_of [] ?_ rfl
      simp [long, any_at hx (show over x = true by simp [over, ho])]
    · simp [hlt, e, ho, wrap_succ hlt f2]
      refine ⟨by kernel_rfl, ?_⟩
      refine ⟨_, ?_, _, ⟨k + 1, rfl, hlt, noneTo_succ hn hx (by simp [over]; omega), rfl⟩, [], _, rfl, by simp⟩
      omega
  obtain rfl : k = s.queues.length := by omega
  have h0 := noneTo_any hn
  by_cases h1 : (16 : Int) < s.locks.length
  · simp [h1]
    refine vcRet_of [] ?_ rfl
    simp [long, show 16 < s.locks.length by omega]
  by_cases h2 : (16 : Int) < s.queues.length
  · simp [h1, h2]
    refine vcRet_of [] ?_ rfl
    simp [long, show 16 < s.queues.length by omega]
  simp [h1, h2]
  refine vcRet_of [] ?_ rfl
  simp [long, h0, show ¬ 16 < s.locks.length by omega, show ¬ 16 < s.queues.length by omega]
  omega
set_option maxRecDepth 100000 in
set_option maxHeartbeats 2000000 in
theorem refRanges_m (s : Sy) (hf : Fits s) : Meets Try.prog 42 [s.pv] [] (Ret (.b (ranges s))) := by
  obtain ⟨f1, f2, f3, f4, f5⟩ := hf
  refine meetsH [] tbOk mixed Try.func42 pl42 rfl rfl ?_
  simp [Try.ntmps42]
  refine vc_loop (fun n σ => ∃ k : Nat, n = s.locks.length - k ∧ k ≤ s.locks.length ∧ noneTo (fun l => !lkOk l) s.locks k ∧ σ = ⟨67, [(3, .i k), (1, .ptr 1 0)], [(1, s.box)]⟩) ?_ ?_
  · exact ⟨_, _, ⟨0, rfl, Nat.zero_le _, noneTo_zero _ _, rfl⟩, [], _, rfl, by simp⟩
  rintro n σ ⟨k, rfl, hk, hn, rfl⟩
  by_cases hlt : k < s.locks.length
  · obtain ⟨x, hx, e⟩ := at_lt hlt
    have hxm := List.mem_of_getElem? hx
    have hbad : lkOk x = false → ranges s = false := fun h => by unfold ranges; rw [all_at hx h]; rfl
    simp [hlt, e]
    refine (between_m x.hold 0 200).mono ?_
    rintro _ rfl
    by_cases h0 : 0 ≤ x.hold ∧ x.hold ≤ 200
    case neg =>
      have h0' : (decide (0 ≤ x.hold) && decide (x.hold ≤ 200)) = false := by rw [Bool.eq_false_iff]; simpa using h0
      simp [h0']
      exact vcRet_of [] (by simp [hbad (by simp [lkOk, inT]; omega)]) rfl
    simp [h0.1, h0.2]
    refine vc_loop (fun n' σ => ∃ j : Nat, n' = x.rd.length - j ∧ j ≤ x.rd.length ∧ noneTo (fun y => !inT y) x.rd j ∧ σ = ⟨67, [(5, .i j), (4, .ptr 4 0), (3, .i k), (1, .ptr 1 0)], [(4, .box 57 [.i x.hold, .d (il x.rd)]), (1, s.box)]⟩) ?_ ?_
    · exact ⟨_, _, ⟨0, rfl, Nat.zero_le _, noneTo_zero _ _, rfl⟩, [], _, rfl, by simp⟩
    rintro n' σ ⟨j, rfl, hj, hnj, rfl⟩
    by_cases hjt : j < x.rd.length
    · obtain ⟨y, hy, ey⟩ := at_lt hjt
      simp [hjt, ey]
      refine (between_m y 1 200).mono ?_
      rintro _ rfl
      cases hb : inT y
      · have hb' : (decide (1 ≤ y) && decide (y ≤ 200)) = false := hb
        simp [hb']
        refine vcRet_of [] ?_ rfl
        have : lkOk x = false := by unfold lkOk; rw [all_at hy hb]; simp
        simp [hbad this]
      · have hb' : (decide (1 ≤ y) && decide (y ≤ 200)) = true := hb
        simp [hb', wrap_succ hjt (f4 x hxm)]
        refine ⟨_, ?_, _, ⟨j + 1, rfl, hjt, noneTo_succ hnj hy (by simp [hb]), rfl⟩, [], _, rfl, by simp⟩
        omega
    obtain rfl : j = x.rd.length := by omega
    simp [wrap_succ hlt f1]
    refine ⟨_, ?_, _, ⟨k + 1, rfl, hlt, noneTo_succ hn hx ?_, rfl⟩, [], _, rfl, by simp⟩
    · omega
    · have h9 : x.rd.all inT = true := noneTo_all hnj fun _ => rfl
      unfold lkOk
      rw [h9]
      simp [inT]
      omega
  obtain rfl : k = s.locks.length := by omega
  have hlk : s.locks.all lkOk = true := noneTo_all hn fun _ => rfl
  simp
  refine vc_loop (fun n σ => ∃ k : Nat, n = s.queues.length - k ∧ k ≤ s.queues.length ∧ noneTo (fun q => !quOk q) s.queues k ∧ σ = ⟨67, [(6, .i k), (1, .ptr 1 0)], [(1, s.box)]⟩) ?_ ?_
  · exact ⟨_, _, ⟨0, rfl, Nat.zero_le _, noneTo_zero _ _, rfl⟩, [], _, rfl, by simp⟩
  rintro n σ ⟨k, rfl, hk, hn, rfl⟩
  by_cases hlt : k < s.queues.length
  · obtain ⟨x, hx, e⟩ := at_lt hlt
    simp [hlt, e]
    refine (between_m x.room 1 64).mono ?_
    rintro _ rfl
    cases hb : quOk x
    · have hb' : (decide (1 ≤ x.room) && decide (x.room ≤ 64)) = false := hb
      simp [hb']
      refine vcRet_of [] ?_ rfl
      have : ranges s = false := by unfold ranges; rw [all_at hx hb]; simp
      simp [this]
    · have hb' : (decide (1 ≤ x.room) && decide (x.room ≤ 64)) = true := hb
      simp [hb', wrap_succ hlt f2]
      refine ⟨_, ?_, _, ⟨k + 1, rfl, hlt, noneTo_succ hn hx (by simp [hb]), rfl⟩, [], _, rfl, by simp⟩
      omega
  obtain rfl : k = s.queues.length := by omega
  have hqu : s.queues.all quOk = true := noneTo_all hn fun _ => rfl
  simp
  refine vc_loop (fun n σ => ∃ k : Nat, n = s.groups.length - k ∧ k ≤ s.groups.length ∧ noneTo (fun q => !grOk q) s.groups k ∧ σ = ⟨67, [(7, .i k), (1, .ptr 1 0)], [(1, s.box)]⟩) ?_ ?_
  · exact ⟨_, _, ⟨0, rfl, Nat.zero_le _, noneTo_zero _ _, rfl⟩, [], _, rfl, by simp⟩
  rintro n σ ⟨k, rfl, hk, hn, rfl⟩
  by_cases hlt : k < s.groups.length
  · obtain ⟨x, hx, e⟩ := at_lt hlt
    simp [hlt, e]
    refine (between_m x 0 1000).mono ?_
    rintro _ rfl
    cases hb : grOk x
    · have hb' : (decide (0 ≤ x) && decide (x ≤ 1000)) = false := hb
      simp [hb']
      refine vcRet_of [] ?_ rfl
      have : ranges s = false := by unfold ranges; rw [all_at hx hb]; simp
      simp [this]
    · have hb' : (decide (0 ≤ x) && decide (x ≤ 1000)) = true := hb
      simp [hb', wrap_succ hlt f3]
      refine ⟨_, ?_, _, ⟨k + 1, rfl, hlt, noneTo_succ hn hx (by simp [hb]), rfl⟩, [], _, rfl, by simp⟩
      omega
  obtain rfl : k = s.groups.length := by omega
  have hgr : s.groups.all grOk = true := noneTo_all hn fun _ => rfl
  simp
  exact vcRet_of [] (by simp [ranges, hlk, hqu, hgr]) rfl
end Go.Proofs.Ytnkoibhjnahkiaa
namespace Go.Proofs.Ytnkoibhjnahkiaa
open Go.RowKit

set_option maxRecDepth 100000 in
set_option maxHeartbeats 2000000 in
theorem refCheck_m (s : Sy) (hf : Fits s) : Meets Try.prog 18 [s.pv] [] (Ret (.i (chk s))) := by
  have hf0 := hf
  obtain ⟨f1, f2, f3, f4, f5⟩ := hf
  refine meetsH [] tbOk mixed Try.func18 pl18 rfl rfl ?_
  simp [Try.ntmps18]
  refine (long_m s hf0).mono ?_
  rintro _ rfl
  cases hlg : long s
  case true =>
    simp
    exact vcRet_of [] (by simp [chk, hlg]) rfl
  simp
  refine (refRanges_m s hf0).mono ?_
  rintro _ rfl
  cases hr : ranges s
  case false =>
    simp
    exact vcRet_of [] (by simp [chk, hlg, hr]) rfl
  have hc : chk s = if s.locks.all formOk then 0 else 6 := by simp [chk, hlg, hr]
  simp
  refine vc_loop (fun n σ => ∃ k : Nat, n = s.locks.length - k ∧ k ≤ s.locks.length ∧ noneTo (fun l => !formOk l) s.locks k ∧ σ = ⟨51, [(3, .i k), (1, .ptr 1 0)], [(1, s.box)]⟩) ?_ ?_
  · exact ⟨_, _, ⟨0, rfl, Nat.zero_le _, noneTo_zero _ _, rfl⟩, [], _, rfl, by simp⟩
  rintro n σ ⟨k, rfl, hk, hn, rfl⟩
  by_cases hlt : k < s.locks.length
  case neg =>
    obtain rfl : k = s.locks.length := by omega
    simp
    exact vcRet_of [] (by simp [hc, noneTo_all hn fun _ => rfl]) rfl
  obtain ⟨x, hx, e⟩ := at_lt hlt
  have hxl := f4 x (List.mem_of_getElem? hx)
  have hbad : formOk x = false → chk s = 6 := fun h => by rw [hc, all_at hx h]; rfl
  by_cases hb : 0 < x.hold ∧ 0 < x.rd.length
  · simp [hlt, e, hb.1, hb.2]
    exact vcRet_of [] (by simp [hbad (by simp [formOk, hb.1, hb.2])]) rfl
  have hfo : formOk x = asc x.rd := by
    unfold formOk
    have : (decide (0 < x.hold) && decide (0 < x.rd.length)) = false := by
      rw [Bool.eq_false_iff]; simpa using hb
    rw [this]; rfl
  have asc0 : ∀ j : Nat, j ≤ 1 → ascTo x.rd j = true := fun j hj => by
    rcases j with _ | _ | j
    · rfl
    · rfl
    · omega
  have hcase : (0 < x.hold ∧ ¬ 0 < x.rd.length) ∨ ¬ 0 < x.hold := by omega
  rcases hcase with h1 | h1
  case' inl => simp [hlt, e, h1.1, h1.2]
  case' inr => simp [hlt, e, h1]
  all_goals
    refine vc_loop (fun n' σ => ∃ j : Nat, n' = x.rd.length + 1 - j ∧ 1 ≤ j ∧ j ≤ x.rd.length + 1 ∧ ascTo x.rd (min j x.rd.length) = true ∧ σ = ⟨51, [(5, .i j), (4, .ptr 4 0), (3, .i k), (1, .ptr 1 0)], [(4, .box 57 [.i x.hold, .d (il x.rd)]), (1, s.box)]⟩) ?_ ?_
    · exact ⟨_, _, ⟨1, rfl, Nat.le_refl _, by omega, asc0 _ (by omega), rfl⟩, [], _, rfl, by simp⟩
    rintro n' σ ⟨j, rfl, hj1, hj2, ha, rfl⟩
    by_cases hj : j < x.rd.length
    · obtain ⟨j, rfl⟩ : ∃ i, j = i + 1 := ⟨j - 1, by omega⟩
      obtain ⟨y, hy, ey⟩ := at_lt hj
      have hj3 : j < x.rd.length := by omega
      obtain ⟨z, hz, ez⟩ := at_lt hj3
      have hjj : (j : Int) + 1 < x.rd.length := by omega
      have hw : IntKind.i64.wrap (j : Int) = j := IntWalk.i64_in _ (by omega)
      have hw2 : IntKind.i64.wrap ((j : Int) + 1 + 1) = j + 1 + 1 := IntWalk.i64_in _ (by omega)
      have hnat : ((j : Int) + 1).toNat = j + 1 := by omega
      have h0 : (0 : Int) ≤ (j : Int) + 1 := by omega
      have hnext : ascTo x.rd (j + 1 + 1) = (ascTo x.rd (j + 1) && decide (z < y)) := by
        rw [ascTo]
        simp [List.getD_eq_getElem?_getD, hy, hz]
      rw [Nat.min_eq_left (by omega)] at ha
      by_cases hyz : y ≤ z
      · simp [hjj, h0, hw, hj3, hj, hnat, ez, ey, hyz]
        refine ⟨by kernel_rfl, ?_⟩
        refine vcRet_of [] ?_ rfl
        have : formOk x = false := by
          rw [hfo]
          cases hq : asc x.rd with
          | false => rfl
          | true =>
            have := ascTo_mono (show j + 1 + 1 ≤ x.rd.length by omega) (by rw [ascTo_len]; exact hq)
            rw [hnext, ha] at this
            simp at this
            omega
        simp [hbad this]
      · simp [hjj, h0, hw, hj3, hj, hnat, ez, ey, hyz, hw2]
        refine ⟨by kernel_rfl, ?_⟩
        refine ⟨_, ?_, _, ⟨j + 1 + 1, rfl, by omega, by omega, ?_, rfl⟩, [], _, rfl, by simp⟩
        · omega
        · rw [Nat.min_eq_left (by omega), hnext, ha]
          simp; omega
    · have hfk : formOk x = true := by
        rw [hfo, ← ascTo_len]
        rw [Nat.min_eq_right (by omega)] at ha
        exact ha
      simp [hj, wrap_succ hlt f1]
      refine ⟨_, ?_, _, ⟨k + 1, rfl, hlt, noneTo_succ hn hx (by simp [hfk]), rfl⟩, [], _, rfl, by simp⟩
      omega
theorem reads_m (l : Lk) (hl : l.rd.length < 4294967296) (t : Int) : Meets Try.prog 62 [l.pv, .i t] [] (Ret (.b (decide (t ∈ l.rd)))) := by
  refine meetsH [] tbOk mixed Try.func62 pl62 rfl rfl ?_
  simp [Try.ntmps62]
  refine vc_loop (fun n σ => ∃ k : Nat, n = l.rd.length - k ∧ k ≤ l.rd.length ∧ noneTo (fun y => decide (y = t)) l.rd k ∧ σ = ⟨20, [(5, .i k), (2, .ptr 2 0), (1, .i t)], [(2, .box 57 [.i l.hold, .d (il l.rd)])]⟩) ?_ ?_
  · exact ⟨_, _, ⟨0, rfl, Nat.zero_le _, noneTo_zero _ _, rfl⟩, [], _, rfl, by simp⟩
  rintro n σ ⟨k, rfl, hk, hn, rfl⟩
  by_cases hlt : k < l.rd.length
  · obtain ⟨x, hx, e⟩ := at_lt hlt
    by_cases h : x = t
    · subst h
      simp [hlt, e]
      exact vcRet_of [] (by simp [List.mem_of_getElem? hx]) rfl
    · simp [hlt, e, h, wrap_succ hlt hl]
      refine ⟨_, ?_, _, ⟨k + 1, rfl, hlt, noneTo_succ hn hx (by simp [h]), rfl⟩, [], _, rfl, by simp⟩
      omega
  obtain rfl : k = l.rd.length := by omega
  simp
  refine vcRet_of [] ?_ rfl
  have := noneTo_any hn
  have h9 : ¬ t ∈ l.rd := fun h => by
    have := List.any_eq_false.1 this t h
    simp at this
  simp [h9]
set_option maxHeartbeats 1000000 in
theorem known_m (s : Sy) (hf : Fits s) (lock t : Int) : Meets Try.prog 79 [s.pv, .i lock, .i t] [] (Ret (.i (known s lock t))) := by
  refine meetsH [] tbOk mixed Try.func79 pl79 rfl rfl ?_
  simp [Try.ntmps79]
  refine (refCheck_m s hf).mono ?_
  rintro _ rfl
  by_cases hc : chk s = 0
  case neg =>
    simp [hc]
    refine vcRet_of [] ?_ rfl
    simp [known, hc]
  by_cases h1 : lock < 0
  · simp [hc, h1]
    refine vcRet_of [] ?_ rfl
    simp [known, hc, h1]
  by_cases h2 : (s.locks.length : Int) ≤ lock
  · simp [hc, h1, h2]
    refine vcRet_of [] ?_ rfl
    simp [known, hc, h2]
  simp [hc, h1, h2]
  refine (between_m t 1 200).mono ?_
  rintro _ rfl
  cases ht : inT t
  · have ht' : (decide (1 ≤ t) && decide (t ≤ 200)) = false := ht
    simp [ht']
    refine vcRet_of [] ?_ rfl
    simp [known, hc, h1, h2, ht]
  · have ht' : (decide (1 ≤ t) && decide (t ≤ 200)) = true := ht
    simp [ht']
    refine vcRet_of [] ?_ rfl
    simp [known, hc, h1, h2, ht]
set_option maxHeartbeats 1000000 in
theorem queue_m (s : Sy) (hf : Fits s) (n : Int) : Meets Try.prog 82 [s.pv, .i n] [] (Ret (.i (queueE s n))) := by
  refine meetsH [] tbOk mixed Try.func82 pl82 rfl rfl ?_
  simp [Try.ntmps82]
  refine (refCheck_m s hf).mono ?_
  rintro _ rfl
  by_cases hc : chk s = 0
  case neg =>
    simp [hc]
    refine vcRet_of [] ?_ rfl
    simp [queueE, hc]
  by_cases h1 : n < 0
  · simp [hc, h1]
    refine vcRet_of [] ?_ rfl
    simp [queueE, hc, h1]
  by_cases h2 : (s.queues.length : Int) ≤ n
  · simp [hc, h1, h2]
    refine vcRet_of [] ?_ rfl
    simp [queueE, hc, h2]
  simp [hc, h1, h2]
  refine vcRet_of [] ?_ rfl
  simp [queueE, hc, h1, h2]
end Go.Proofs.Ytnkoibhjnahkiaa
namespace Go.Proofs.Ytnkoibhjnahkiaa
open Go.RowKit

@[simp] def nil3 : List PV := [.d (.v (.slice none 0 0)), .d (.v (.slice none 0 0)), .d (.v (.slice none 0 0))]
set_option maxRecDepth 100000 in
set_option maxHeartbeats 1600000 in
theorem copy_m (s : Sy) (hf : Fits s) : Meets Try.prog 19 [s.pv] [] (fun r => r = ⟨.agg [.rw 2000000 s.locks.length, .rw 2000001 s.queues.length, .rw 2000002 s.groups.length], [], [nestL s.locks s.locks.length, nestQ s.queues s.queues.length, .row 3 1 (s.groups.map ics) false]⟩) := by
  obtain ⟨f1, f2, f3, f4, f5⟩ := hf
  refine meetsP [(3, [.nest 5 [(1, 3)]]), (17, [.focus 5 3 []]), (15, [.shut 5]), (4, [.nest 30 [(1, 2)]]), (42, [.focus 30 4 []]), (40, [.shut 30])] tbOk mixed Try.func19 pl19 rfl rfl ?_
  simp [Try.ntmps19, Prep.run]
  refine ⟨f1, ?_⟩
  refine vc_loop (fun n σ => ∃ k : Nat, n = s.locks.length - k ∧ k ≤ s.locks.length ∧ σ = ⟨61, [(3, .i k), (1, .ptr 1 0), (2, .ptr 2 0)], [(1, .box 27 [.rw 5 s.locks.length, .d (qus s.queues), .d (il s.groups)]), (5, nestL s.locks k), (2, .box 27 nil3)]⟩) ?_ ?_
  · exact ⟨_, _, ⟨0, rfl, Nat.zero_le _, rfl⟩, [], _, rfl, by simp⟩
  rintro n σ ⟨k, rfl, hk, rfl⟩
  by_cases hlt : k < s.locks.length
  · obtain ⟨x, hx, e⟩ := at_lt hlt
    simp [hlt, e, Prep.run, setL s.locks hx, wrap_succ hlt f1]
    refine ⟨f4 x (List.mem_of_getElem? hx), by kernel_rfl, ?_⟩
    refine ⟨_, ?_, _, ⟨k + 1, rfl, hlt, rfl⟩, [], _, rfl, by simp [upTo_succ]⟩
    omega
  obtain rfl : k = s.locks.length := by omega
  simp [Prep.run]
  refine ⟨f2, ?_⟩
  refine vc_loop (fun n σ => ∃ k : Nat, n = s.queues.length - k ∧ k ≤ s.queues.length ∧ σ = ⟨61, [(4, .i k), (1, .ptr 1 0), (2, .ptr 2 0)], [(1, .box 27 [.rw 5 s.locks.length, .rw 30 s.queues.length, .d (il s.groups)]), (5, nestL s.locks s.locks.length), (30, nestQ s.queues k), (2, .box 27 nil3)]⟩) ?_ ?_
  · exact ⟨_, _, ⟨0, rfl, Nat.zero_le _, rfl⟩, [], _, rfl, by simp⟩
  rintro n σ ⟨k, rfl, hk, rfl⟩
  by_cases hlt : k < s.queues.length
  · obtain ⟨x, hx, e⟩ := at_lt hlt
    simp [hlt, e, Prep.run, setQ s.queues hx, wrap_succ hlt f2]
    refine ⟨f5 x (List.mem_of_getElem? hx), by kernel_rfl, ?_⟩
    refine ⟨_, ?_, _, ⟨k + 1, rfl, hlt, rfl⟩, [], _, rfl, by simp [upTo_succ]⟩
    omega
  obtain rfl : k = s.queues.length := by omega
  simp
  refine ⟨f3, ?_⟩
  refine vcRet_of [5, 30, 55] ?_ rfl
  simp
  exact ⟨rfl, rfl⟩
end Go.Proofs.Ytnkoibhjnahkiaa
namespace Go.Proofs.Ytnkoibhjnahkiaa
open Go.RowKit

theorem idx3 {p : Nat → Prop} (h0 : p 0) (h1 : p 1) (h2 : p 2) : ∀ i, i < 3 → p i := fun i hi => by
  have : i = 0 ∨ i = 1 ∨ i = 2 := by omega
  rcases this with rfl | rfl | rfl <;> assumption
set_option maxRecDepth 100000 in
set_option maxHeartbeats 2000000 in
theorem refLock_m (s : Sy) (hf : Fits s) (lock t : Int) : Meets Try.prog 56 [s.pv, .i lock, .i t] [] (Ret (.tup [(onLock s lock t (lockF t)).1.pv, .i (onLock s lock t (lockF t)).2])) := by
  have hf0 := hf
  obtain ⟨f1, f2, f3, f4, f5⟩ := hf
  refine meetsP [(46, [.focus 45 1 [(1, 900000)]]), (52, [.seenN 45 1, .close 45, .unnest 45, .unnest 10045])] tbOk mixed Try.func56 pl56 rfl rfl ?_
  simp [Try.ntmps56]
  refine (known_m s hf0 lock t).mono ?_
  rintro _ rfl
  by_cases hk : known s lock t = 0
  case neg =>
    simp [hk]
    refine vcRet_of [] ?_ rfl
    simp [onLock, hk]
  obtain ⟨g1, g2⟩ := known_lt hk
  have hlt : lock.toNat < s.locks.length := by omega
  obtain ⟨x, hx, e⟩ := at_lt hlt
  have hl := f4 x (List.mem_of_getElem? hx)
  by_cases h1 : x.hold = t
  · simp [hk, g1, g2, hlt, e, h1]
    refine vcRet_of [] ?_ rfl
    simp [onLock, hk, hx, lockF, hasT, h1]
  simp [hk, g1, g2, hlt, e, h1]
  refine (reads_m x hl t).mono ?_
  rintro _ rfl
  by_cases h2 : t ∈ x.rd
  · simp [h2]
    refine vcRet_of [] ?_ rfl
    simp [onLock, hk, hx, lockF, hasT, h2]
  have hh : hasT t x = false := by simp [hasT, h1, h2]
  by_cases h3 : 0 < x.hold
  · simp [h2, h3]
    refine vcRet_of [] ?_ rfl
    simp [onLock, hk, hx, lockF, hh, h3]
  by_cases h4 : 0 < x.rd.length
  · simp [h2, h3, h4]
    refine vcRet_of [] ?_ rfl
    simp [onLock, hk, hx, lockF, hh, h4]
  simp [h2, h3, h4]
  refine (copy_m s hf0).mono ?_
  rintro _ rfl
  simp [Prep.run, hlt, e, g1, g2]
  refine ⟨idx3 (by simp) (by simp) (by simp), ?_⟩
  refine vcRet_of [] ?_ rfl
  simp [onLock, hk, hx, lockF, hh, h3, h4, List.take_of_length_le]
set_option maxRecDepth 100000 in
set_option maxHeartbeats 2000000 in
theorem refUnlock_m (s : Sy) (hf : Fits s) (lock t : Int) : Meets Try.prog 44 [s.pv, .i lock, .i t] [] (Ret (.tup [(onLock s lock t (unlockF t)).1.pv, .i (onLock s lock t (unlockF t)).2])) := by
  have hf0 := hf
  obtain ⟨f1, f2, f3, f4, f5⟩ := hf
  refine meetsP [(29, [.focus 28 1 [(1, 900000)]]), (34, [.seenN 28 1, .close 28, .unnest 28, .unnest 10028])] tbOk mixed Try.func44 pl44 rfl rfl ?_
  simp [Try.ntmps44]
  refine (known_m s hf0 lock t).mono ?_
  rintro _ rfl
  by_cases hk : known s lock t = 0
  case neg =>
    simp [hk]
    refine vcRet_of [] ?_ rfl
    simp [onLock, hk]
  obtain ⟨g1, g2⟩ := known_lt hk
  have hlt : lock.toNat < s.locks.length := by omega
  obtain ⟨x, hx, e⟩ := at_lt hlt
  by_cases h1 : x.hold = t
  case neg =>
    simp [hk, g1, g2, hlt, e, h1]
    refine vcRet_of [] ?_ rfl
    simp [onLock, hk, hx, unlockF, h1]
  simp [hk, g1, g2, hlt, e, h1]
  refine (copy_m s hf0).mono ?_
  rintro _ rfl
  simp [Prep.run, hlt, e, g1, g2]
  refine ⟨idx3 (by simp) (by simp) (by simp), ?_⟩
  refine vcRet_of [] ?_ rfl
  simp [onLock, hk, hx, unlockF, h1, List.take_of_length_le]
set_option maxRecDepth 100000 in
set_option maxHeartbeats 2000000 in
theorem refShut_m (s : Sy) (hf : Fits s) (n : Int) : Meets Try.prog 50 [s.pv, .i n] [] (Ret (.tup [(onQueue s n shutF).1.pv, .i (onQueue s n shutF).2])) := by
  have hf0 := hf
  obtain ⟨f1, f2, f3, f4, f5⟩ := hf
  refine meetsP [(24, [.focus 10023 1 [(1, 900000)]]), (29, [.seenN 10023 1, .close 10023, .unnest 10023, .unnest 23])] tbOk mixed Try.func50 pl50 rfl rfl ?_
  simp [Try.ntmps50]
  refine (queue_m s hf0 n).mono ?_
  rintro _ rfl
  by_cases hk : queueE s n = 0
  case neg =>
    simp [hk]
    refine vcRet_of [] ?_ rfl
    simp [onQueue, hk]
  obtain ⟨g1, g2⟩ := queueE_lt hk
  have hlt : n.toNat < s.queues.length := by omega
  obtain ⟨x, hx, e⟩ := at_lt hlt
  cases h1 : x.shut
  case true =>
    simp [hk, g1, g2, hlt, e, h1]
    refine vcRet_of [] ?_ rfl
    simp [onQueue, hk, hx, shutF, h1]
  simp [hk, g1, g2, hlt, e, h1]
  refine (copy_m s hf0).mono ?_
  rintro _ rfl
  simp [Prep.run, hlt, e, g1, g2]
  refine ⟨idx3 (by simp) (by simp) (by simp), ?_⟩
  refine vcRet_of [] ?_ rfl
  simp [onQueue, hk, hx, shutF, h1, List.take_of_length_le]
set_option maxRecDepth 100000 in
set_option maxHeartbeats 2000000 in
theorem refAdd_m (s : Sy) (hf : Fits s) (n v : Int) : Meets Try.prog 52 [s.pv, .i n, .i v] [] (Ret (.tup [(addS s n v).1.pv, .i (addS s n v).2])) := by
  refine meetsP [(45, [.unnest 10044, .unnest 44])] tbOk mixed Try.func52 pl52 rfl rfl ?_
  simp [Try.ntmps52]
  refine (refCheck_m s hf).mono ?_
  rintro _ rfl
  by_cases hc : chk s = 0
  case neg =>
    simp [hc]
    refine vcRet_of [] ?_ rfl
    simp [addS, groupE, hc]
  by_cases h1 : n < 0
  · simp [hc, h1]
    refine vcRet_of [] ?_ rfl
    simp [addS, groupE, hc, h1]
  by_cases h2 : (s.groups.length : Int) ≤ n
  · simp [hc, h1, h2]
    refine vcRet_of [] ?_ rfl
    simp [addS, groupE, hc, h2]
  have hlt : n.toNat < s.groups.length := by omega
  obtain ⟨x, hx, e⟩ := at_lt hlt
  have hr := chk_group hc (List.mem_of_getElem? hx)
  have hw1 : IntKind.i64.wrap (-x) = -x := IntWalk.i64_in _ (by omega)
  have hw2 : IntKind.i64.wrap (1000 - x) = 1000 - x := IntWalk.i64_in _ (by omega)
  have hk : groupE s n = 0 := by simp [groupE, hc, h1, h2]
  have g1 : 0 ≤ n := by omega
  have g2 : n < s.groups.length := by omega
  by_cases h3 : v < -x
  · simp [hc, h1, h2, g1, g2, hlt, e, hw1, h3]
    refine vcRet_of [] ?_ rfl
    simp [addS, hk, hx, h3]
  by_cases h4 : 1000 - x < v
  · simp [hc, h1, h2, g1, g2, hlt, e, hw1, hw2, h3, h4]
    refine vcRet_of [] ?_ rfl
    simp [addS, hk, hx, h4]
  have hw3 : IntKind.i64.wrap (x + v) = x + v := IntWalk.i64_in _ (by omega)
  simp [hc, h1, h2, g1, g2, hlt, e, hw1, hw2, h3, h4]
  refine (copy_m s hf).mono ?_
  rintro _ rfl
  simp [Prep.run, hlt, hw3, g1, g2]
  refine ⟨idx3 (by simp) (by simp) (by simp), ?_⟩
  refine vcRet_of [] ?_ rfl
  simp [addS, hk, hx, h3, h4, List.take_of_length_le]
end Go.Proofs.Ytnkoibhjnahkiaa
