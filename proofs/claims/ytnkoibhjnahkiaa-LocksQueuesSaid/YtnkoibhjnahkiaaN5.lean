/- Locks: contracts (N5). No condition. -/
import Derived.Test.YtnkoibhjnahkiaaN2
import Derived.Test.YtnkoibhjnahkiaaN3
import Derived.Test.YtnkoibhjnahkiaaN4
namespace Go.Proofs.Ytnkoibhjnahkiaa
open Go.RowKit

theorem filter_lower {t : Int} : ∀ {l : List Int}, asc l = true → t ∈ l → l.filter (fun y => !decide (y = t)) = l.eraseIdx (lower t l)
  | [], _, h => by cases h
  | y :: l, ha, h => by
    have hlt := asc_lt ha
    by_cases hy : y = t
    · subst hy
      have h0 : lower y (y :: l) = 0 := by simp [lower]
      have h1 : l.filter (fun z => !decide (z = y)) = l := List.filter_eq_self.2 fun z hz => by
        have := hlt z hz
        simp; omega
      rw [h0, List.filter_cons]
      simp [h1]
    · have hm : t ∈ l := by
        rcases List.mem_cons.1 h with h | h
        · exact absurd h.symm hy
        · exact h
      have h1 := hlt t hm
      have h0 : lower t (y :: l) = lower t l + 1 := by simp [lower, h1]
      rw [h0, List.filter_cons]
      simp [hy, filter_lower (asc_tail ha) hm]
set_option maxRecDepth 100000 in
set_option maxHeartbeats 2000000 in
theorem refSend_m (s : Sy) (hf : Fits s) (n v : Int) : Meets Try.prog 48 [s.pv, .i n, .i v] [] (Ret (.tup [(onQueue s n (sendF v)).1.pv, .i (onQueue s n (sendF v)).2])) := by
  have hf0 := hf
  obtain ⟨f1, f2, f3, f4, f5⟩ := hf
  refine meetsP [(41, [.focus 10040 1 [(1, 900000)]]), (55, [.seenN 10040 1, .close 10040, .unnest 10040, .unnest 40])] tbOk mixed Try.func48 pl48 rfl rfl ?_
  simp [Try.ntmps48]
  refine (queue_m s hf0 n).mono ?_
  rintro _ rfl
  by_cases hk : queueE s n = 0
  case neg =>
    simp [hk]
    refine vcRet_of [] ?_ rfl
    simp [onQueue, hk]
  obtain ⟨g1, g2⟩ := queueE_lt hk
  have hlt : n.toNat < s.queues.length := by omega
  obtain ⟨x, hx, e⟩ := at_lt hlt
  have hql := chk_queue (queueE_chk hk) (List.mem_of_getElem? hx)
  cases h1 : x.shut
  case true =>
    simp [hk, g1, g2, hlt, e, h1]
    refine vcRet_of [] ?_ rfl
    simp [onQueue, hk, hx, sendF, h1]
  by_cases h2 : (x.items.length : Int) = x.room
  · simp [hk, g1, g2, hlt, e, h1, h2]
    refine ⟨by kernel_rfl, ?_⟩
    refine vcRet_of [] ?_ rfl
    simp [onQueue, hk, hx, sendF, h1, h2]
  simp [hk, g1, g2, hlt, e, h1, h2]
  refine ⟨by kernel_rfl, ?_⟩
  refine (copy_m s hf0).mono ?_
  rintro _ rfl
  have hl2 : x.items.length + 1 < 4294967296 := by omega
  simp [Prep.run, hlt, e, g1, g2, hl2]
  refine ⟨idx3 (by simp) (by simp) (by simp), ?_⟩
  refine ⟨by kernel_rfl, ?_⟩
  refine vcRet_of [] ?_ rfl
  simp [onQueue, hk, hx, sendF, h1, h2, List.take_of_length_le]
set_option maxRecDepth 100000 in
set_option maxHeartbeats 2000000 in
theorem refRecv_m (s : Sy) (hf : Fits s) (n : Int) : Meets Try.prog 49 [s.pv, .i n] [] (Ret (.tup [(onQueue s n recvF).1.pv, .i (recvV s n), .b (recvB s n), .i (onQueue s n recvF).2])) := by
  have hf0 := hf
  obtain ⟨f1, f2, f3, f4, f5⟩ := hf
  refine meetsP [(33, [.focus 10032 1 [(1, 900000)]]), (43, [.seenN 10032 1, .close 10032, .unnest 10032, .unnest 32])] tbOk mixed Try.func49 pl49 rfl rfl ?_
  simp [Try.ntmps49]
  refine (queue_m s hf0 n).mono ?_
  rintro _ rfl
  by_cases hk : queueE s n = 0
  case neg =>
    simp [hk]
    refine vcRet_of [] ?_ rfl
    simp [onQueue, hk, recvV, recvB]
  obtain ⟨g1, g2⟩ := queueE_lt hk
  have hlt : n.toNat < s.queues.length := by omega
  obtain ⟨x, hx, e⟩ := at_lt hlt
  have hql := chk_queue (queueE_chk hk) (List.mem_of_getElem? hx)
  by_cases h0 : x.items.length = 0
  · have hn : x.items = [] := List.eq_nil_of_length_eq_zero h0
    cases h1 : x.shut
    · simp [hk, g1, g2, hlt, e, h1, hn]
      refine vcRet_of [] ?_ rfl
      simp [onQueue, hk, hx, recvF, h1, hn, recvV, recvB]
    · simp [hk, g1, g2, hlt, e, h1, hn]
      refine vcRet_of [] ?_ rfl
      simp [onQueue, hk, hx, recvF, h1, hn, recvV, recvB]
      have := setQ s.queues hx
      rw [hn, h1] at this
      simpa using this.symm
  obtain ⟨y, l, hl⟩ : ∃ y l, x.items = y :: l := by
    cases hi : x.items with
    | nil => rw [hi] at h0; exact absurd rfl h0
    | cons y l => exact ⟨y, l, rfl⟩
  have hll : l.length < 4294967296 := by rw [hl] at hql; simp at hql; omega
  have hne : ¬ ((l.length : Int) + 1 = 0) := by omega
  simp [hk, g1, g2, hlt, e, hl, hne]
  refine (copy_m s hf0).mono ?_
  rintro _ rfl
  simp [Prep.run, hlt, e, g1, g2, hll]
  refine ⟨idx3 (by simp) (by simp) (by simp), by omega, by kernel_rfl, ?_⟩
  refine ⟨by kernel_rfl, ?_⟩
  refine vcRet_of [] ?_ rfl
  simp [onQueue, hk, hx, recvF, hl, recvV, recvB, List.take_of_length_le]
set_option maxRecDepth 100000 in
set_option maxHeartbeats 2000000 in
theorem refRLock_m (s : Sy) (hf : Fits s) (lock t : Int) : Meets Try.prog 45 [s.pv, .i lock, .i t] [] (Ret (.tup [(onLock s lock t (rlockF t)).1.pv, .i (onLock s lock t (rlockF t)).2])) := by
  have hf0 := hf
  obtain ⟨f1, f2, f3, f4, f5⟩ := hf
  refine meetsP [(57, [.focus 40 1 [(1, 900000)]]), (76, [.seenN 40 1, .close 40, .unnest 40, .unnest 10040])] tbOk mixed Try.func45 pl45 rfl rfl ?_
  simp [Try.ntmps45]
  refine (known_m s hf0 lock t).mono ?_
  rintro _ rfl
  by_cases hk : known s lock t = 0
  case neg =>
    simp [hk]
    refine vcRet_of [] ?_ rfl
    simp [onLock, hk]
  obtain ⟨g1, g2⟩ := known_lt hk
  have hlt : lock.toNat < s.locks.length := by omega
  obtain ⟨x, hx, e⟩ := at_lt hlt
  have hl := f4 x (List.mem_of_getElem? hx)
  have hasc := chk_lock (known_chk hk) (List.mem_of_getElem? hx)
  by_cases h1 : x.hold = t
  · simp [hk, g1, g2, hlt, e, h1]
    refine vcRet_of [] ?_ rfl
    simp [onLock, hk, hx, rlockF, hasT, h1]
  simp [hk, g1, g2, hlt, e, h1]
  refine (reads_m x hl t).mono ?_
  rintro _ rfl
  by_cases h2 : t ∈ x.rd
  · simp [h2]
    refine vcRet_of [] ?_ rfl
    simp [onLock, hk, hx, rlockF, hasT, h2]
  have hh : hasT t x = false := by simp [hasT, h1, h2]
  by_cases h3 : 0 < x.hold
  · simp [h2, h3]
    refine vcRet_of [] ?_ rfl
    simp [onLock, hk, hx, rlockF, hh, h3]
  simp [h2, h3]
  refine (copy_m s hf0).mono ?_
  rintro _ rfl
  simp
  refine ⟨idx3 (by simp) (by simp) (by simp), ?_⟩
  refine vc_loop (fun m σ => ∃ k : Nat, m = x.rd.length - k ∧ k ≤ lower t x.rd ∧ σ = ⟨77, [(11, .i k), (9, .ptr 9 0), (10, .ptr 10 0), (6, .ptr 6 0), (1, .i lock), (2, .i t)], [(9, .box 57 [.i x.hold, .d (il x.rd)]), (10, .box 27 [.rw 40 s.locks.length, .rw 10040 s.queues.length, .rw 20040 s.groups.length]), (40, nestL s.locks s.locks.length), (10040, nestQ s.queues s.queues.length), (20040, .row 3 1 (s.groups.map ics) false), (6, .box 27 nil3)]⟩) ?_ ?_
  · exact ⟨_, _, ⟨0, rfl, Nat.zero_le _, rfl⟩, [], _, rfl, by simp⟩
  rintro m σ ⟨k, rfl, hk1, rfl⟩
  have hlo := lower_le t x.rd
  have hfin : (onLock s lock t (rlockF t)) = (⟨s.locks.set lock.toNat ⟨x.hold, putIn t x.rd⟩, s.queues, s.groups⟩, 0) := by
    simp [onLock, hk, hx, rlockF, hh, h3]
  have hdone : k = lower t x.rd → List.take k x.rd ++ t :: List.drop k x.rd = putIn t x.rd := fun e => by rw [e]; rfl
  by_cases hkl : k < x.rd.length
  · obtain ⟨y, hy, ey⟩ := at_lt hkl
    have hya := lower_at (v := t) hasc.1 hy
    by_cases hyt : y < t
    · simp [hkl, ey, hyt, wrap_succ hkl hl]
      refine ⟨_, ?_, _, ⟨k + 1, rfl, hya.1 hyt, rfl⟩, [], _, rfl, by simp⟩
      omega
    · have hke : k = lower t x.rd := by
        rcases Nat.lt_or_ge k (lower t x.rd) with h | h
        · exact absurd (hya.2 h) hyt
        · omega
      have hkk : k ≤ x.rd.length := by omega
      have hm2 : min k x.rd.length = k := by omega
      simp [hkl, ey, hyt, Prep.run, hlt, e, g1, g2, hkk, hm2]
      refine ⟨by omega, by omega, by omega, by kernel_rfl, ?_⟩
      refine vcRet_of [] ?_ rfl
      rw [hfin, ← hdone hke]
      simp [List.take_of_length_le, hm2]
  · have hke : k = lower t x.rd := by omega
    have hkk : k ≤ x.rd.length := by omega
    have hm2 : min k x.rd.length = k := by omega
    simp [hkl, Prep.run, hlt, e, g1, g2, hkk, hm2]
    refine ⟨by omega, by omega, by omega, by kernel_rfl, ?_⟩
    refine vcRet_of [] ?_ rfl
    rw [hfin, ← hdone hke]
    simp [List.take_of_length_le, hm2]
set_option maxRecDepth 100000 in
set_option maxHeartbeats 2000000 in
theorem refRUnlock_m (s : Sy) (hf : Fits s) (lock t : Int) : Meets Try.prog 47 [s.pv, .i lock, .i t] [] (Ret (.tup [(onLock s lock t (runlockF t)).1.pv, .i (onLock s lock t (runlockF t)).2])) := by
  have hf0 := hf
  obtain ⟨f1, f2, f3, f4, f5⟩ := hf
  refine meetsP [(30, [.focus 29 1 [(1, 900000)]]), (79, [.seenN 29 1, .close 29, .unnest 29, .unnest 10029])] tbOk mixed Try.func47 pl47 rfl rfl ?_
  simp [Try.ntmps47]
  refine (known_m s hf0 lock t).mono ?_
  rintro _ rfl
  by_cases hk : known s lock t = 0
  case neg =>
    simp [hk]
    refine vcRet_of [] ?_ rfl
    simp [onLock, hk]
  obtain ⟨g1, g2⟩ := known_lt hk
  have hlt : lock.toNat < s.locks.length := by omega
  obtain ⟨x, hx, e⟩ := at_lt hlt
  have hl := f4 x (List.mem_of_getElem? hx)
  have hasc := chk_lock (known_chk hk) (List.mem_of_getElem? hx)
  simp [hk, g1, g2, hlt, e]
  refine (reads_m x hl t).mono ?_
  rintro _ rfl
  by_cases h2 : t ∈ x.rd
  case neg =>
    simp [h2]
    refine vcRet_of [] ?_ rfl
    simp [onLock, hk, hx, runlockF, h2]
  simp [h2]
  refine (copy_m s hf0).mono ?_
  rintro _ rfl
  simp [Prep.run, hlt, e, g1, g2]
  refine ⟨idx3 (by simp) (by simp) (by simp), ?_⟩
  refine vc_loop (fun m σ => ∃ k : Nat, m = x.rd.length - k ∧ k ≤ x.rd.length ∧ σ = ⟨80, [(10, .i k), (9, .ptr 9 0), (6, .ptr 6 0), (3, .ptr 3 0), (1, .i lock), (2, .i t)], [(9, .box 27 [.rw 29 s.locks.length, .rw 10029 s.queues.length, .rw 20029 s.groups.length]), (29, .nest 57 2 (s.locks.map Lk.ds) (fun a => decide (a < s.locks.length)) [(1, 3)] (some (lock.toNat, [.i x.hold, .rw 900001 ((x.rd.take k).filter fun y => !decide (y = t)).length]))), (900001, .row 3 1 (((x.rd.take k).filter fun y => !decide (y = t)).map ics) false), (10029, nestQ s.queues s.queues.length), (20029, .row 3 1 (s.groups.map ics) false), (3, s.box), (6, .box 27 nil3)]⟩) ?_ ?_
  · exact ⟨_, _, ⟨0, rfl, Nat.zero_le _, rfl⟩, [.cellN 29 1 900001 3 1], _, rfl, by simp⟩
  rintro m σ ⟨k, rfl, hk1, rfl⟩
  have hlen : ((x.rd.take k).filter fun y => !decide (y = t)).length ≤ k := by
    have := List.length_filter_le (fun y => !decide (y = t)) (x.rd.take k)
    rw [List.length_take] at this
    omega
  by_cases hkl : k < x.rd.length
  · obtain ⟨y, hy, ey⟩ := at_lt hkl
    by_cases hyt : y = t
    · have h9 : (x.rd.take (k + 1)).filter (fun y => !decide (y = t)) = (x.rd.take k).filter fun y => !decide (y = t) := by simp [List.take_add_one, hy, hyt]
      simp [hkl, hlt, e, g1, g2, ey, hyt, wrap_succ hkl hl]
      refine ⟨_, ?_, _, ⟨k + 1, rfl, hkl, rfl⟩, [], _, rfl, by simp [h9]⟩
      omega
    · have h9 : (x.rd.take (k + 1)).filter (fun y => !decide (y = t)) = (x.rd.take k).filter (fun y => !decide (y = t)) ++ [y] := by simp [List.take_add_one, hy, hyt]
      simp [hkl, hlt, e, g1, g2, ey, hyt, wrap_succ hkl hl]
      refine ⟨by omega, by kernel_rfl, ?_⟩
      refine ⟨_, ?_, _, ⟨k + 1, rfl, hkl, rfl⟩, [], _, rfl, by simp [h9]⟩
      omega
  obtain rfl : k = x.rd.length := by omega
  simp [hlt, e, g1, g2, Prep.run]
  refine vcRet_of [] ?_ rfl
  simp [onLock, hk, hx, runlockF, h2, List.take_of_length_le, ← filter_lower hasc.1 h2]
end Go.Proofs.Ytnkoibhjnahkiaa
namespace Go.Proofs.Ytnkoibhjnahkiaa
open Go.RowKit

@[simp] def Wt.pv' (w : Wt) : PV := .agg [.i w.kind, .i w.obj, .i w.til]
set_option maxRecDepth 100000 in
set_option maxHeartbeats 4000000 in
theorem refThere0_m (s : Sy) (hf : Fits s) (hc : chk s = 0) (w : Wt) : Meets Try.prog 83 [s.pv, w.pv'] [] (Ret (.tup [.b (thereS s w).1, .i (thereS s w).2])) := by
  obtain ⟨f1, f2, f3, f4, f5⟩ := hf
  refine meetsH [] tbOk mixed Try.func83 pl83 rfl rfl ?_
  by_cases h3 : w.kind = 3
  · by_cases hb : ¬ w.til = 0 ∧ ¬ w.til = 1
    · obtain ⟨t0, t1⟩ := hb
      simp [Try.ntmps83, h3, t0, t1]
      refine vcRet_of [] ?_ rfl
      simp [thereS, hc, h3, t0, t1]
    have hb : w.til = 0 ∨ w.til = 1 := by omega
    rcases hb with t0 | t0
    all_goals
      by_cases o1 : w.obj < 0
      · simp [Try.ntmps83, h3, t0, o1]
        refine vcRet_of [] ?_ rfl
        simp [thereS, thereN, hc, h3, t0, o1]
      by_cases o2 : (s.locks.length : Int) ≤ w.obj
      · simp [Try.ntmps83, h3, t0, o1, o2]
        refine vcRet_of [] ?_ rfl
        simp [thereS, thereN, hc, h3, t0, o1, o2]
      have hlt : w.obj.toNat < s.locks.length := by omega
      obtain ⟨x, hx, e⟩ := at_lt hlt
      have g1 : 0 ≤ w.obj := by omega
      have g2 : w.obj < s.locks.length := by omega
      by_cases hh : x.hold = 0
      · simp [Try.ntmps83, h3, t0, o1, o2, hlt, e, g1, g2, hh]
        refine vcRet_of [] ?_ rfl
        simp [thereS, thereN, hc, h3, t0, o1, o2, hx, hh]
      · simp [Try.ntmps83, h3, t0, o1, o2, hlt, e, g1, g2, hh]
        refine vcRet_of [] ?_ rfl
        simp [thereS, thereN, hc, h3, t0, o1, o2, hx, hh]
  by_cases h6 : w.kind = 6
  · by_cases o1 : w.obj < 0
    · simp [Try.ntmps83, h6, o1]
      refine vcRet_of [] ?_ rfl
      simp [thereS, thereN, hc, h6, o1]
    by_cases o2 : (s.groups.length : Int) ≤ w.obj
    · simp [Try.ntmps83, h6, o1, o2]
      refine vcRet_of [] ?_ rfl
      simp [thereS, thereN, hc, h6, o1, o2]
    have hlt : w.obj.toNat < s.groups.length := by omega
    obtain ⟨x, hx, e⟩ := at_lt hlt
    have g1 : 0 ≤ w.obj := by omega
    have g2 : w.obj < s.groups.length := by omega
    simp [Try.ntmps83, h6, o1, o2, hlt, e, g1, g2]
    refine vcRet_of [] ?_ rfl
    simp [thereS, thereN, hc, h6, o1, o2, hx]
  by_cases h45 : w.kind = 4 ∨ w.kind = 5
  case neg =>
    obtain ⟨h4, h5⟩ : ¬ w.kind = 4 ∧ ¬ w.kind = 5 := by omega
    simp [Try.ntmps83, h3, h4, h5, h6]
    refine vcRet_of [] ?_ rfl
    simp [thereS, hc, h3, h4, h5, h6]
  by_cases o1 : w.obj < 0
  · rcases h45 with h | h <;> simp [Try.ntmps83, h, o1] <;> refine vcRet_of [] ?_ rfl <;> simp [thereS, thereN, hc, h, o1]
  by_cases o2 : (s.queues.length : Int) ≤ w.obj
  · rcases h45 with h | h <;> simp [Try.ntmps83, h, o1, o2] <;> refine vcRet_of [] ?_ rfl <;> simp [thereS, thereN, hc, h, o1, o2]
  have hlt : w.obj.toNat < s.queues.length := by omega
  obtain ⟨x, hx, e⟩ := at_lt hlt
  have g1 : 0 ≤ w.obj := by omega
  have g2 : w.obj < s.queues.length := by omega
  rcases h45 with h | h
  · cases hs : x.shut <;> simp [Try.ntmps83, h, o1, o2, hlt, e, g1, g2, hs] <;> refine vcRet_of [] ?_ rfl <;> simp [thereS, thereN, hc, h, o1, o2, hx, hs]
  · cases hs : x.shut
    all_goals
      simp [Try.ntmps83, h, o1, o2, hlt, e, g1, g2, hs]
      refine ⟨by kernel_rfl, ?_⟩
      refine vcRet_of [] ?_ rfl
      simp [thereS, thereN, hc, h, o1, o2, hx, hs]
theorem refThere_m (s : Sy) (hf : Fits s) (w : Wt) : Meets Try.prog 53 [s.pv, w.pv'] [] (Ret (.tup [.b (thereS s w).1, .i (thereS s w).2])) := by
  refine meetsH [] tbOk mixed Try.func53 pl53 rfl rfl ?_
  simp [Try.ntmps53]
  refine (refCheck_m s hf).mono ?_
  rintro _ rfl
  by_cases hc : chk s = 0
  case neg =>
    simp [hc]
    refine vcRet_of [] ?_ rfl
    simp [thereS, hc]
  simp [hc]
  refine (refThere0_m s hf hc w).mono ?_
  rintro _ rfl
  simp
  exact vcRet_of [] (by simp) rfl
set_option maxRecDepth 100000 in
set_option maxHeartbeats 2000000 in
theorem refHolds_m (s : Sy) (hf : Fits s) (t : Int) : Meets Try.prog 55 [s.pv, .i t] [] (Ret (.tup [.d (il (holdsS s t).1), .i (holdsS s t).2])) := by
  have hf0 := hf
  obtain ⟨f1, f2, f3, f4, f5⟩ := hf
  refine meetsH [] tbOk mixed Try.func55 pl55 rfl rfl ?_
  simp [Try.ntmps55]
  refine (refCheck_m s hf0).mono ?_
  rintro _ rfl
  by_cases hc : chk s = 0
  case neg =>
    simp [hc]
    refine vcRet_of [] ?_ rfl
    simp [holdsS, hc]
  simp [hc]
  refine (between_m t 1 200).mono ?_
  rintro _ rfl
  cases ht : inT t
  case false =>
    have ht' : (decide (1 ≤ t) && decide (t ≤ 200)) = false := ht
    simp [ht']
    refine vcRet_of [] ?_ rfl
    simp [holdsS, hc, ht]
  have ht' : (decide (1 ≤ t) && decide (t ≤ 200)) = true := ht
  simp [ht']
  refine vc_loop (fun m σ => ∃ k : Nat, m = s.locks.length - k ∧ k ≤ s.locks.length ∧ σ = ⟨46, [(8, .i k), (7, .rw 7 (hldTo t s.locks k).length), (2, .ptr 2 0), (1, .i t)], [(7, .row 3 1 ((hldTo t s.locks k).map ics) false), (2, s.box)]⟩) ?_ ?_
  · exact ⟨_, _, ⟨0, rfl, Nat.zero_le _, rfl⟩, [.row 7 3 1], _, rfl, by simp [hldTo]⟩
  rintro m σ ⟨k, rfl, hk, rfl⟩
  have hle := hldTo_len t s.locks k
  by_cases hlt : k < s.locks.length
  · obtain ⟨x, hx, e⟩ := at_lt hlt
    have hno : hasT t x = false → hldTo t s.locks (k + 1) = hldTo t s.locks k := fun hh => by simp [hldTo, hx, hh]
    have hyes : hasT t x = true → hldTo t s.locks (k + 1) = hldTo t s.locks k ++ [(k : Int)] := fun hh => by simp [hldTo, hx, hh]
    by_cases h1 : x.hold = t
    · simp [hlt, e, h1, wrap_succ hlt f1]
      refine ⟨by omega, _, ?_, _, ⟨k + 1, rfl, hlt, rfl⟩, [], _, rfl, by simp [hyes (by simp [hasT, h1])]⟩
      omega
    simp [hlt, e, h1]
    refine (reads_m x (f4 x (List.mem_of_getElem? hx)) t).mono ?_
    rintro _ rfl
    by_cases h2 : t ∈ x.rd
    · simp [h2, wrap_succ hlt f1]
      refine ⟨by omega, _, ?_, _, ⟨k + 1, rfl, hlt, rfl⟩, [], _, rfl, by simp [hyes (by simp [hasT, h2])]⟩
      omega
    · simp [h2, wrap_succ hlt f1]
      refine ⟨_, ?_, _, ⟨k + 1, rfl, hlt, rfl⟩, [], _, rfl, by simp [hno (by simp [hasT, h1, h2])]⟩
      omega
  obtain rfl : k = s.locks.length := by omega
  simp
  refine vcRet_of [] ?_ rfl
  simp [holdsS, hc, ht]
  exact List.take_of_length_le (by simp)
end Go.Proofs.Ytnkoibhjnahkiaa
