/- Locks: contracts (N3). No condition. -/
import Derived.Test.YtnkoibhjnahkiaaN1
import Derived.Test.YtnkoibhjnahkiaaN2
namespace Go.Proofs.Ytnkoibhjnahkiaa
open Go.RowKit

set_option maxRecDepth 100000 in
set_option maxHeartbeats 2000000 in
theorem onLock_m (s : Sy) (hf : Fits s) (lock t : Int) (fid : Nat) (F : Lk → Int × Lk) (Z : Lk → List (List D))
    (hF : chk s = 0 → ∀ XS PR j l, l ∈ s.locks → Meets Try.prog fid [.rp 1000000 2 j 0, .ptr 1000001 0] (lockExt XS PR j t l) (fun r => r = lockRes XS PR j t (F l) (Z l))) :
    Meets Try.prog 63 [s.pv, .i lock, .i t, .clo fid [.ptr 1000000 0]] [.box 3 [.i t]] (fun r => r = ⟨.tup [(onLock s lock t F).1.pv, .i (onLock s lock t F).2], [.box 3 [.i t]], []⟩) := by
  refine meetsP [(38, [.focus 37 1 [(1, 900000)]]), (48, [.seenN 37 1, .close 37, .unnest 37, .unnest 10037])] tbOk mixed Try.func63 pl63 rfl rfl ?_
  simp [Try.ntmps63]
  refine (check_m s hf).mono ?_
  rintro _ rfl
  by_cases hc : chk s = 0
  case neg =>
    simp [hc]
    refine vcRet_of [] ?_ rfl
    simp [onLock, known, hc]
  by_cases h1 : lock < 0
  · simp [hc, h1]
    refine vcRet_of [] ?_ rfl
    simp [onLock, known, hc, h1]
  by_cases h2 : (s.locks.length : Int) ≤ lock
  · simp [hc, h1, h2]
    refine vcRet_of [] ?_ rfl
    simp [onLock, known, hc, h2]
  simp [hc, h1, h2]
  refine (task_m t).mono ?_
  rintro _ rfl
  cases ht : inT t
  case false =>
    simp
    refine vcRet_of [] ?_ rfl
    simp [onLock, known, hc, h1, h2, ht]
  simp
  refine (clone_m s hf).mono ?_
  rintro _ rfl
  have hlt : lock.toNat < s.locks.length := by omega
  obtain ⟨x, hx, e⟩ := at_lt hlt
  simp [Prep.run, hlt, e, List.idxOf_cons]
  have hxm := List.mem_of_getElem? hx
  refine ⟨fun i hi => ?_, ⟨by omega, by omega⟩, ?_⟩
  · have : i = 0 ∨ i = 1 ∨ i = 2 := by omega
    rcases this with rfl | rfl | rfl <;> simp
  refine (hF hc _ _ _ x hxm).mono ?_
  rintro _ rfl
  have hg : s.locks.getD lock.toNat default = x := by rw [List.getD_eq_getElem?_getD, hx]; rfl
  have hk : known s lock t = 0 := by simp [known, hc, h1, h2, ht]
  by_cases hr : (F x).1 = 0
  · simp [hr, Prep.run]
    refine vcRet_of [] ?_ rfl
    simp [onLock, hk, hx, hr]
    exact ⟨List.take_of_length_le (by simp), List.take_of_length_le (by simp), List.take_of_length_le (by simp)⟩
  · simp [hr]
    refine vcRet_of [] ?_ rfl
    simp [onLock, hk, hx, hr]
theorem lock_m (s : Sy) (hf : Fits s) (lock t : Int) : Meets Try.prog 26 [s.pv, .i lock, .i t] [] (Ret (.tup [(onLock s lock t (lockF t)).1.pv, .i (onLock s lock t (lockF t)).2])) := by
  have hf0 := hf
  obtain ⟨f1, f2, f3, f4, f5⟩ := hf
  refine meetsH [] tbOk mixed Try.func26 pl26 rfl rfl ?_
  simp [Try.ntmps26]
  refine (onLock_m s hf0 lock t 64 (lockF t) (fun _ => []) fun hc XS PR j l hl => lock1_m XS PR j l (f4 l hl) t).mono ?_
  rintro _ rfl
  simp
  exact vcRet_of [] (by simp) rfl
theorem unlock_m (s : Sy) (hf : Fits s) (lock t : Int) : Meets Try.prog 43 [s.pv, .i lock, .i t] [] (Ret (.tup [(onLock s lock t (unlockF t)).1.pv, .i (onLock s lock t (unlockF t)).2])) := by
  have hf0 := hf
  obtain ⟨f1, f2, f3, f4, f5⟩ := hf
  refine meetsH [] tbOk mixed Try.func43 pl43 rfl rfl ?_
  simp [Try.ntmps43]
  refine (onLock_m s hf0 lock t 78 (unlockF t) (fun _ => []) fun hc XS PR j l hl => unlock1_m XS PR j l t).mono ?_
  rintro _ rfl
  simp
  exact vcRet_of [] (by simp) rfl
theorem rlock_m (s : Sy) (hf : Fits s) (lock t : Int) : Meets Try.prog 27 [s.pv, .i lock, .i t] [] (Ret (.tup [(onLock s lock t (rlockF t)).1.pv, .i (onLock s lock t (rlockF t)).2])) := by
  have hf0 := hf
  obtain ⟨f1, f2, f3, f4, f5⟩ := hf
  refine meetsH [] tbOk mixed Try.func27 pl27 rfl rfl ?_
  simp [Try.ntmps27]
  refine (onLock_m s hf0 lock t 66 (rlockF t) (fun _ => []) fun hc XS PR j l hl => rlock1_m XS PR j l (by have := (chk_lock hc hl).2; omega) (chk_lock hc hl).1 t).mono ?_
  rintro _ rfl
  simp
  exact vcRet_of [] (by simp) rfl
theorem runlock_m (s : Sy) (hf : Fits s) (lock t : Int) : Meets Try.prog 46 [s.pv, .i lock, .i t] [] (Ret (.tup [(onLock s lock t (runlockF t)).1.pv, .i (onLock s lock t (runlockF t)).2])) := by
  have hf0 := hf
  obtain ⟨f1, f2, f3, f4, f5⟩ := hf
  refine meetsH [] tbOk mixed Try.func46 pl46 rfl rfl ?_
  simp [Try.ntmps46]
  refine (onLock_m s hf0 lock t 80 (runlockF t) (fun l => if t ∈ l.rd then [[.v (.int .i64 0)]] else []) fun hc XS PR j l hl => runlock1_m XS PR j l (by have := (chk_lock hc hl).2; omega) (chk_lock hc hl).1 t).mono ?_
  rintro _ rfl
  simp
  exact vcRet_of [] (by simp) rfl
end Go.Proofs.Ytnkoibhjnahkiaa
namespace Go.Proofs.Ytnkoibhjnahkiaa
open Go.RowKit

/-- The queues, one of which is looked at closely. -/
@[simp] def nestG (XS : List (List D)) (PR : Nat → Bool) (j : Nat) (r : Int) (k n : Nat) (b : Bool) : MObj := .nest 55 3 XS PR [(1, 2)] (some (j, [.i r, .rw k n, .b b]))
set_option maxRecDepth 100000 in
set_option maxHeartbeats 1000000 in
theorem send1_m (XS : List (List D)) (PR : Nat → Bool) (j : Nat) (q : Qu) (hl : q.items.length < 4294967295) (v : Int) :
    Meets Try.prog 58 [.rp 1000000 3 j 0, .ptr 1000001 0] [nestG XS PR j q.room 1000002 q.items.length q.shut, .box 2 [.i v], rowV q.items]
      (fun r => r = ⟨.i (sendF v q).1, [nestG XS PR j (sendF v q).2.room 1000002 (sendF v q).2.items.length (sendF v q).2.shut, .box 2 [.i v], .grown 2 1 ((sendF v q).2.items.map ics)], []⟩) := by
  refine meetsH [] tbOk mixed Try.func58 pl58 rfl rfl ?_
  cases hs : q.shut
  case true =>
    simp [Try.ntmps58]
    exact vcRet_of [] (by simp [sendF, hs]) rfl
  by_cases hr : (q.items.length : Int) = q.room
  · simp [Try.ntmps58, hr]
    refine ⟨by kernel_rfl, ?_⟩
    exact vcRet_of [] (by simp [sendF, hs, hr]) rfl
  have hl2 : q.items.length + 1 < 4294967296 := by omega
  simp [Try.ntmps58, hr]
  refine ⟨by kernel_rfl, ?_⟩
  simp [hl2]
  refine ⟨by kernel_rfl, ?_⟩
  exact vcRet_of [] (by simp [sendF, hs, hr]) rfl
set_option maxRecDepth 100000 in
set_option maxHeartbeats 1000000 in
theorem shut1_m (XS : List (List D)) (PR : Nat → Bool) (j : Nat) (q : Qu) :
    Meets Try.prog 61 [.rp 1000000 3 j 0] [nestG XS PR j q.room 1000001 q.items.length q.shut, rowV q.items]
      (fun r => r = ⟨.i (shutF q).1, [nestG XS PR j (shutF q).2.room 1000001 (shutF q).2.items.length (shutF q).2.shut, .grown 2 1 ((shutF q).2.items.map ics)], []⟩) := by
  refine meetsH [] tbOk mixed Try.func61 pl61 rfl rfl ?_
  cases hs : q.shut
  · simp [Try.ntmps61]
    exact vcRet_of [] (by simp [shutF, hs]) rfl
  · simp [Try.ntmps61]
    exact vcRet_of [] (by simp [shutF, hs]) rfl
set_option maxRecDepth 100000 in
set_option maxHeartbeats 1000000 in
theorem recv1_m (XS : List (List D)) (PR : Nat → Bool) (j : Nat) (q : Qu) (hl : q.items.length < 4294967296) :
    Meets Try.prog 59 [.rp 1000000 3 j 0, .ptr 1000001 0, .ptr 1000002 0] [nestG XS PR j q.room 1000003 q.items.length q.shut, .box 2 [.i 0], .box 4 [.b false], rowV q.items]
      (fun r => r = ⟨.i (recvF q).1, [nestG XS PR j (recvF q).2.room 1000003 (recvF q).2.items.length (recvF q).2.shut, .box 2 [.i (q.items.headD 0)], .box 4 [.b (decide (0 < q.items.length))], .grown 2 1 ((recvF q).2.items.map ics ++ if 0 < q.items.length then [[.v (.int .i64 0)]] else [])], []⟩) := by
  refine meetsH [] tbOk mixed Try.func59 pl59 rfl rfl ?_
  by_cases h0 : 0 < q.items.length
  · obtain ⟨x, hx, e⟩ := at_lt h0
    simp [Try.ntmps59, h0, e]
    refine (deleteV_m q.items 0 h0 hl).mono ?_
    rintro _ rfl
    simp
    refine vcRet_of [] ?_ rfl
    simp [recvF, h0]
    rw [List.head?_eq_getElem?, hx]
    rfl
  · have hn : q.items = [] := List.eq_nil_of_length_eq_zero (by omega)
    cases hs : q.shut
    · simp [Try.ntmps59, hn]
      exact vcRet_of [] (by simp [recvF, hs, hn]) rfl
    · simp [Try.ntmps59, hn]
      exact vcRet_of [] (by simp [recvF, hs, hn]) rfl
end Go.Proofs.Ytnkoibhjnahkiaa
namespace Go.Proofs.Ytnkoibhjnahkiaa
open Go.RowKit

set_option maxRecDepth 100000 in
set_option maxHeartbeats 2000000 in
theorem onQueue0_m (s : Sy) (hf : Fits s) (n : Int) (fid : Nat) (F : Qu → Int × Qu) (Z : Qu → List (List D))
    (hF : chk s = 0 → ∀ XS PR j q, q ∈ s.queues → Meets Try.prog fid [.rp 1000000 3 j 0] [nestG XS PR j q.room 1000001 q.items.length q.shut, rowV q.items]
      (fun r => r = ⟨.i (F q).1, [nestG XS PR j (F q).2.room 1000001 (F q).2.items.length (F q).2.shut, .grown 2 1 ((F q).2.items.map ics ++ Z q)], []⟩)) :
    Meets Try.prog 57 [s.pv, .i n, .clo fid []] [] (fun r => r = ⟨.tup [(onQueue s n F).1.pv, .i (onQueue s n F).2], [], []⟩) := by
  refine meetsP [(29, [.focus 10028 1 [(1, 900000)]]), (39, [.seenN 10028 1, .close 10028, .unnest 10028, .unnest 28])] tbOk mixed Try.func57 pl57 rfl rfl ?_
  simp [Try.ntmps57]
  refine (check_m s hf).mono ?_
  rintro _ rfl
  by_cases hc : chk s = 0
  case neg =>
    simp [hc]
    refine vcRet_of [] ?_ rfl
    simp [onQueue, queueE, hc]
  by_cases h1 : n < 0
  · simp [hc, h1]
    refine vcRet_of [] ?_ rfl
    simp [onQueue, queueE, hc, h1]
  by_cases h2 : (s.queues.length : Int) ≤ n
  · simp [hc, h1, h2]
    refine vcRet_of [] ?_ rfl
    simp [onQueue, queueE, hc, h2]
  simp [hc, h1, h2]
  refine (clone_m s hf).mono ?_
  rintro _ rfl
  have hlt : n.toNat < s.queues.length := by omega
  obtain ⟨x, hx, e⟩ := at_lt hlt
  simp [Prep.run, hlt, e, List.idxOf_cons]
  have hxm := List.mem_of_getElem? hx
  refine ⟨fun i hi => ?_, ⟨by omega, by omega⟩, ?_⟩
  · have : i = 0 ∨ i = 1 ∨ i = 2 := by omega
    rcases this with rfl | rfl | rfl <;> simp
  refine (hF hc _ _ _ x hxm).mono ?_
  rintro _ rfl
  have hg : s.queues.getD n.toNat default = x := by rw [List.getD_eq_getElem?_getD, hx]; rfl
  have hk : queueE s n = 0 := by simp [queueE, hc, h1, h2]
  by_cases hr : (F x).1 = 0
  · simp [hr, Prep.run]
    refine vcRet_of [] ?_ rfl
    simp [onQueue, hk, hx, hr]
    exact ⟨List.take_of_length_le (by simp), List.take_of_length_le (by simp), List.take_of_length_le (by simp)⟩
  · simp [hr]
    refine vcRet_of [] ?_ rfl
    simp [onQueue, hk, hx, hr]
set_option maxRecDepth 100000 in
set_option maxHeartbeats 2000000 in
theorem onQueue1_m (s : Sy) (hf : Fits s) (n : Int) (fid : Nat) (F : Qu → Int × Qu) (Z : Qu → List (List D)) (v : Int)
    (hF : chk s = 0 → ∀ XS PR j q, q ∈ s.queues → Meets Try.prog fid [.rp 1000000 3 j 0, .ptr 1000001 0] [nestG XS PR j q.room 1000002 q.items.length q.shut, .box 2 [.i v], rowV q.items]
      (fun r => r = ⟨.i (F q).1, [nestG XS PR j (F q).2.room 1000002 (F q).2.items.length (F q).2.shut, .box 2 [.i v], .grown 2 1 ((F q).2.items.map ics ++ Z q)], []⟩)) :
    Meets Try.prog 57 [s.pv, .i n, .clo fid [.ptr 1000000 0]] [.box 2 [.i v]] (fun r => r = ⟨.tup [(onQueue s n F).1.pv, .i (onQueue s n F).2], [.box 2 [.i v]], []⟩) := by
  refine meetsP [(29, [.focus 10028 1 [(1, 900000)]]), (39, [.seenN 10028 1, .close 10028, .unnest 10028, .unnest 28])] tbOk mixed Try.func57 pl57 rfl rfl ?_
  simp [Try.ntmps57]
  refine (check_m s hf).mono ?_
  rintro _ rfl
  by_cases hc : chk s = 0
  case neg =>
    simp [hc]
    refine vcRet_of [] ?_ rfl
    simp [onQueue, queueE, hc]
  by_cases h1 : n < 0
  · simp [hc, h1]
    refine vcRet_of [] ?_ rfl
    simp [onQueue, queueE, hc, h1]
  by_cases h2 : (s.queues.length : Int) ≤ n
  · simp [hc, h1, h2]
    refine vcRet_of [] ?_ rfl
    simp [onQueue, queueE, hc, h2]
  simp [hc, h1, h2]
  refine (clone_m s hf).mono ?_
  rintro _ rfl
  have hlt : n.toNat < s.queues.length := by omega
  obtain ⟨x, hx, e⟩ := at_lt hlt
  simp [Prep.run, hlt, e, List.idxOf_cons]
  have hxm := List.mem_of_getElem? hx
  refine ⟨fun i hi => ?_, ⟨by omega, by omega⟩, ?_⟩
  · have : i = 0 ∨ i = 1 ∨ i = 2 := by omega
    rcases this with rfl | rfl | rfl <;> simp
  refine (hF hc _ _ _ x hxm).mono ?_
  rintro _ rfl
  have hg : s.queues.getD n.toNat default = x := by rw [List.getD_eq_getElem?_getD, hx]; rfl
  have hk : queueE s n = 0 := by simp [queueE, hc, h1, h2]
  by_cases hr : (F x).1 = 0
  · simp [hr, Prep.run]
    refine vcRet_of [] ?_ rfl
    simp [onQueue, hk, hx, hr]
    exact ⟨List.take_of_length_le (by simp), List.take_of_length_le (by simp), List.take_of_length_le (by simp)⟩
  · simp [hr]
    refine vcRet_of [] ?_ rfl
    simp [onQueue, hk, hx, hr]
set_option maxRecDepth 100000 in
set_option maxHeartbeats 2000000 in
theorem onQueue2_m (s : Sy) (hf : Fits s) (n : Int) (fid : Nat) (F : Qu → Int × Qu) (Z : Qu → List (List D)) (A : Qu → Int) (B : Qu → Bool)
    (hF : chk s = 0 → ∀ XS PR j q, q ∈ s.queues → Meets Try.prog fid [.rp 1000000 3 j 0, .ptr 1000001 0, .ptr 1000002 0] [nestG XS PR j q.room 1000003 q.items.length q.shut, .box 2 [.i 0], .box 4 [.b false], rowV q.items]
      (fun r => r = ⟨.i (F q).1, [nestG XS PR j (F q).2.room 1000003 (F q).2.items.length (F q).2.shut, .box 2 [.i (A q)], .box 4 [.b (B q)], .grown 2 1 ((F q).2.items.map ics ++ Z q)], []⟩)) :
    Meets Try.prog 57 [s.pv, .i n, .clo fid [.ptr 1000000 0, .ptr 1000001 0]] [.box 2 [.i 0], .box 4 [.b false]] (fun r => r = ⟨.tup [(onQueue s n F).1.pv, .i (onQueue s n F).2], if queueE s n = 0 then [.box 2 [.i (A (s.queues.getD n.toNat default))], .box 4 [.b (B (s.queues.getD n.toNat default))]] else [.box 2 [.i 0], .box 4 [.b false]], []⟩) := by
  refine meetsP [(29, [.focus 10028 1 [(1, 900000)]]), (39, [.seenN 10028 1, .close 10028, .unnest 10028, .unnest 28])] tbOk mixed Try.func57 pl57 rfl rfl ?_
  simp [Try.ntmps57]
  refine (check_m s hf).mono ?_
  rintro _ rfl
  by_cases hc : chk s = 0
  case neg =>
    simp [hc]
    refine vcRet_of [] ?_ rfl
    simp [onQueue, queueE, hc]
  by_cases h1 : n < 0
  · simp [hc, h1]
    refine vcRet_of [] ?_ rfl
    simp [onQueue, queueE, hc, h1]
  by_cases h2 : (s.queues.length : Int) ≤ n
  · simp [hc, h1, h2]
    refine vcRet_of [] ?_ rfl
    simp [onQueue, queueE, hc, h2]
  simp [hc, h1, h2]
  refine (clone_m s hf).mono ?_
  rintro _ rfl
  have hlt : n.toNat < s.queues.length := by omega
  obtain ⟨x, hx, e⟩ := at_lt hlt
  simp [Prep.run, hlt, e, List.idxOf_cons]
  have hxm := List.mem_of_getElem? hx
  refine ⟨fun i hi => ?_, ⟨by omega, by omega⟩, ?_⟩
  · have : i = 0 ∨ i = 1 ∨ i = 2 := by omega
    rcases this with rfl | rfl | rfl <;> simp
  refine (hF hc _ _ _ x hxm).mono ?_
  rintro _ rfl
  have hg : s.queues.getD n.toNat default = x := by rw [List.getD_eq_getElem?_getD, hx]; rfl
  have hk : queueE s n = 0 := by simp [queueE, hc, h1, h2]
  by_cases hr : (F x).1 = 0
  · simp [hr, Prep.run]
    refine vcRet_of [] ?_ rfl
    simp [onQueue, hk, hx, hr]
    exact ⟨List.take_of_length_le (by simp), List.take_of_length_le (by simp), List.take_of_length_le (by simp)⟩
  · simp [hr]
    refine vcRet_of [] ?_ rfl
    simp [onQueue, hk, hx, hr]
theorem send_m (s : Sy) (hf : Fits s) (n v : Int) : Meets Try.prog 21 [s.pv, .i n, .i v] [] (Ret (.tup [(onQueue s n (sendF v)).1.pv, .i (onQueue s n (sendF v)).2])) := by
  have hf0 := hf
  obtain ⟨f1, f2, f3, f4, f5⟩ := hf
  refine meetsH [] tbOk mixed Try.func21 pl21 rfl rfl ?_
  simp [Try.ntmps21]
  refine (onQueue1_m s hf0 n 58 (sendF v) (fun _ => []) v fun hc XS PR j q hq => ?_).mono ?_
  · have := send1_m XS PR j q (by have := chk_queue hc hq; omega) v
    simpa using this
  rintro _ rfl
  simp
  exact vcRet_of [] (by simp) rfl
theorem shut_m (s : Sy) (hf : Fits s) (n : Int) : Meets Try.prog 23 [s.pv, .i n] [] (Ret (.tup [(onQueue s n shutF).1.pv, .i (onQueue s n shutF).2])) := by
  have hf0 := hf
  obtain ⟨f1, f2, f3, f4, f5⟩ := hf
  refine meetsH [] tbOk mixed Try.func23 pl23 rfl rfl ?_
  simp [Try.ntmps23]
  refine (onQueue0_m s hf0 n 61 shutF (fun _ => []) fun hc XS PR j q hq => ?_).mono ?_
  · have := shut1_m XS PR j q
    simpa using this
  rintro _ rfl
  simp
  exact vcRet_of [] (by simp) rfl
/-- What Receive returns beside the state and the error. -/
def recvV (s : Sy) (n : Int) : Int := if queueE s n = 0 then (s.queues.getD n.toNat default).items.headD 0 else 0
def recvB (s : Sy) (n : Int) : Bool := if queueE s n = 0 then decide (0 < (s.queues.getD n.toNat default).items.length) else false
set_option maxHeartbeats 1000000 in
theorem recv_m (s : Sy) (hf : Fits s) (n : Int) : Meets Try.prog 22 [s.pv, .i n] [] (Ret (.tup [(onQueue s n recvF).1.pv, .i (recvV s n), .b (recvB s n), .i (onQueue s n recvF).2])) := by
  have hf0 := hf
  obtain ⟨f1, f2, f3, f4, f5⟩ := hf
  refine meetsH [] tbOk mixed Try.func22 pl22 rfl rfl ?_
  simp [Try.ntmps22]
  refine (onQueue2_m s hf0 n 59 recvF (fun q => if 0 < q.items.length then [[.v (.int .i64 0)]] else []) (fun q => q.items.headD 0) (fun q => decide (0 < q.items.length)) fun hc XS PR j q hq => ?_).mono ?_
  · have := recv1_m XS PR j q (f5 q hq)
    simpa using this
  rintro _ rfl
  by_cases hk : queueE s n = 0
  · simp [hk]
    refine ⟨by kernel_rfl, ?_⟩
    refine vcRet_of [] ?_ rfl
    simp [recvV, recvB, hk]
  · simp [hk]
    refine ⟨by kernel_rfl, ?_⟩
    refine vcRet_of [] ?_ rfl
    simp [recvV, recvB, hk]
end Go.Proofs.Ytnkoibhjnahkiaa
namespace Go.Proofs.Ytnkoibhjnahkiaa
open Go.RowKit

set_option maxRecDepth 100000 in
set_option maxHeartbeats 2000000 in
theorem add_m (s : Sy) (hf : Fits s) (n v : Int) : Meets Try.prog 51 [s.pv, .i n, .i v] [] (Ret (.tup [(addS s n v).1.pv, .i (addS s n v).2])) := by
  refine meetsP [(45, [.unnest 10044, .unnest 44])] tbOk mixed Try.func51 pl51 rfl rfl ?_
  simp [Try.ntmps51]
  refine (check_m s hf).mono ?_
  rintro _ rfl
  by_cases hc : chk s = 0
  case neg =>
    simp [hc]
    refine vcRet_of [] ?_ rfl
    simp [addS, groupE, hc]
  by_cases h1 : n < 0
  · simp [hc, h1]
    refine vcRet_of [] ?_ rfl
    simp [addS, groupE, hc, h1]
  by_cases h2 : (s.groups.length : Int) ≤ n
  · simp [hc, h1, h2]
    refine vcRet_of [] ?_ rfl
    simp [addS, groupE, hc, h2]
  have hlt : n.toNat < s.groups.length := by omega
  obtain ⟨x, hx, e⟩ := at_lt hlt
  have hr := chk_group hc (List.mem_of_getElem? hx)
  have hw1 : IntKind.i64.wrap (-x) = -x := IntWalk.i64_in _ (by omega)
  have hw2 : IntKind.i64.wrap (1000 - x) = 1000 - x := IntWalk.i64_in _ (by omega)
  have hk : groupE s n = 0 := by simp [groupE, hc, h1, h2]
  have g1 : 0 ≤ n := by omega
  have g2 : n < s.groups.length := by omega
  by_cases h3 : v < -x
  · simp [hc, h1, h2, g1, g2, hlt, e, hw1, h3]
    refine vcRet_of [] ?_ rfl
    simp [addS, hk, hx, h3]
  by_cases h4 : 1000 - x < v
  · simp [hc, h1, h2, g1, g2, hlt, e, hw1, hw2, h3, h4]
    refine vcRet_of [] ?_ rfl
    simp [addS, hk, hx, h4]
  have hw3 : IntKind.i64.wrap (x + v) = x + v := IntWalk.i64_in _ (by omega)
  simp [hc, h1, h2, g1, g2, hlt, e, hw1, hw2, h3, h4]
  refine (clone_m s hf).mono ?_
  rintro _ rfl
  simp [Prep.run, hlt, e, hw3, g1, g2]
  refine ⟨fun i hi => ?_, ?_⟩
  · have : i = 0 ∨ i = 1 ∨ i = 2 := by omega
    rcases this with rfl | rfl | rfl <;> simp
  refine vcRet_of [] ?_ rfl
  simp [addS, hk, hx, h3, h4]
  exact ⟨List.take_of_length_le (by simp), List.take_of_length_le (by simp), List.take_of_length_le (by simp)⟩
/-- What is waited for, as a value. -/
@[simp] def Wt.pv (w : Wt) : PV := .agg [.i w.kind, .i w.obj, .i w.til]
set_option maxRecDepth 100000 in
set_option maxHeartbeats 4000000 in
theorem there_m (s : Sy) (hf : Fits s) (w : Wt) : Meets Try.prog 28 [s.pv, w.pv] [] (Ret (.tup [.b (thereS s w).1, .i (thereS s w).2])) := by
  obtain ⟨f1, f2, f3, f4, f5⟩ := hf
  have hf : Fits s := ⟨f1, f2, f3, f4, f5⟩
  refine meetsH [] tbOk mixed Try.func28 pl28 rfl rfl ?_
  simp [Try.ntmps28]
  refine (check_m s hf).mono ?_
  rintro _ rfl
  by_cases hc : chk s = 0
  case neg =>
    simp [hc]
    refine vcRet_of [] ?_ rfl
    simp [thereS, hc]
  by_cases h3 : w.kind = 3
  · by_cases hb : ¬ w.til = 0 ∧ ¬ w.til = 1
    · obtain ⟨t0, t1⟩ := hb
      simp [hc, h3, t0, t1]
      refine vcRet_of [] ?_ rfl
      simp [thereS, hc, h3, t0, t1]
    have hb : w.til = 0 ∨ w.til = 1 := by omega
    rcases hb with t0 | t0
    all_goals
      by_cases o1 : w.obj < 0
      · simp [hc, h3, t0, o1]
        refine vcRet_of [] ?_ rfl
        simp [thereS, thereN, hc, h3, t0, o1]
      by_cases o2 : (s.locks.length : Int) ≤ w.obj
      · simp [hc, h3, t0, o1, o2]
        refine vcRet_of [] ?_ rfl
        simp [thereS, thereN, hc, h3, t0, o1, o2]
      have hlt : w.obj.toNat < s.locks.length := by omega
      obtain ⟨x, hx, e⟩ := at_lt hlt
      have g1 : 0 ≤ w.obj := by omega
      have g2 : w.obj < s.locks.length := by omega
      by_cases hh : x.hold = 0
      · simp [hc, h3, t0, o1, o2, hlt, e, g1, g2, hh]
        refine vcRet_of [] ?_ rfl
        simp [thereS, thereN, hc, h3, t0, o1, o2, hx, hh]
      · simp [hc, h3, t0, o1, o2, hlt, e, g1, g2, hh]
        refine vcRet_of [] ?_ rfl
        simp [thereS, thereN, hc, h3, t0, o1, o2, hx, hh]
  by_cases h6 : w.kind = 6
  · by_cases o1 : w.obj < 0
    · simp [hc, h6, o1]
      refine vcRet_of [] ?_ rfl
      simp [thereS, thereN, hc, h6, o1]
    by_cases o2 : (s.groups.length : Int) ≤ w.obj
    · simp [hc, h6, o1, o2]
      refine vcRet_of [] ?_ rfl
      simp [thereS, thereN, hc, h6, o1, o2]
    have hlt : w.obj.toNat < s.groups.length := by omega
    obtain ⟨x, hx, e⟩ := at_lt hlt
    have g1 : 0 ≤ w.obj := by omega
    have g2 : w.obj < s.groups.length := by omega
    simp [hc, h6, o1, o2, hlt, e, g1, g2]
    refine vcRet_of [] ?_ rfl
    simp [thereS, thereN, hc, h6, o1, o2, hx]
  by_cases h45 : w.kind = 4 ∨ w.kind = 5
  case neg =>
    obtain ⟨h4, h5⟩ : ¬ w.kind = 4 ∧ ¬ w.kind = 5 := by omega
    simp [hc, h3, h4, h5, h6]
    refine vcRet_of [] ?_ rfl
    simp [thereS, hc, h3, h4, h5, h6]
  by_cases o1 : w.obj < 0
  · rcases h45 with h | h <;> simp [hc, h, o1] <;> refine vcRet_of [] ?_ rfl <;> simp [thereS, thereN, hc, h, o1]
  by_cases o2 : (s.queues.length : Int) ≤ w.obj
  · rcases h45 with h | h <;> simp [hc, h, o1, o2] <;> refine vcRet_of [] ?_ rfl <;> simp [thereS, thereN, hc, h, o1, o2]
  have hlt : w.obj.toNat < s.queues.length := by omega
  obtain ⟨x, hx, e⟩ := at_lt hlt
  have g1 : 0 ≤ w.obj := by omega
  have g2 : w.obj < s.queues.length := by omega
  rcases h45 with h | h
  · cases hs : x.shut <;> simp [hc, h, o1, o2, hlt, e, g1, g2, hs] <;> refine vcRet_of [] ?_ rfl <;> simp [thereS, thereN, hc, h, o1, o2, hx, hs]
  · cases hs : x.shut
    all_goals
      simp [hc, h, o1, o2, hlt, e, g1, g2, hs]
      refine ⟨by kernel_rfl, ?_⟩
      refine vcRet_of [] ?_ rfl
      simp [thereS, thereN, hc, h, o1, o2, hx, hs]
end Go.Proofs.Ytnkoibhjnahkiaa
namespace Go.Proofs.Ytnkoibhjnahkiaa
open Go.RowKit

set_option maxRecDepth 100000 in
set_option maxHeartbeats 2000000 in
theorem holdsT_m (s : Sy) (hf : Fits s) (t : Int) : Meets Try.prog 54 [s.pv, .i t] [] (Ret (.tup [.d (il (holdsS s t).1), .i (holdsS s t).2])) := by
  have hf0 := hf
  obtain ⟨f1, f2, f3, f4, f5⟩ := hf
  refine meetsH [] tbOk mixed Try.func54 pl54 rfl rfl ?_
  simp [Try.ntmps54]
  refine (check_m s hf0).mono ?_
  rintro _ rfl
  by_cases hc : chk s = 0
  case neg =>
    simp [hc]
    refine vcRet_of [] ?_ rfl
    simp [holdsS, hc]
  simp [hc]
  refine (task_m t).mono ?_
  rintro _ rfl
  cases ht : inT t
  case false =>
    simp
    refine vcRet_of [] ?_ rfl
    simp [holdsS, hc, ht]
  simp
  refine vc_loop (fun m σ => ∃ k : Nat, m = s.locks.length - k ∧ k ≤ s.locks.length ∧ σ = ⟨35, [(20, .i k), (19, .i s.locks.length), (18, .d (lks s.locks)), (7, .rw 7 (hldTo t s.locks k).length), (2, .ptr 2 0), (1, .i t)], [(7, .row 3 1 ((hldTo t s.locks k).map ics) false), (2, s.box)]⟩) ?_ ?_
  · exact ⟨_, _, ⟨0, rfl, Nat.zero_le _, rfl⟩, [.row 7 3 1], _, rfl, by simp [hldTo]⟩
  rintro m σ ⟨k, rfl, hk, rfl⟩
  have hle := hldTo_len t s.locks k
  by_cases hlt : k < s.locks.length
  · obtain ⟨x, hx, e⟩ := at_lt hlt
    simp [hlt, e]
    refine (holds_m x (f4 x (List.mem_of_getElem? hx)) t).mono ?_
    rintro _ rfl
    cases hh : hasT t x
    · have h9 : hldTo t s.locks (k + 1) = hldTo t s.locks k := by simp [hldTo, hx, hh]
      simp [wrap_succ hlt f1]
      refine ⟨_, ?_, _, ⟨k + 1, rfl, hlt, rfl⟩, [], _, rfl, by simp [h9]⟩
      omega
    · have h9 : hldTo t s.locks (k + 1) = hldTo t s.locks k ++ [(k : Int)] := by simp [hldTo, hx, hh]
      simp [wrap_succ hlt f1]
      refine ⟨by omega, _, ?_, _, ⟨k + 1, rfl, hlt, rfl⟩, [], _, rfl, by simp [h9]⟩
      omega
  obtain rfl : k = s.locks.length := by omega
  simp
  refine vcRet_of [] ?_ rfl
  simp [holdsS, hc, ht]
  exact List.take_of_length_le (by simp)
theorem min_lt {a b : Int} : min a b < 0 ↔ a < 0 ∨ b < 0 := by omega
set_option maxRecDepth 100000 in
set_option maxHeartbeats 2000000 in
theorem new_m (n : Int) (rooms : List Int) (hl : rooms.length < 4294967296) (g : Int) : Meets Try.prog 10 [.i n, .d (il rooms), .i g] [] (Ret (.tup [(newS n rooms g).1.pv, .i (newS n rooms g).2])) := by
  refine meetsH [] tbOk mixed Try.func10 pl10 rfl rfl ?_
  by_cases hm : (16 : Int) < max n (max (rooms.length : Int) g)
  · simp [Try.ntmps10, hm]
    refine vcRet_of [] ?_ rfl
    have : 16 < n ∨ 16 < rooms.length ∨ 16 < g := by omega
    simp [newS, this, noSy]
  have hm' : ¬ (16 < n ∨ 16 < rooms.length ∨ 16 < g) := by omega
  by_cases h0 : min n g < 0
  · simp [Try.ntmps10, hm, h0]
    refine vcRet_of [] ?_ rfl
    have : n < 0 ∨ g < 0 := by omega
    simp [newS, this, hm', noSy]
  have h0' : ¬ (n < 0 ∨ g < 0) := by omega
  obtain ⟨n, rfl⟩ : ∃ m : Nat, n = m := ⟨n.toNat, by omega⟩
  obtain ⟨g, rfl⟩ : ∃ m : Nat, g = m := ⟨g.toNat, by omega⟩
  simp [Try.ntmps10, hm, h0]
  refine ⟨by omega, by omega, by kernel_rfl, ?_⟩
  refine vc_loop (fun m σ => ∃ k : Nat, m = rooms.length - k ∧ k ≤ rooms.length ∧ (rooms.take k).all roomOk = true ∧ σ = ⟨50, [(30, .i k), (29, .i rooms.length), (28, .d (il rooms)), (8, .ptr 8 0), (6, .ptr 6 0)], [(8, .box 27 [.rw 24 n, .rw 900001 k, .rw 26 g]), (24, .row 57 2 (List.replicate n (Lk.ds ⟨0, []⟩)) false), (26, .row 3 1 (List.replicate g (ics 0)) false), (900001, .row 55 3 ((rooms.take k).map fun r => Qu.ds ⟨r, [], false⟩) false), (6, .box 27 [.d (.v (.slice none 0 0)), .d (.v (.slice none 0 0)), .d (.v (.slice none 0 0))])]⟩) ?_ ?_
  · refine ⟨_, _, ⟨0, rfl, Nat.zero_le _, rfl, rfl⟩, [.cell 8 1 900001 55 3, .soft 24 1 1], _, rfl, ?_⟩
    simp
  rintro m σ ⟨k, rfl, hk, hr, rfl⟩
  by_cases hlt : k < rooms.length
  · obtain ⟨x, hx, e⟩ := at_lt hlt
    have hall : roomOk x = false → rooms.all roomOk = false := fun h => all_at hx h
    by_cases h1 : x < 1
    · simp [hlt, e, h1]
      refine vcRet_of [] ?_ rfl
      have := hall (by simp [roomOk]; omega)
      simp [newS, this, hm', h0', noSy]
    by_cases h2 : 64 < x
    · simp [hlt, e, h1, h2]
      refine vcRet_of [] ?_ rfl
      have := hall (by simp [roomOk]; omega)
      simp [newS, this, hm', h0', noSy]
    have hm2 : min k rooms.length = k := by omega
    simp [hlt, e, h1, h2, wrap_succ hlt hl, hm2]
    refine ⟨by omega, _, ?_, _, ⟨k + 1, rfl, hlt, ?_, rfl⟩, [.soft 900001 1 1], _, rfl, ?_⟩
    · omega
    · rw [← List.all_eq_true, List.take_add_one, hx, List.all_append, hr]
      simp [roomOk]
      omega
    · simp [List.take_add_one, hx, Function.comp_def]
  obtain rfl : k = rooms.length := by omega
  simp
  refine vcRet_of [] ?_ rfl
  rw [List.take_of_length_le (Nat.le_refl _)] at hr
  simp [newS, hr, hm', h0', Function.comp_def]
  exact List.take_of_length_le (by simp)
end Go.Proofs.Ytnkoibhjnahkiaa
