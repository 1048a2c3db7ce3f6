/- Locks: contracts (N7). No condition. -/
import Derived.Test.YtnkoibhjnahkiaaN6
import Derived.Test.YtnkoibhjnahkiaaV20
import Derived.Test.YtnkoibhjnahkiaaN3
import Derived.Test.YtnkoibhjnahkiaaN5
namespace Go.Proofs.Ytnkoibhjnahkiaa
open Go.RowKit Go.ChangeShapes Go.WideShapes
set_option maxRecDepth 100000

structure Ca where
  what : Int
  obj : Int
  task : Int
  v : Int
deriving DecidableEq
instance : Inhabited Ca := ⟨⟨0, 0, 0, 0⟩⟩
@[simp] def Ca.ds (c : Ca) : List D := [.v (.int .u8 c.what), .v (.int .i64 c.obj), .v (.int .i64 c.task), .v (.int .i64 c.v)]
@[simp] def cas (l : List Ca) : D := .sl 4 (l.map Ca.ds)
@[simp] def Wt.ds (w : Wt) : List D := [.v (.int .i64 w.kind), .v (.int .i64 w.obj), .v (.int .i64 w.til)]
@[simp] def wts (l : List Wt) : D := .sl 3 (l.map Wt.ds)
theorem opens2 : Opens Try.prog 2 (fun ds => ∃ x, ds = [x] ∧ ∃ n, x = .v (.int .i64 n)) := (opens_int (k := .i64) Try.underlying2 (by kernel_rfl)).mono fun _ ⟨n, e, _⟩ => ⟨_, e, n, rfl⟩
theorem opens3 : Opens Try.prog 3 (fun ds => ∃ x, ds = [x] ∧ ∃ n, x = .v (.int .i64 n)) := (opens_int (k := .i64) Try.underlying3 (by kernel_rfl)).mono fun _ ⟨n, e, _⟩ => ⟨_, e, n, rfl⟩
theorem opens4 : Opens Try.prog 4 (fun ds => ∃ x, ds = [x] ∧ ∃ b, x = .v (.bool b)) := (opens_bool Try.underlying4 (by kernel_rfl)).mono fun _ ⟨b, e⟩ => ⟨_, e, b, rfl⟩
theorem opens5 : Opens Try.prog 5 (fun ds => ∃ x, ds = [x] ∧ ∃ n, x = .v (.int .u8 n) ∧ 0 ≤ n ∧ n ≤ 255) := (opens_int (k := .u8) Try.underlying5 (by kernel_rfl)).mono fun _ ⟨n, e, h1, h2⟩ => ⟨_, e, n, rfl, h1, h2⟩
theorem opens22 : Opens Try.prog 22 (fun ds => ∃ x, ds = [x] ∧ ∃ l : List Int, x = il l ∧ l.length ≤ maxLen) :=
  (opens_slice Try.underlying22 (by kernel_rfl) (opens3.mono (Q' := fun ds => ∃ n : Int, ds = ics n ∧ True) fun ds ⟨x, h, n, e⟩ => ⟨n, by rw [h, e]; rfl, trivial⟩) (sz := 1) (by kernel_rfl) (by decide)).mono fun ds h => by
    obtain ⟨xs, rfl, h1, h2⟩ := h
    obtain ⟨ws, rfl, _⟩ := rows_of h1
    exact ⟨_, rfl, ws, rfl, by simpa using h2⟩
theorem opens47 : Opens Try.prog 47 (fun ds => ∃ x, ds = [x] ∧ ∃ l : List Int, x = il l ∧ l.length ≤ maxLen) :=
  (opens_slice Try.underlying47 (by kernel_rfl) (opens2.mono (Q' := fun ds => ∃ n : Int, ds = ics n ∧ True) fun ds ⟨x, h, n, e⟩ => ⟨n, by rw [h, e]; rfl, trivial⟩) (sz := 1) (by kernel_rfl) (by decide)).mono fun ds h => by
    obtain ⟨xs, rfl, h1, h2⟩ := h
    obtain ⟨ws, rfl, _⟩ := rows_of h1
    exact ⟨_, rfl, ws, rfl, by simpa using h2⟩
theorem opens57 : Opens Try.prog 57 (fun ds => ∃ x : Lk, ds = x.ds ∧ True) :=
  (opens_struct Try.underlying57 (Qs := [_, _]) ⟨rfl, opens3, by kernel_rfl, opens22, by show _ = _; kernel_rfl⟩).mono fun ds h => by
    obtain ⟨_, _, rfl, ⟨_, rfl, a, rfl⟩, _, _, rfl, ⟨_, rfl, b, rfl, _⟩, rfl⟩ := h
    exact ⟨⟨a, b⟩, rfl, trivial⟩
theorem opens55 : Opens Try.prog 55 (fun ds => ∃ x : Qu, ds = x.ds ∧ True) :=
  (opens_struct Try.underlying55 (Qs := [_, _, _]) ⟨rfl, opens3, by kernel_rfl, opens47, by kernel_rfl, opens4, by show _ = _; kernel_rfl⟩).mono fun ds h => by
    obtain ⟨_, _, rfl, ⟨_, rfl, a, rfl⟩, _, _, rfl, ⟨_, rfl, b, rfl, _⟩, _, _, rfl, ⟨_, rfl, c, rfl⟩, rfl⟩ := h
    exact ⟨⟨a, b, c⟩, rfl, trivial⟩
theorem opens24 : Opens Try.prog 24 (fun ds => ∃ x, ds = [x] ∧ ∃ l : List Lk, x = lks l ∧ l.length ≤ maxLen) :=
  (opens_slice Try.underlying24 (by kernel_rfl) opens57 (sz := 2) (by kernel_rfl) (by decide)).mono fun ds h => by
    obtain ⟨xs, rfl, h1, h2⟩ := h
    obtain ⟨ws, rfl, _⟩ := rows_of h1
    exact ⟨_, rfl, ws, rfl, by simpa using h2⟩
theorem opens25 : Opens Try.prog 25 (fun ds => ∃ x, ds = [x] ∧ ∃ l : List Qu, x = qus l ∧ l.length ≤ maxLen) :=
  (opens_slice Try.underlying25 (by kernel_rfl) opens55 (sz := 3) (by kernel_rfl) (by decide)).mono fun ds h => by
    obtain ⟨xs, rfl, h1, h2⟩ := h
    obtain ⟨ws, rfl, _⟩ := rows_of h1
    exact ⟨_, rfl, ws, rfl, by simpa using h2⟩
theorem opens27 : Opens Try.prog 27 (fun ds => ∃ s : Sy, PV.agg (ds.map PV.d) = s.pv ∧ Lens s) :=
  (opens_struct Try.underlying27 (Qs := [_, _, _]) ⟨rfl, opens24, by kernel_rfl, opens25, by kernel_rfl, opens22, by show _ = _; kernel_rfl⟩).mono fun ds h => by
    obtain ⟨_, _, rfl, ⟨_, rfl, a, rfl, ha⟩, _, _, rfl, ⟨_, rfl, b, rfl, hb⟩, _, _, rfl, ⟨_, rfl, c, rfl, _⟩, rfl⟩ := h
    exact ⟨⟨a, b, c⟩, rfl, ha, hb⟩
theorem opens45 : Opens Try.prog 45 (fun ds => ∃ x : Ca, ds = x.ds ∧ 0 ≤ x.what) :=
  (opens_struct Try.underlying45 (Qs := [_, _, _, _]) ⟨rfl, opens5, by kernel_rfl, opens3, by kernel_rfl, opens3, by kernel_rfl, opens2, by show _ = _; kernel_rfl⟩).mono fun ds h => by
    obtain ⟨_, _, rfl, ⟨_, rfl, a, rfl, ha, _⟩, _, _, rfl, ⟨_, rfl, b, rfl⟩, _, _, rfl, ⟨_, rfl, c, rfl⟩, _, _, rfl, ⟨_, rfl, d, rfl⟩, rfl⟩ := h
    exact ⟨⟨a, b, c, d⟩, rfl, ha⟩
theorem opens39 : Opens Try.prog 39 (fun ds => ∃ x, ds = [x] ∧ ∃ l : List Ca, x = cas l ∧ ∀ c ∈ l, 0 ≤ c.what) :=
  (opens_slice Try.underlying39 (by kernel_rfl) opens45 (sz := 4) (by kernel_rfl) (by decide)).mono fun ds h => by
    obtain ⟨xs, rfl, h1, _⟩ := h
    obtain ⟨ws, rfl, hw⟩ := rows_of h1
    exact ⟨_, rfl, ws, rfl, hw⟩
theorem opens63 : Opens Try.prog 63 (fun ds => ∃ x : Wt, ds = x.ds ∧ True) :=
  (opens_struct Try.underlying63 (Qs := [_, _, _]) ⟨rfl, opens3, by kernel_rfl, opens2, by kernel_rfl, opens2, by show _ = _; kernel_rfl⟩).mono fun ds h => by
    obtain ⟨_, _, rfl, ⟨_, rfl, a, rfl⟩, _, _, rfl, ⟨_, rfl, b, rfl⟩, _, _, rfl, ⟨_, rfl, c, rfl⟩, rfl⟩ := h
    exact ⟨⟨a, b, c⟩, rfl, trivial⟩
theorem opens33 : Opens Try.prog 33 (fun ds => ∃ x, ds = [x] ∧ ∃ l : List Wt, x = wts l) :=
  (opens_slice Try.underlying33 (by kernel_rfl) opens63 (sz := 3) (by kernel_rfl) (by decide)).mono fun ds h => by
    obtain ⟨xs, rfl, h1, _⟩ := h
    obtain ⟨ws, rfl, _⟩ := rows_of h1
    exact ⟨_, rfl, ws, rfl⟩
section
variable {H : Type} {enc : TypeId × Value → H} {w : World} {base : Nat} {spare : Nat → Bool} {held : Bool} {r : Reach} {b0 : Nat} {v : Value} {d : DataW H} {p : List MemPlace} {m : Map}
theorem argSy (hv : Value.okWide Try.prog w r b0 27 v) (h : DataW.Trod enc Try.prog w base spare held 27 v d p) : ∃ s : Sy, Lens s ∧ Rep m w (allCells w) v s.pv := by
  obtain ⟨ds, ⟨s, hs, hl⟩, hr⟩ := arg_struct (m := m) Try.underlying27 opens27 hv h
  rw [hs] at hr
  exact ⟨s, hl, hr⟩
theorem argInts (hv : Value.okWide Try.prog w r b0 22 v) (h : DataW.Trod enc Try.prog w base spare held 22 v d p) : ∃ l : List Int, Rep m w (allCells w) v (.d (il l)) := by
  obtain ⟨A, n, c, rfl⟩ := okWide_slice Try.underlying22 hv
  obtain ⟨x, ⟨l, rfl, _⟩, hr⟩ := arg_one (m := m) opens22 rfl h
  exact ⟨l, hr⟩
theorem argCas (hv : Value.okWide Try.prog w r b0 39 v) (h : DataW.Trod enc Try.prog w base spare held 39 v d p) : ∃ l : List Ca, (∀ c ∈ l, 0 ≤ c.what) ∧ Rep m w (allCells w) v (.d (cas l)) := by
  obtain ⟨A, n, c, rfl⟩ := okWide_slice Try.underlying39 hv
  obtain ⟨x, ⟨l, rfl, hl⟩, hr⟩ := arg_one (m := m) opens39 rfl h
  exact ⟨l, hl, hr⟩
theorem argWts (hv : Value.okWide Try.prog w r b0 33 v) (h : DataW.Trod enc Try.prog w base spare held 33 v d p) : ∃ l : List Wt, Rep m w (allCells w) v (.d (wts l)) := by
  obtain ⟨A, n, c, rfl⟩ := okWide_slice Try.underlying33 hv
  obtain ⟨x, ⟨l, rfl⟩, hr⟩ := arg_one (m := m) opens33 rfl h
  exact ⟨l, hr⟩
theorem argInt (hv : Value.okWide Try.prog w r b0 3 v) (h : DataW.Trod enc Try.prog w base spare held 3 v d p) : ∃ n : Int, Rep m w (allCells w) v (.i n) := by
  obtain ⟨n, rfl⟩ := okWide_int Try.underlying3 hv
  obtain ⟨x, ⟨l, rfl⟩, hr⟩ := arg_one (m := m) opens3 rfl h
  exact ⟨l, hr⟩
end
end Go.Proofs.Ytnkoibhjnahkiaa
namespace Go.Proofs.Ytnkoibhjnahkiaa
open Go.RowKit

@[simp] def Ca.pv (c : Ca) : PV := .agg [.d (.v (.int .u8 c.what)), .i c.obj, .i c.task, .i c.v]
theorem Ca.rem {c : Ca} {k : Int} (h : c.what % 10 = k) (hw : 0 ≤ c.what) : c.what.tmod 10 = k := by rw [Int.tmod_eq_emod_of_nonneg hw, h]
def doS (s : Sy) (c : Ca) : Sy :=
  if c.what % 10 = 2 then (onLock s c.obj c.task (unlockF c.task)).1 else if c.what % 10 = 3 then (onLock s c.obj c.task (rlockF c.task)).1
  else if c.what % 10 = 4 then (onLock s c.obj c.task (runlockF c.task)).1 else if c.what % 10 = 5 then (onQueue s c.obj (sendF c.v)).1
  else if c.what % 10 = 6 then (onQueue s c.obj recvF).1 else if c.what % 10 = 7 then (onQueue s c.obj shutF).1
  else if c.what % 10 = 8 then (addS s c.obj c.v).1 else if c.what % 10 = 9 then s else (onLock s c.obj c.task (lockF c.task)).1
theorem Fits.lock {s : Sy} (hf : Fits s) {lock t : Int} {F : Lk → Int × Lk} (hF : ∀ l, (F l).2.rd.length ≤ l.rd.length + 1) : Fits (onLock s lock t F).1 := by
  unfold onLock
  split
  · exact hf
  · rename_i hk
    split
    · exact hf
    · obtain ⟨f1, f2, f3, f4, f5⟩ := hf
      have hk : known s lock t = 0 := by simpa using hk
      obtain ⟨g1, g2⟩ := known_lt hk
      obtain ⟨x, hx, _⟩ := at_lt (show lock.toNat < s.locks.length by omega)
      have hg : s.locks.getD lock.toNat default = x := by rw [List.getD_eq_getElem?_getD, hx]; rfl
      refine ⟨by simpa using f1, f2, f3, fun l hl => ?_, f5⟩
      rcases List.mem_or_eq_of_mem_set hl with hl | rfl
      · exact f4 l hl
      · rw [hg]
        have h1 := hF x
        have h2 := (chk_lock (known_chk hk) (List.mem_of_getElem? hx)).2
        omega
theorem Fits.queue {s : Sy} (hf : Fits s) {n : Int} {F : Qu → Int × Qu} (hF : ∀ q, (F q).2.items.length ≤ q.items.length + 1) : Fits (onQueue s n F).1 := by
  unfold onQueue
  split
  · exact hf
  · rename_i hk
    split
    · exact hf
    · obtain ⟨f1, f2, f3, f4, f5⟩ := hf
      have hk : queueE s n = 0 := by simpa using hk
      obtain ⟨g1, g2⟩ := queueE_lt hk
      obtain ⟨x, hx, _⟩ := at_lt (show n.toNat < s.queues.length by omega)
      have hg : s.queues.getD n.toNat default = x := by rw [List.getD_eq_getElem?_getD, hx]; rfl
      refine ⟨f1, by simpa using f2, f3, f4, fun l hl => ?_⟩
      rcases List.mem_or_eq_of_mem_set hl with hl | rfl
      · exact f5 l hl
      · rw [hg]
        have h1 := hF x
        have h2 := (chk_queue (queueE_chk hk) (List.mem_of_getElem? hx)).2.2.1
        omega
theorem Fits.add {s : Sy} (hf : Fits s) {n v : Int} : Fits (addS s n v).1 := by
  unfold addS
  split
  · exact hf
  · split
    · exact hf
    · obtain ⟨f1, f2, f3, f4, f5⟩ := hf
      exact ⟨f1, f2, by simpa using f3, f4, f5⟩
theorem lockF_len (t : Int) (l : Lk) : (lockF t l).2.rd.length ≤ l.rd.length + 1 := by unfold lockF; split <;> (try split) <;> simp
theorem unlockF_len (t : Int) (l : Lk) : (unlockF t l).2.rd.length ≤ l.rd.length + 1 := by unfold unlockF; split <;> simp
theorem rlockF_len (t : Int) (l : Lk) : (rlockF t l).2.rd.length ≤ l.rd.length + 1 := by
  unfold rlockF
  split
  · simp
  · split
    · simp
    · have := putIn_len t l.rd
      simp; omega
theorem runlockF_len (t : Int) (l : Lk) : (runlockF t l).2.rd.length ≤ l.rd.length + 1 := by
  unfold runlockF
  split
  · simp only [List.length_eraseIdx]; split <;> omega
  · simp
theorem sendF_len (v : Int) (q : Qu) : (sendF v q).2.items.length ≤ q.items.length + 1 := by unfold sendF; split <;> (try split) <;> simp
theorem recvF_len (q : Qu) : (recvF q).2.items.length ≤ q.items.length + 1 := by
  unfold recvF
  split
  · simp only [List.length_eraseIdx]; split <;> omega
  · split <;> simp
theorem shutF_len (q : Qu) : (shutF q).2.items.length ≤ q.items.length + 1 := by unfold shutF; split <;> simp
theorem holdsS_len (s : Sy) (t : Int) (h : s.locks.length < 4294967296) : (holdsS s t).1.length < 4294967296 := by
  unfold holdsS
  split
  · simp
  · split
    · simp
    · have := hldTo_len t s.locks s.locks.length
      simp only; omega
theorem Fits.doS {s : Sy} (hf : Fits s) (c : Ca) : Fits (doS s c) := by
  unfold Go.Proofs.Ytnkoibhjnahkiaa.doS
  split
  · exact hf.lock (unlockF_len _)
  split
  · exact hf.lock (rlockF_len _)
  split
  · exact hf.lock (runlockF_len _)
  split
  · exact hf.queue (sendF_len _)
  split
  · exact hf.queue recvF_len
  split
  · exact hf.queue shutF_len
  split
  · exact hf.add
  split
  · exact hf
  · exact hf.lock (lockF_len _)
set_option maxRecDepth 100000 in
set_option maxHeartbeats 8000000 in
theorem do2_m (s : Sy) (hf : Fits s) (c : Ca) (h : c.what % 10 = 2) (hw : 0 ≤ c.what) : Meets Try.prog 20 [s.pv, c.pv] [] (Ret (.tup [(doS s c).pv, .b true])) := by
  refine meetsH [] tbOk mixed Try.func20 pl20 rfl rfl ?_
  simp [Try.ntmps20, Ca.rem h hw]
  refine (unlock_m s hf c.obj c.task).mono ?_
  rintro _ rfl
  simp
  refine (refUnlock_m s hf c.obj c.task).mono ?_
  rintro _ rfl
  simp
  refine effCall (same_m (onLock s c.obj c.task (unlockF c.task)).1 (onLock s c.obj c.task (unlockF c.task)).1 (hf.lock (unlockF_len _))) ?_
  simp
  refine ⟨by kernel_rfl, vcRet_of [] ?_ rfl⟩
  simp [doS, h]
set_option maxRecDepth 100000 in
set_option maxHeartbeats 8000000 in
theorem do3_m (s : Sy) (hf : Fits s) (c : Ca) (h : c.what % 10 = 3) (hw : 0 ≤ c.what) : Meets Try.prog 20 [s.pv, c.pv] [] (Ret (.tup [(doS s c).pv, .b true])) := by
  refine meetsH [] tbOk mixed Try.func20 pl20 rfl rfl ?_
  simp [Try.ntmps20, Ca.rem h hw]
  refine (rlock_m s hf c.obj c.task).mono ?_
  rintro _ rfl
  simp
  refine (refRLock_m s hf c.obj c.task).mono ?_
  rintro _ rfl
  simp
  refine effCall (same_m (onLock s c.obj c.task (rlockF c.task)).1 (onLock s c.obj c.task (rlockF c.task)).1 (hf.lock (rlockF_len _))) ?_
  simp
  refine ⟨by kernel_rfl, vcRet_of [] ?_ rfl⟩
  simp [doS, h]
set_option maxRecDepth 100000 in
set_option maxHeartbeats 8000000 in
theorem do4_m (s : Sy) (hf : Fits s) (c : Ca) (h : c.what % 10 = 4) (hw : 0 ≤ c.what) : Meets Try.prog 20 [s.pv, c.pv] [] (Ret (.tup [(doS s c).pv, .b true])) := by
  refine meetsH [] tbOk mixed Try.func20 pl20 rfl rfl ?_
  simp [Try.ntmps20, Ca.rem h hw]
  refine (runlock_m s hf c.obj c.task).mono ?_
  rintro _ rfl
  simp
  refine (refRUnlock_m s hf c.obj c.task).mono ?_
  rintro _ rfl
  simp
  refine effCall (same_m (onLock s c.obj c.task (runlockF c.task)).1 (onLock s c.obj c.task (runlockF c.task)).1 (hf.lock (runlockF_len _))) ?_
  simp
  refine ⟨by kernel_rfl, vcRet_of [] ?_ rfl⟩
  simp [doS, h]
set_option maxRecDepth 100000 in
set_option maxHeartbeats 8000000 in
theorem do5_m (s : Sy) (hf : Fits s) (c : Ca) (h : c.what % 10 = 5) (hw : 0 ≤ c.what) : Meets Try.prog 20 [s.pv, c.pv] [] (Ret (.tup [(doS s c).pv, .b true])) := by
  refine meetsH [] tbOk mixed Try.func20 pl20 rfl rfl ?_
  simp [Try.ntmps20, Ca.rem h hw]
  refine (send_m s hf c.obj c.v).mono ?_
  rintro _ rfl
  simp
  refine (refSend_m s hf c.obj c.v).mono ?_
  rintro _ rfl
  simp
  refine effCall (same_m (onQueue s c.obj (sendF c.v)).1 (onQueue s c.obj (sendF c.v)).1 (hf.queue (sendF_len _))) ?_
  simp
  refine ⟨by kernel_rfl, vcRet_of [] ?_ rfl⟩
  simp [doS, h]
set_option maxRecDepth 100000 in
set_option maxHeartbeats 8000000 in
theorem do7_m (s : Sy) (hf : Fits s) (c : Ca) (h : c.what % 10 = 7) (hw : 0 ≤ c.what) : Meets Try.prog 20 [s.pv, c.pv] [] (Ret (.tup [(doS s c).pv, .b true])) := by
  refine meetsH [] tbOk mixed Try.func20 pl20 rfl rfl ?_
  simp [Try.ntmps20, Ca.rem h hw]
  refine (shut_m s hf c.obj).mono ?_
  rintro _ rfl
  simp
  refine (refShut_m s hf c.obj).mono ?_
  rintro _ rfl
  simp
  refine effCall (same_m (onQueue s c.obj shutF).1 (onQueue s c.obj shutF).1 (hf.queue shutF_len)) ?_
  simp
  refine ⟨by kernel_rfl, vcRet_of [] ?_ rfl⟩
  simp [doS, h]
set_option maxRecDepth 100000 in
set_option maxHeartbeats 8000000 in
theorem do8_m (s : Sy) (hf : Fits s) (c : Ca) (h : c.what % 10 = 8) (hw : 0 ≤ c.what) : Meets Try.prog 20 [s.pv, c.pv] [] (Ret (.tup [(doS s c).pv, .b true])) := by
  refine meetsH [] tbOk mixed Try.func20 pl20 rfl rfl ?_
  simp [Try.ntmps20, Ca.rem h hw]
  refine (add_m s hf c.obj c.v).mono ?_
  rintro _ rfl
  simp
  refine (refAdd_m s hf c.obj c.v).mono ?_
  rintro _ rfl
  simp
  refine effCall (same_m (addS s c.obj c.v).1 (addS s c.obj c.v).1 hf.add) ?_
  simp
  refine ⟨by kernel_rfl, vcRet_of [] ?_ rfl⟩
  simp [doS, h]
set_option maxRecDepth 100000 in
set_option maxHeartbeats 8000000 in
theorem do6_m (s : Sy) (hf : Fits s) (c : Ca) (h : c.what % 10 = 6) (hw : 0 ≤ c.what) : Meets Try.prog 20 [s.pv, c.pv] [] (Ret (.tup [(doS s c).pv, .b true])) := by
  refine meetsH [] tbOk mixed Try.func20 pl20 rfl rfl ?_
  simp [Try.ntmps20, Ca.rem h hw]
  refine (recv_m s hf c.obj).mono ?_
  rintro _ rfl
  simp
  refine (refRecv_m s hf c.obj).mono ?_
  rintro _ rfl
  simp
  refine ⟨by kernel_rfl, ?_⟩
  refine effCall (same_m (onQueue s c.obj recvF).1 (onQueue s c.obj recvF).1 (hf.queue recvF_len)) ?_
  simp
  refine ⟨by kernel_rfl, vcRet_of [] ?_ rfl⟩
  simp [doS, h]
set_option maxRecDepth 100000 in
set_option maxHeartbeats 8000000 in
theorem do9_m (s : Sy) (hf : Fits s) (c : Ca) (h : c.what % 10 = 9) (hw : 0 ≤ c.what) : Meets Try.prog 20 [s.pv, c.pv] [] (Ret (.tup [(doS s c).pv, .b true])) := by
  refine meetsH [] tbOk mixed Try.func20 pl20 rfl rfl ?_
  simp [Try.ntmps20, Ca.rem h hw]
  refine (there_m s hf ⟨c.task, c.obj, c.v⟩).mono ?_
  rintro _ rfl
  simp
  refine (refThere_m s hf ⟨c.task, c.obj, c.v⟩).mono ?_
  rintro _ rfl
  simp
  refine (holdsT_m s hf c.task).mono ?_
  rintro _ rfl
  simp
  refine (refHolds_m s hf c.task).mono ?_
  rintro _ rfl
  simp
  refine effCall (sameInts_m (holdsS s c.task).1 (holdsS s c.task).1 (holdsS_len s c.task hf.1)) ?_
  simp
  refine ⟨by kernel_rfl, vcRet_of [] ?_ rfl⟩
  simp [doS, h]
set_option maxRecDepth 100000 in
set_option maxHeartbeats 8000000 in
theorem do0_m (s : Sy) (hf : Fits s) (c : Ca) (h2 : ¬ c.what % 10 = 2) (h3 : ¬ c.what % 10 = 3) (h4 : ¬ c.what % 10 = 4) (h5 : ¬ c.what % 10 = 5) (h6 : ¬ c.what % 10 = 6) (h7 : ¬ c.what % 10 = 7) (h8 : ¬ c.what % 10 = 8) (h9 : ¬ c.what % 10 = 9) (hw : 0 ≤ c.what) : Meets Try.prog 20 [s.pv, c.pv] [] (Ret (.tup [(doS s c).pv, .b true])) := by
  refine meetsH [] tbOk mixed Try.func20 pl20 rfl rfl ?_
  have g : c.what.tmod 10 = c.what % 10 := Int.tmod_eq_emod_of_nonneg hw
  simp [Try.ntmps20, g, h2, h3, h4, h5, h6, h7, h8, h9]
  refine (lock_m s hf c.obj c.task).mono ?_
  rintro _ rfl
  simp
  refine (refLock_m s hf c.obj c.task).mono ?_
  rintro _ rfl
  simp
  refine effCall (same_m (onLock s c.obj c.task (lockF c.task)).1 (onLock s c.obj c.task (lockF c.task)).1 (hf.lock (lockF_len _))) ?_
  simp
  refine ⟨by kernel_rfl, vcRet_of [] ?_ rfl⟩
  simp [doS, h2, h3, h4, h5, h6, h7, h8, h9]
theorem do_m (s : Sy) (hf : Fits s) (c : Ca) (hw : 0 ≤ c.what) : Meets Try.prog 20 [s.pv, c.pv] [] (Ret (.tup [(doS s c).pv, .b true])) := by
  by_cases h2 : c.what % 10 = 2
  · exact do2_m s hf c h2 hw
  by_cases h3 : c.what % 10 = 3
  · exact do3_m s hf c h3 hw
  by_cases h4 : c.what % 10 = 4
  · exact do4_m s hf c h4 hw
  by_cases h5 : c.what % 10 = 5
  · exact do5_m s hf c h5 hw
  by_cases h6 : c.what % 10 = 6
  · exact do6_m s hf c h6 hw
  by_cases h7 : c.what % 10 = 7
  · exact do7_m s hf c h7 hw
  by_cases h8 : c.what % 10 = 8
  · exact do8_m s hf c h8 hw
  by_cases h9 : c.what % 10 = 9
  · exact do9_m s hf c h9 hw
  exact do0_m s hf c h2 h3 h4 h5 h6 h7 h8 h9 hw
end Go.Proofs.Ytnkoibhjnahkiaa
namespace Go.Proofs.Ytnkoibhjnahkiaa
open Go.RowKit

set_option maxRecDepth 100000 in
set_option maxHeartbeats 4000000 in
theorem lawPlays_m (s : Sy) (hs : Lens s) (l : List Ca) (hw : ∀ c ∈ l, 0 ≤ c.what) : Meets Try.prog 5 [s.pv, .d (cas l)] [] (Ret (.b true)) := by
  refine meetsP [(31, [.unnest 29, .unnest 10029, .seen 6 0, .seen 6 1, .seen 6 2])] tbOk mixed Try.func5 pl5 rfl rfl ?_
  simp [Try.ntmps5]
  refine (far_m s hs).mono ?_
  rintro _ rfl
  cases hfr : far s
  case true =>
    simp
    refine awake_m.mono ?_
    rintro _ rfl
    simp
    exact vcRet_of [] (by simp) rfl
  have hf := far_Fits hfr
  by_cases h : (60 : Int) < l.length
  · simp [h]
    refine awake_m.mono ?_
    rintro _ rfl
    simp
    exact vcRet_of [] (by simp) rfl
  simp [h]
  refine effCall (check_m s hf) ?_
  simp
  refine effCall (refCheck_m s hf) ?_
  simp
  refine ⟨by kernel_rfl, ?_⟩
  refine vc_loop (fun m σ => ∃ k : Nat, m = l.length - k ∧ k ≤ l.length ∧ ∃ s : Sy, Fits s ∧ σ = ⟨49, [(5, .i k), (1, .d (cas l)), (2, .ptr 2 0)], [(2, s.box)]⟩) ?_ ?_
  · exact ⟨_, _, ⟨0, rfl, Nat.zero_le _, s, hf, rfl⟩, [], _, rfl, by simp⟩
  rintro m σ ⟨k, rfl, hk, s, hf, rfl⟩
  by_cases hlt : k < l.length
  · obtain ⟨c, hc, e⟩ := at_lt hlt
    simp [hlt]
    refine (copy_m s hf).mono ?_
    rintro _ rfl
    simp [Prep.run, hlt, e]
    refine ⟨idx3 (by simp) (by simp) (by simp), ?_⟩
    refine effCall (do_m s hf c (hw c (List.mem_of_getElem? hc))) ?_
    simp
    refine ⟨by kernel_rfl, ?_⟩
    simp [List.take_of_length_le]
    refine (same_m s s hf).mono ?_
    rintro _ rfl
    simp [wrap_succ hlt (show l.length < 4294967296 by omega)]
    exact ⟨_, by omega, _, ⟨k + 1, rfl, hlt, doS s c, hf.doS c, rfl⟩, [], _, rfl, by simp⟩
  obtain rfl : k = l.length := by omega
  simp
  refine awake_m.mono ?_
  rintro _ rfl
  simp
  exact vcRet_of [] (by simp) rfl
end Go.Proofs.Ytnkoibhjnahkiaa
