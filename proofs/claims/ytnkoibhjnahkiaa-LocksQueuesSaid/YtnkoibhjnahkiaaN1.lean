/- Locks: contracts (N1). No condition. -/
import Derived.Test.YtnkoibhjnahkiaaTab
import Derived.Test.YtnkoibhjnahkiaaV25
namespace Go.Proofs.Ytnkoibhjnahkiaa

structure Lk where
  hold : Int
  rd : List Int
deriving DecidableEq
instance : Inhabited Lk := ⟨⟨0, []⟩⟩
structure Qu where
  room : Int
  items : List Int
  shut : Bool
deriving DecidableEq
instance : Inhabited Qu := ⟨⟨0, [], false⟩⟩
structure Sy where
  locks : List Lk
  queues : List Qu
  groups : List Int
deriving DecidableEq
def noSy : Sy := ⟨[], [], []⟩

def idx {α : Type} (p : α → Bool) : List α → Int → Int
  | [], _ => -1
  | x :: xs, k => if p x then k else idx p xs (k + 1)
def inT (n : Int) : Bool := decide (1 ≤ n) && decide (n ≤ 200)
def lkOk (l : Lk) : Bool := (decide (l.hold = 0) || inT l.hold) && l.rd.all inT
def quOk (q : Qu) : Bool := decide (1 ≤ q.room) && decide (q.room ≤ 64)
def grOk (n : Int) : Bool := decide (0 ≤ n) && decide (n ≤ 1000)
def ranges (s : Sy) : Bool := s.locks.all lkOk && (s.queues.all quOk && s.groups.all grOk)
def asc : List Int → Bool
  | a :: b :: r => decide (a < b) && asc (b :: r)
  | _ => true
def formOk (l : Lk) : Bool := !(decide (0 < l.hold) && decide (0 < l.rd.length)) && asc l.rd
def over (q : Qu) : Bool := decide (q.room < q.items.length)
def long (s : Sy) : Bool := decide (16 < s.locks.length) || (decide (16 < s.queues.length) || decide (16 < s.groups.length)) || s.queues.any over
def chk (s : Sy) : Int := if long s then 3 else if !ranges s then 7 else if s.locks.all formOk then 0 else 6
/-- The lists are such as lie in memory. -/
def Fits (s : Sy) : Prop := s.locks.length < 4294967296 ∧ s.queues.length < 4294967296 ∧ s.groups.length < 4294967296 ∧ (∀ l ∈ s.locks, l.rd.length < 4294967296) ∧ ∀ q ∈ s.queues, q.items.length < 4294967296

theorem idx_any {α : Type} (p : α → Bool) : ∀ (xs : List α) (k : Int), 0 ≤ k → (0 ≤ idx p xs k ↔ xs.any p = true)
  | [], k, _ => by simp [idx]
  | x :: xs, k, h => by
    unfold idx
    cases hp : p x
    · simp [hp, idx_any p xs (k + 1) (by omega)]
    · simp [hp, h]
def noneTo {α : Type} (p : α → Bool) (xs : List α) (k : Nat) : Prop := ∀ i y, i < k → xs[i]? = some y → p y = false
theorem noneTo_zero {α : Type} (p : α → Bool) (xs : List α) : noneTo p xs 0 := fun _ _ h => absurd h (by omega)
theorem noneTo_succ {α : Type} {p : α → Bool} {xs : List α} {k : Nat} {x : α} (h : noneTo p xs k) (hx : xs[k]? = some x) (hp : p x = false) : noneTo p xs (k + 1) := fun i y hi hy => by
  by_cases hik : i = k
  · subst hik; rw [hx] at hy; cases hy; exact hp
  · exact h i y (by omega) hy
theorem idx_hit0 {α : Type} (p : α → Bool) : ∀ (xs : List α) (k : Nat) (x : α) (o : Int), xs[k]? = some x → p x = true → noneTo p xs k → idx p xs o = o + k
  | [], k, x, o, hx, _, _ => by simp at hx
  | y :: ys, 0, x, o, hx, hp, _ => by cases hx; simp [idx, hp]
  | y :: ys, k + 1, x, o, hx, hp, hn => by
    have h0 := hn 0 y (by omega) rfl
    unfold idx
    rw [h0]
    simp only [Bool.false_eq_true, if_false]
    rw [idx_hit0 p ys k x (o + 1) (by simpa using hx) hp fun i z hi hz => hn (i + 1) z (by omega) (by simpa using hz)]
    omega
theorem idx_hit {α : Type} (p : α → Bool) (xs : List α) (k : Nat) (x : α) (hx : xs[k]? = some x) (hp : p x = true) (hn : noneTo p xs k) : idx p xs 0 = k := by
  rw [idx_hit0 p xs k x 0 hx hp hn]; omega
theorem idx_miss {α : Type} (p : α → Bool) : ∀ (xs : List α) {o : Int}, noneTo p xs xs.length → idx p xs o = -1
  | [], _, _ => rfl
  | y :: ys, o, hn => by
    unfold idx
    rw [hn 0 y (by simp) rfl]
    simp only [Bool.false_eq_true, if_false]
    exact idx_miss p ys fun i z hi hz => hn (i + 1) z (by simpa using hi) (by simpa using hz)
theorem noneTo_any {α : Type} {p : α → Bool} {xs : List α} (h : noneTo p xs xs.length) : xs.any p = false := by
  rw [List.any_eq_false]
  intro x hx
  obtain ⟨i, hi⟩ := List.getElem?_of_mem hx
  rw [h i x (List.getElem?_eq_some_iff.1 hi).1 hi]; simp
theorem any_at {α : Type} {p : α → Bool} {xs : List α} {i : Nat} {x : α} (hx : xs[i]? = some x) (hp : p x = true) : xs.any p = true := List.any_eq_true.2 ⟨x, List.mem_of_getElem? hx, hp⟩
theorem all_not {α : Type} {p q : α → Bool} {xs : List α} (h : ∀ x, q x = !p x) : xs.all q = !xs.any p := by
  induction xs with
  | nil => rfl
  | cons x xs ih => simp [ih, h]
theorem all_at {α : Type} {p : α → Bool} {xs : List α} {i : Nat} {x : α} (hx : xs[i]? = some x) (hp : p x = false) : xs.all p = false := by
  rw [List.all_eq_false]
  exact ⟨x, List.mem_of_getElem? hx, by simp [hp]⟩
theorem noneTo_all {α : Type} {p q : α → Bool} {xs : List α} (h : noneTo q xs xs.length) (hq : ∀ x, q x = !p x) : xs.all p = true := by
  rw [List.all_eq_true]
  intro x hx
  obtain ⟨i, hi⟩ := List.getElem?_of_mem hx
  have := h i x (List.getElem?_eq_some_iff.1 hi).1 hi
  rw [hq] at this
  simpa using this
/-- Ascending so far. -/
def ascTo (l : List Int) : Nat → Bool
  | 0 => true
  | k + 1 => ascTo l k && (decide (k = 0) || decide (l.getD (k - 1) 0 < l.getD k 0))
theorem ascTo_mono {l : List Int} {i j : Nat} (h : i ≤ j) (hj : ascTo l j = true) : ascTo l i = true := by
  induction j with
  | zero => obtain rfl : i = 0 := by omega
            exact hj
  | succ j ih =>
    rcases Nat.lt_or_ge i (j + 1) with h1 | h1
    · simp only [ascTo, Bool.and_eq_true] at hj
      exact ih (by omega) hj.1
    · obtain rfl : i = j + 1 := by omega
      exact hj
theorem ascTo_key (a b : Int) (l : List Int) (k : Nat) : ascTo (a :: b :: l) (k + 2) = (decide (a < b) && ascTo (b :: l) (k + 1)) := by
  induction k with
  | zero => simp [ascTo]
  | succ k ih =>
    rw [show k + 1 + 2 = (k + 2) + 1 from rfl, ascTo, ih, show k + 1 + 1 = (k + 1) + 1 from rfl, ascTo]
    simp only [Nat.add_eq_zero_iff, and_false, show ¬ (1 : Nat) = 0 from by omega, decide_false, Bool.false_or, Nat.add_sub_cancel]
    rw [Bool.and_assoc]
    congr 2
theorem ascTo_len : ∀ (l : List Int), ascTo l l.length = asc l
  | [] => rfl
  | [a] => by simp [ascTo, asc]
  | a :: b :: r => by
    show ascTo (a :: b :: r) (r.length + 2) = (decide (a < b) && asc (b :: r))
    rw [ascTo_key, ← ascTo_len (b :: r)]
    rfl

def lower (v : Int) (xs : List Int) : Nat := (xs.takeWhile fun x => decide (x < v)).length
def hasT (t : Int) (l : Lk) : Bool := decide (l.hold = t) || decide (t ∈ l.rd)
def lockF (t : Int) (l : Lk) : Int × Lk := if hasT t l then (8, l) else if 0 < l.hold ∨ 0 < l.rd.length then (9, l) else (0, ⟨t, l.rd⟩)
def unlockF (t : Int) (l : Lk) : Int × Lk := if l.hold = t then (0, ⟨0, l.rd⟩) else (9, l)
def putIn (t : Int) (l : List Int) : List Int := l.take (lower t l) ++ t :: l.drop (lower t l)
def rlockF (t : Int) (l : Lk) : Int × Lk := if hasT t l then (8, l) else if 0 < l.hold then (9, l) else (0, ⟨l.hold, putIn t l.rd⟩)
def runlockF (t : Int) (l : Lk) : Int × Lk := if t ∈ l.rd then (0, ⟨l.hold, l.rd.eraseIdx (lower t l.rd)⟩) else (9, l)
def sendF (v : Int) (q : Qu) : Int × Qu := if q.shut then (9, q) else if (q.items.length : Int) = q.room then (5, q) else (0, ⟨q.room, q.items ++ [v], q.shut⟩)
def recvF (q : Qu) : Int × Qu := if 0 < q.items.length then (0, ⟨q.room, q.items.eraseIdx 0, q.shut⟩) else if q.shut then (0, q) else (10, q)
def shutF (q : Qu) : Int × Qu := if q.shut then (9, q) else (0, ⟨q.room, q.items, true⟩)
/-- The error of a lock and a task; of a queue. -/
def known (s : Sy) (lock t : Int) : Int := if chk s ≠ 0 then chk s else if lock < 0 ∨ (s.locks.length : Int) ≤ lock then 4 else if inT t then 0 else 7
def queueE (s : Sy) (n : Int) : Int := if chk s ≠ 0 then chk s else if n < 0 ∨ (s.queues.length : Int) ≤ n then 4 else 0
def onLock (s : Sy) (lock t : Int) (F : Lk → Int × Lk) : Sy × Int :=
  if known s lock t ≠ 0 then (s, known s lock t)
  else if (F (s.locks.getD lock.toNat default)).1 ≠ 0 then (s, (F (s.locks.getD lock.toNat default)).1)
  else (⟨s.locks.set lock.toNat (F (s.locks.getD lock.toNat default)).2, s.queues, s.groups⟩, 0)
def onQueue (s : Sy) (n : Int) (F : Qu → Int × Qu) : Sy × Int :=
  if queueE s n ≠ 0 then (s, queueE s n)
  else if (F (s.queues.getD n.toNat default)).1 ≠ 0 then (s, (F (s.queues.getD n.toNat default)).1)
  else (⟨s.locks, s.queues.set n.toNat (F (s.queues.getD n.toNat default)).2, s.groups⟩, 0)
def groupE (s : Sy) (n : Int) : Int := if chk s ≠ 0 then chk s else if n < 0 ∨ (s.groups.length : Int) ≤ n then 4 else 0
def addS (s : Sy) (n v : Int) : Sy × Int :=
  if groupE s n ≠ 0 then (s, groupE s n)
  else if v < -(s.groups.getD n.toNat 0) ∨ 1000 - s.groups.getD n.toNat 0 < v then (s, 7)
  else (⟨s.locks, s.queues, s.groups.set n.toNat (s.groups.getD n.toNat 0 + v)⟩, 0)
/-- What is waited for. -/
structure Wt where
  kind : Int
  obj : Int
  til : Int
deriving DecidableEq
instance : Inhabited Wt := ⟨⟨0, 0, 0⟩⟩
def thereN (s : Sy) (w : Wt) : Int := if w.kind = 3 then s.locks.length else if w.kind = 6 then s.groups.length else s.queues.length
def thereS (s : Sy) (w : Wt) : Bool × Int :=
  if chk s ≠ 0 then (false, chk s)
  else if w.kind = 3 ∧ w.til ≠ 0 ∧ w.til ≠ 1 then (false, 7)
  else if ¬ (w.kind = 3 ∨ w.kind = 4 ∨ w.kind = 5 ∨ w.kind = 6) then (false, 2)
  else if w.obj < 0 ∨ thereN s w ≤ w.obj then (false, 4)
  else if w.kind = 3 then (decide ((s.locks.getD w.obj.toNat default).hold = 0) && (decide (w.til = 1) || decide ((s.locks.getD w.obj.toNat default).rd.length = 0)), 0)
  else if w.kind = 4 then ((s.queues.getD w.obj.toNat default).shut || decide (0 < (s.queues.getD w.obj.toNat default).items.length), 0)
  else if w.kind = 5 then ((s.queues.getD w.obj.toNat default).shut || decide (((s.queues.getD w.obj.toNat default).items.length : Int) < (s.queues.getD w.obj.toNat default).room), 0)
  else (decide (s.groups.getD w.obj.toNat 0 = 0), 0)
def hldTo (t : Int) (l : List Lk) : Nat → List Int
  | 0 => []
  | k + 1 => hldTo t l k ++ if hasT t (l.getD k default) then [(k : Int)] else []
theorem hldTo_len (t : Int) (l : List Lk) : ∀ k, (hldTo t l k).length ≤ k
  | 0 => Nat.le_refl _
  | k + 1 => by
    have := hldTo_len t l k
    simp only [hldTo, List.length_append]
    split <;> simp <;> omega
def holdsS (s : Sy) (t : Int) : List Int × Int :=
  if chk s ≠ 0 then ([], chk s) else if !inT t then ([], 7) else (hldTo t s.locks s.locks.length, 0)
def roomOk (r : Int) : Bool := decide (1 ≤ r) && decide (r ≤ 64)
def newS (n : Int) (rooms : List Int) (g : Int) : Sy × Int :=
  if 16 < n ∨ 16 < rooms.length ∨ 16 < g then (noSy, 3) else if n < 0 ∨ g < 0 then (noSy, 7) else if !rooms.all roomOk then (noSy, 7)
  else (⟨List.replicate n.toNat ⟨0, []⟩, rooms.map fun r => ⟨r, [], false⟩, List.replicate g.toNat 0⟩, 0)
theorem asc_bound {b : Int} : ∀ {l : List Int} {a : Int}, asc l = true → (∀ x ∈ l, a < x ∧ x ≤ b) → (l.length : Int) ≤ max 0 (b - a)
  | [], a, _, _ => by simp; omega
  | x :: l, a, h, hx => by
    have h1 := hx x (by simp)
    have h2 : asc l = true := by
      cases l with
      | nil => rfl
      | cons y r => simp only [asc, Bool.and_eq_true] at h; exact h.2
    have h3 : ∀ y ∈ l, x < y ∧ y ≤ b := fun y hy => ⟨?_, (hx y (by simp [hy])).2⟩
    · have := asc_bound (a := x) h2 h3
      simp only [List.length_cons]
      omega
    · clear h1 hx
      induction l generalizing x with
      | nil => cases hy
      | cons z r ih =>
        simp only [asc, Bool.and_eq_true, decide_eq_true_eq] at h
        rcases List.mem_cons.1 hy with rfl | hy
        · exact h.1
        · have h5 : asc r = true := by
            cases r with
            | nil => rfl
            | cons w r => have := h.2; simp only [asc, Bool.and_eq_true] at this; exact this.2
          have := ih z h.2 h5 hy
          omega
theorem chk_zero {s : Sy} (h : chk s = 0) : long s = false ∧ ranges s = true ∧ s.locks.all formOk = true := by
  unfold chk at h
  split at h
  · cases h
  · split at h
    · cases h
    · split at h
      · rename_i h1 h2 h3
        exact ⟨by simpa using h1, by simpa using h2, h3⟩
      · cases h
theorem chk_lock {s : Sy} (h : chk s = 0) {l : Lk} (hl : l ∈ s.locks) : asc l.rd = true ∧ l.rd.length ≤ 200 := by
  obtain ⟨_, h2, h3⟩ := chk_zero h
  have h4 := List.all_eq_true.1 h3 l hl
  unfold ranges at h2
  simp only [Bool.and_eq_true] at h2
  have h5 := List.all_eq_true.1 h2.1 l hl
  unfold formOk at h4
  unfold lkOk at h5
  simp only [Bool.and_eq_true] at h4 h5
  refine ⟨h4.2, ?_⟩
  have := asc_bound (a := 0) (b := 200) h4.2 fun x hx => by
    have := List.all_eq_true.1 h5.2 x hx
    unfold inT at this
    simp at this
    omega
  omega
theorem chk_group {s : Sy} (h : chk s = 0) {g : Int} (hg : g ∈ s.groups) : 0 ≤ g ∧ g ≤ 1000 := by
  obtain ⟨h1, h2, h3⟩ := chk_zero h
  unfold ranges at h2
  simp only [Bool.and_eq_true] at h2
  have h5 := List.all_eq_true.1 h2.2.2 g hg
  unfold grOk at h5
  simpa using h5
theorem chk_queue {s : Sy} (h : chk s = 0) {q : Qu} (hq : q ∈ s.queues) : (q.items.length : Int) ≤ q.room ∧ q.room ≤ 64 ∧ q.items.length ≤ 64 ∧ 1 ≤ q.room := by
  obtain ⟨h1, h2, h3⟩ := chk_zero h
  unfold long at h1
  simp only [Bool.or_eq_false_iff] at h1
  have h4 := List.any_eq_false.1 h1.2 q hq
  unfold ranges at h2
  simp only [Bool.and_eq_true] at h2
  have h5 := List.all_eq_true.1 h2.2.1 q hq
  unfold over at h4
  unfold quOk at h5
  simp at h4 h5
  omega
theorem known_lt {s : Sy} {lock t : Int} (h : known s lock t = 0) : 0 ≤ lock ∧ lock < s.locks.length := by
  unfold known at h
  split at h
  · contradiction
  · split at h
    · cases h
    · omega
theorem known_chk {s : Sy} {lock t : Int} (h : known s lock t = 0) : chk s = 0 := by
  unfold known at h
  split at h
  · contradiction
  · omega
theorem queueE_lt {s : Sy} {n : Int} (h : queueE s n = 0) : 0 ≤ n ∧ n < s.queues.length := by
  unfold queueE at h
  split at h
  · contradiction
  · split at h
    · cases h
    · omega
theorem queueE_chk {s : Sy} {n : Int} (h : queueE s n = 0) : chk s = 0 := by
  unfold queueE at h
  split at h
  · contradiction
  · omega
end Go.Proofs.Ytnkoibhjnahkiaa
namespace Go.Proofs.Ytnkoibhjnahkiaa
open Go.RowKit

@[simp] def ics (n : Int) : List D := [.v (.int .i64 n)]
@[simp] def il (l : List Int) : D := .sl 1 (l.map ics)
@[simp] def Lk.ds (l : Lk) : List D := [.v (.int .i64 l.hold), il l.rd]
@[simp] def Lk.pv (l : Lk) : PV := .agg [.i l.hold, .d (il l.rd)]
@[simp] def Qu.ds (q : Qu) : List D := [.v (.int .i64 q.room), il q.items, .v (.bool q.shut)]
@[simp] def Qu.pv (q : Qu) : PV := .agg [.i q.room, .d (il q.items), .b q.shut]
@[simp] def lks (l : List Lk) : D := .sl 2 (l.map Lk.ds)
@[simp] def qus (l : List Qu) : D := .sl 3 (l.map Qu.ds)
@[simp] def Sy.cells (s : Sy) : List PV := [.d (lks s.locks), .d (qus s.queues), .d (il s.groups)]
@[simp] def Sy.pv (s : Sy) : PV := .agg [.d (lks s.locks), .d (qus s.queues), .d (il s.groups)]
@[simp] def Sy.box (s : Sy) : MObj := .box 27 s.cells
theorem at_lt {α : Type} {xs : List α} {k : Nat} (h : k < xs.length) : ∃ x, xs[k]? = some x ∧ xs[k] = x := ⟨_, List.getElem?_eq_getElem h, rfl⟩
theorem wrap_succ {k n : Nat} (h : k < n) (hn : n < 4294967296) : IntKind.i64.wrap ((k : Int) + 1) = (k : Int) + 1 := IntWalk.i64_in _ (by omega)

theorem task_m (n : Int) : Meets Try.prog 36 [.i n] [] (Ret (.b (inT n))) := by
  refine meets tbOk mixed Try.func36 pl36 rfl rfl ?_
  by_cases h : 1 ≤ n
  · simp [Try.ntmps36, h]
    exact vcRet_of [] (by simp [inT, h]) rfl
  · simp [Try.ntmps36, h]
    exact vcRet_of [] (by simp [inT, h]) rfl
set_option maxHeartbeats 400000 in
theorem indexI_m (f : Nat) (p : Int → Bool) (xs : List Int) (hl : xs.length < 4294967296) (hp : ∀ x ∈ xs, Meets Try.prog f [.i x] [] (Ret (.b (p x)))) : Meets Try.prog 73 [.d (il xs), .clo f []] [] (Ret (.i (idx p xs 0))) := by
  refine meets tbOk mixed Try.func73 pl73 rfl rfl ?_
  simp [Try.ntmps73]
  refine vc_loop (fun n σ => ∃ k : Nat, n = xs.length - k ∧ k ≤ xs.length ∧ noneTo p xs k ∧ σ = ⟨19, [(8, .i k), (7, .i xs.length), (0, .d (il xs)), (1, .clo f [])], []⟩) ?_ ?_
  · exact ⟨_, _, ⟨0, rfl, Nat.zero_le _, noneTo_zero _ _, rfl⟩, [], _, rfl, by simp⟩
  · rintro n σ ⟨k, rfl, hk, hn, rfl⟩
    by_cases hlt : k < xs.length
    · obtain ⟨x, hx, e⟩ := at_lt hlt
      simp [hlt, e]
      refine (hp x (List.mem_of_getElem? hx)).mono ?_
      rintro _ rfl
      simp [wrap_succ hlt hl]
      refine ⟨fun h => vcRet_of [] ?_ rfl, fun h => ⟨_, ?_, _, ⟨k + 1, rfl, hlt, noneTo_succ hn hx h, rfl⟩, [], _, rfl, by simp⟩⟩
      · simp [idx_hit p xs k x hx h hn]
      · omega
    · obtain rfl : k = xs.length := by omega
      simp
      refine vcRet_of [] ?_ rfl
      simp [idx_miss p xs hn]
theorem containsI_m (f : Nat) (p : Int → Bool) (xs : List Int) (hl : xs.length < 4294967296) (hp : ∀ x ∈ xs, Meets Try.prog f [.i x] [] (Ret (.b (p x)))) : Meets Try.prog 34 [.d (il xs), .clo f []] [] (Ret (.b (xs.any p))) := by
  refine meets tbOk mixed Try.func34 pl34 rfl rfl ?_
  simp [Try.ntmps34]
  refine (indexI_m f p xs hl hp).mono ?_
  rintro _ rfl
  simp
  refine vcRet_of [] ?_ rfl
  have := idx_any p xs 0 (by omega)
  simp
  rw [Bool.eq_iff_iff]
  simpa using this
set_option maxHeartbeats 400000 in
theorem indexQ_m (f : Nat) (p : Qu → Bool) (xs : List Qu) (hl : xs.length < 4294967296) (hp : ∀ x ∈ xs, Meets Try.prog f [x.pv] [] (Ret (.b (p x)))) : Meets Try.prog 75 [.d (qus xs), .clo f []] [] (Ret (.i (idx p xs 0))) := by
  refine meets tbOk mixed Try.func75 pl75 rfl rfl ?_
  simp [Try.ntmps75]
  refine vc_loop (fun n σ => ∃ k : Nat, n = xs.length - k ∧ k ≤ xs.length ∧ noneTo p xs k ∧ σ = ⟨19, [(8, .i k), (7, .i xs.length), (0, .d (qus xs)), (1, .clo f [])], []⟩) ?_ ?_
  · exact ⟨_, _, ⟨0, rfl, Nat.zero_le _, noneTo_zero _ _, rfl⟩, [], _, rfl, by simp⟩
  · rintro n σ ⟨k, rfl, hk, hn, rfl⟩
    by_cases hlt : k < xs.length
    · obtain ⟨x, hx, e⟩ := at_lt hlt
      simp [hlt, e]
      refine (hp x (List.mem_of_getElem? hx)).mono ?_
      rintro _ rfl
      simp [wrap_succ hlt hl]
      refine ⟨fun h => vcRet_of [] ?_ rfl, fun h => ⟨_, ?_, _, ⟨k + 1, rfl, hlt, noneTo_succ hn hx h, rfl⟩, [], _, rfl, by simp⟩⟩
      · simp [idx_hit p xs k x hx h hn]
      · omega
    · obtain rfl : k = xs.length := by omega
      simp
      refine vcRet_of [] ?_ rfl
      simp [idx_miss p xs hn]
theorem containsQ_m (f : Nat) (p : Qu → Bool) (xs : List Qu) (hl : xs.length < 4294967296) (hp : ∀ x ∈ xs, Meets Try.prog f [x.pv] [] (Ret (.b (p x)))) : Meets Try.prog 38 [.d (qus xs), .clo f []] [] (Ret (.b (xs.any p))) := by
  refine meets tbOk mixed Try.func38 pl38 rfl rfl ?_
  simp [Try.ntmps38]
  refine (indexQ_m f p xs hl hp).mono ?_
  rintro _ rfl
  simp
  refine vcRet_of [] ?_ rfl
  have := idx_any p xs 0 (by omega)
  simp
  rw [Bool.eq_iff_iff]
  simpa using this
theorem over_m (q : Qu) : Meets Try.prog 39 [q.pv] [] (Ret (.b (over q))) := by
  refine meets tbOk mixed Try.func39 pl39 rfl rfl ?_
  simp [Try.ntmps39]
  exact vcRet_of [] (by simp [over]) rfl
theorem notTask_m (n : Int) : Meets Try.prog 76 [.i n] [] (Ret (.b (!inT n))) := by
  refine meets tbOk mixed Try.func76 pl76 rfl rfl ?_
  simp [Try.ntmps76]
  refine (task_m n).mono ?_
  rintro _ rfl
  simp
  exact vcRet_of [] (by simp) rfl
theorem notTask2_m (n : Int) : Meets Try.prog 35 [.i n] [] (Ret (.b (!inT n))) := by
  refine meets tbOk mixed Try.func35 pl35 rfl rfl ?_
  simp [Try.ntmps35]
  refine (task_m n).mono ?_
  rintro _ rfl
  simp
  exact vcRet_of [] (by simp) rfl
theorem notGroup_m (n : Int) : Meets Try.prog 77 [.i n] [] (Ret (.b (!grOk n))) := by
  refine meets tbOk mixed Try.func77 pl77 rfl rfl ?_
  by_cases h : n < 0
  · simp [Try.ntmps77, h]
    exact vcRet_of [] (by simp [grOk]; omega) rfl
  · simp [Try.ntmps77, h]
    exact vcRet_of [] (by simp [grOk]; rw [Bool.eq_iff_iff]; simp; omega) rfl
end Go.Proofs.Ytnkoibhjnahkiaa
namespace Go.Proofs.Ytnkoibhjnahkiaa
open Go.RowKit

set_option maxRecDepth 20000 in
set_option maxHeartbeats 1000000 in
theorem ranges_m (s : Sy) (hf : Fits s) : Meets Try.prog 40 [.ptr 1000000 0] [s.box] (fun r => r = ⟨.b (ranges s), [s.box], []⟩) := by
  obtain ⟨f1, f2, f3, f4, f5⟩ := hf
  refine meetsH [] tbOk mixed Try.func40 pl40 rfl rfl ?_
  simp [Try.ntmps40]
  refine vc_loop (fun n σ => ∃ k : Nat, n = s.locks.length - k ∧ k ≤ s.locks.length ∧ noneTo (fun l => !lkOk l) s.locks k ∧ σ = ⟨55, [(12, .i k), (11, .i s.locks.length), (10, .d (lks s.locks)), (0, .ptr 1000000 0)], [(1000000, s.box)]⟩) ?_ ?_
  · exact ⟨_, _, ⟨0, rfl, Nat.zero_le _, noneTo_zero _ _, rfl⟩, [], _, rfl, by simp⟩
  · rintro n σ ⟨k, rfl, hk, hn, rfl⟩
    by_cases hlt : k < s.locks.length
    · obtain ⟨x, hx, e⟩ := at_lt hlt
      have hxm := List.mem_of_getElem? hx
      have hbad : lkOk x = false → ranges s = false := fun h => by unfold ranges; rw [all_at hx h]; rfl
      by_cases h0 : x.hold = 0
      · simp [hlt, e, h0]
        refine (containsI_m 76 (fun n => !inT n) x.rd (f4 x hxm) fun y _ => notTask_m y).mono ?_
        rintro _ rfl
        have hl : lkOk x = !x.rd.any (fun n => !inT n) := by
          unfold lkOk
          rw [all_not (p := fun n => !inT n) (q := inT) fun y => by simp]
          simp [h0]
        cases ha : x.rd.any (fun n => !inT n)
        · simp [wrap_succ hlt f1]
          refine ⟨_, ?_, _, ⟨k + 1, rfl, hlt, noneTo_succ hn hx (by simp [hl, ha]), rfl⟩, [], _, rfl, by simp⟩
          omega
        · simp
          exact vcRet_of [] (by simp [hbad (by simp [hl, ha])]) rfl
      · simp [hlt, e, h0]
        refine (task_m x.hold).mono ?_
        rintro _ rfl
        cases ht : inT x.hold
        · simp
          exact vcRet_of [] (by simp [hbad (by simp [lkOk, h0, ht])]) rfl
        simp
        refine (containsI_m 76 (fun n => !inT n) x.rd (f4 x hxm) fun y _ => notTask_m y).mono ?_
        rintro _ rfl
        have hl : lkOk x = !x.rd.any (fun n => !inT n) := by
          unfold lkOk
          rw [all_not (p := fun n => !inT n) (q := inT) fun y => by simp]
          simp [ht]
        cases ha : x.rd.any (fun n => !inT n)
        · simp [wrap_succ hlt f1]
          refine ⟨_, ?_, _, ⟨k + 1, rfl, hlt, noneTo_succ hn hx (by simp [hl, ha]), rfl⟩, [], _, rfl, by simp⟩
          omega
        · simp
          exact vcRet_of [] (by simp [hbad (by simp [hl, ha])]) rfl
    obtain rfl : k = s.locks.length := by omega
    have hlk : s.locks.all lkOk = true := noneTo_all hn fun _ => rfl
    simp
    refine vc_loop (fun n σ => ∃ k : Nat, n = s.queues.length - k ∧ k ≤ s.queues.length ∧ noneTo (fun q => !quOk q) s.queues k ∧ σ = ⟨55, [(36, .i k), (35, .i s.queues.length), (34, .d (qus s.queues)), (0, .ptr 1000000 0)], [(1000000, s.box)]⟩) ?_ ?_
    · exact ⟨_, _, ⟨0, rfl, Nat.zero_le _, noneTo_zero _ _, rfl⟩, [], _, rfl, by simp⟩
    rintro n σ ⟨k, rfl, hk, hn, rfl⟩
    by_cases hlt : k < s.queues.length
    · obtain ⟨x, hx, e⟩ := at_lt hlt
      have hbad : quOk x = false → ranges s = false := fun h => by unfold ranges; rw [all_at hx h]; simp
      by_cases h1 : x.room < 1
      · simp [hlt, e, h1]
        exact vcRet_of [] (by simp [hbad (by simp [quOk]; omega)]) rfl
      by_cases h2 : 64 < x.room
      · simp [hlt, e, h1, h2]
        exact vcRet_of [] (by simp [hbad (by simp [quOk]; omega)]) rfl
      simp [hlt, e, h1, h2, wrap_succ hlt f2]
      refine ⟨_, ?_, _, ⟨k + 1, rfl, hlt, noneTo_succ hn hx (by simp [quOk]; omega), rfl⟩, [], _, rfl, by simp⟩
      omega
    obtain rfl : k = s.queues.length := by omega
    have hqu : s.queues.all quOk = true := noneTo_all hn fun _ => rfl
    simp
    refine (containsI_m 77 (fun n => !grOk n) s.groups f3 fun y _ => notGroup_m y).mono ?_
    rintro _ rfl
    simp
    refine vcRet_of [] ?_ rfl
    have : ranges s = !s.groups.any (fun n => !grOk n) := by
      unfold ranges
      rw [hlk, hqu, all_not (p := fun n => !grOk n) (q := grOk) fun y => by simp]
      simp
    rw [this]
    simp
set_option maxRecDepth 100000 in
set_option maxHeartbeats 1600000 in
theorem check_m (s : Sy) (hf : Fits s) : Meets Try.prog 17 [s.pv] [] (Ret (.i (chk s))) := by
  have hf0 := hf
  obtain ⟨f1, f2, f3, f4, f5⟩ := hf
  refine meetsH [] tbOk mixed Try.func17 pl17 rfl rfl ?_
  by_cases hm : (16 : Int) < max (s.locks.length : Int) (max (s.queues.length : Int) (s.groups.length : Int))
  · simp [Try.ntmps17, hm]
    refine vcRet_of [] ?_ rfl
    have : long s = true := by
      unfold long
      have : 16 < s.locks.length ∨ 16 < s.queues.length ∨ 16 < s.groups.length := by omega
      simp only [Bool.or_eq_true, decide_eq_true_eq]
      exact .inl (by omega)
    simp [chk, this]
  simp [Try.ntmps17, hm]
  refine (containsQ_m 39 over s.queues f2 fun q _ => over_m q).mono ?_
  rintro _ rfl
  have hlg : long s = s.queues.any over := by
    unfold long
    have h1 : ¬ 16 < s.locks.length := by omega
    have h2 : ¬ 16 < s.queues.length := by omega
    have h3 : ¬ 16 < s.groups.length := by omega
    simp [h1, h2, h3]
  cases ho : s.queues.any over
  case true =>
    simp
    exact vcRet_of [] (by simp [chk, hlg, ho]) rfl
  simp
  refine (ranges_m s hf0).mono ?_
  rintro _ rfl
  cases hr : ranges s
  case false =>
    simp
    exact vcRet_of [] (by simp [chk, hlg, ho, hr]) rfl
  have hc : chk s = if s.locks.all formOk then 0 else 6 := by simp [chk, hlg, ho, hr]
  simp
  refine vc_loop (fun n σ => ∃ k : Nat, n = s.locks.length - k ∧ k ≤ s.locks.length ∧ noneTo (fun l => !formOk l) s.locks k ∧ σ = ⟨60, [(27, .i k), (26, .i s.locks.length), (25, .d (lks s.locks))], []⟩) ?_ ?_
  · exact ⟨_, _, ⟨0, rfl, Nat.zero_le _, noneTo_zero _ _, rfl⟩, [], _, rfl, by simp⟩
  rintro n σ ⟨k, rfl, hk, hn, rfl⟩
  by_cases hlt : k < s.locks.length
  case neg =>
    obtain rfl : k = s.locks.length := by omega
    simp
    exact vcRet_of [] (by simp [hc, noneTo_all hn fun _ => rfl]) rfl
  obtain ⟨x, hx, e⟩ := at_lt hlt
  have hxl := f4 x (List.mem_of_getElem? hx)
  have hbad : formOk x = false → chk s = 6 := fun h => by rw [hc, all_at hx h]; rfl
  by_cases hb : 0 < x.hold ∧ 0 < x.rd.length
  · simp [hlt, e, hb.1, hb.2]
    exact vcRet_of [] (by simp [hbad (by simp [formOk, hb.1, hb.2])]) rfl
  have hfo : formOk x = asc x.rd := by
    unfold formOk
    have : (decide (0 < x.hold) && decide (0 < x.rd.length)) = false := by
      rw [Bool.eq_false_iff]; simpa using hb
    rw [this]; rfl
  have asc0 : ∀ j : Nat, j ≤ 1 → ascTo x.rd j = true := fun j hj => by
    rcases j with _ | _ | j
    · rfl
    · rfl
    · omega
  have hcase : (0 < x.hold ∧ ¬ 0 < x.rd.length) ∨ ¬ 0 < x.hold := by omega
  rcases hcase with h1 | h1
  case' inl => simp [hlt, e, h1.1, h1.2]
  case' inr => simp [hlt, e, h1]
  all_goals
    refine vc_loop (fun n' σ => ∃ j : Nat, n' = x.rd.length + 1 - j ∧ 1 ≤ j ∧ j ≤ x.rd.length + 1 ∧ ascTo x.rd (min j x.rd.length) = true ∧ σ = ⟨60, [(5, .i j), (27, .i k), (26, .i s.locks.length), (25, .d (lks s.locks)), (4, .ptr 4 0)], [(4, .box 57 [.i x.hold, .d (il x.rd)])]⟩) ?_ ?_
    · exact ⟨_, _, ⟨1, rfl, Nat.le_refl _, by omega, asc0 _ (by omega), rfl⟩, [], _, rfl, by simp⟩
    rintro n' σ ⟨j, rfl, hj1, hj2, ha, rfl⟩
    by_cases hj : j < x.rd.length
    · obtain ⟨j, rfl⟩ : ∃ i, j = i + 1 := ⟨j - 1, by omega⟩
      obtain ⟨y, hy, ey⟩ := at_lt hj
      have hj3 : j < x.rd.length := by omega
      obtain ⟨z, hz, ez⟩ := at_lt hj3
      have hjj : (j : Int) + 1 < x.rd.length := by omega
      have hw : IntKind.i64.wrap (j : Int) = j := IntWalk.i64_in _ (by omega)
      have hw2 : IntKind.i64.wrap ((j : Int) + 1 + 1) = j + 1 + 1 := IntWalk.i64_in _ (by omega)
      have hnat : ((j : Int) + 1).toNat = j + 1 := by omega
      have h0 : (0 : Int) ≤ (j : Int) + 1 := by omega
      have hnext : ascTo x.rd (j + 1 + 1) = (ascTo x.rd (j + 1) && decide (z < y)) := by
        rw [ascTo]
        simp [List.getD_eq_getElem?_getD, hy, hz]
      rw [Nat.min_eq_left (by omega)] at ha
      by_cases hyz : y ≤ z
      · simp [hjj, h0, hw, hj3, hj, hnat, ez, ey, hyz]
        refine ⟨by kernel_rfl, ?_⟩
        refine vcRet_of [] ?_ rfl
        have : formOk x = false := by
          rw [hfo]
          cases hq : asc x.rd with
          | false => rfl
          | true =>
            have := ascTo_mono (show j + 1 + 1 ≤ x.rd.length by omega) (by rw [ascTo_len]; exact hq)
            rw [hnext, ha] at this
            simp at this
            omega
        simp [hbad this]
      · simp [hjj, h0, hw, hj3, hj, hnat, ez, ey, hyz, hw2]
        refine ⟨by kernel_rfl, ?_⟩
        refine ⟨_, ?_, _, ⟨j + 1 + 1, rfl, by omega, by omega, ?_, rfl⟩, [], _, rfl, by simp⟩
        · omega
        · rw [Nat.min_eq_left (by omega), hnext, ha]
          simp; omega
    · have hfk : formOk x = true := by
        rw [hfo, ← ascTo_len]
        rw [Nat.min_eq_right (by omega)] at ha
        exact ha
      simp [hj, wrap_succ hlt f1]
      refine ⟨_, ?_, _, ⟨k + 1, rfl, hlt, noneTo_succ hn hx (by simp [hfk]), rfl⟩, [], _, rfl, by simp⟩
      omega
end Go.Proofs.Ytnkoibhjnahkiaa
namespace Go.Proofs.Ytnkoibhjnahkiaa
open Go.RowKit

theorem cloneL_m (l : List Lk) (hl : l.length < 4294967296) : Meets Try.prog 101 [.d (lks l)] [] (fun r => r = ⟨.rw 2000000 l.length, [], [.row 57 2 (l.map Lk.ds) false]⟩) := by
  refine meets tbOk mixed Try.func101 pl101 rfl rfl ?_
  simp [Try.ntmps101]
  refine ⟨⟨hl, vcRet_of [5] (by simp) rfl⟩, fun h => ?_⟩
  refine vcRet_prep [.row 2 57 2] [2] (σ1 := _) rfl ?_ rfl
  simp [h]
theorem cloneQ_m (l : List Qu) (hl : l.length < 4294967296) : Meets Try.prog 102 [.d (qus l)] [] (fun r => r = ⟨.rw 2000000 l.length, [], [.row 55 3 (l.map Qu.ds) false]⟩) := by
  refine meets tbOk mixed Try.func102 pl102 rfl rfl ?_
  simp [Try.ntmps102]
  refine ⟨⟨hl, vcRet_of [5] (by simp) rfl⟩, fun h => ?_⟩
  refine vcRet_prep [.row 2 55 3] [2] (σ1 := _) rfl ?_ rfl
  simp [h]
theorem cloneI_m (l : List Int) (hl : l.length < 4294967296) : Meets Try.prog 103 [.d (il l)] [] (fun r => r = ⟨.rw 2000000 l.length, [], [.row 3 1 (l.map ics) false]⟩) := by
  refine meets tbOk mixed Try.func103 pl103 rfl rfl ?_
  simp [Try.ntmps103]
  refine ⟨⟨hl, vcRet_of [5] (by simp) rfl⟩, fun h => ?_⟩
  refine vcRet_prep [.row 2 3 1] [2] (σ1 := _) rfl ?_ rfl
  simp [h]
theorem cloneV_m (l : List Int) (hl : l.length < 4294967296) : Meets Try.prog 104 [.d (il l)] [] (fun r => r = ⟨.rw 2000000 l.length, [], [.row 2 1 (l.map ics) false]⟩) := by
  refine meets tbOk mixed Try.func104 pl104 rfl rfl ?_
  simp [Try.ntmps104]
  refine ⟨⟨hl, vcRet_of [5] (by simp) rfl⟩, fun h => ?_⟩
  refine vcRet_prep [.row 2 2 1] [2] (σ1 := _) rfl ?_ rfl
  simp [h]
/-- The rows of a state that was copied. -/
@[simp] def nestL (l : List Lk) (k : Nat) : MObj := .nest 57 2 (l.map Lk.ds) (fun a => decide (a < k)) [(1, 3)] none
@[simp] def nestQ (l : List Qu) (k : Nat) : MObj := .nest 55 3 (l.map Qu.ds) (fun a => decide (a < k)) [(1, 2)] none
theorem upTo_succ (k : Nat) : ∀ a, (decide (a < k) || decide (a = k)) = decide (a < k + 1) := fun a => by
  rw [Bool.eq_iff_iff]; simp; omega
theorem setL (l : List Lk) {k : Nat} {x : Lk} (h : l[k]? = some x) : (l.map Lk.ds).set k [.v (.int .i64 x.hold), .sl 1 (x.rd.map ics)] = l.map Lk.ds := by
  apply List.ext_getElem?
  intro i
  rw [List.getElem?_set]
  split
  · rename_i e; subst e
    obtain ⟨h1, rfl⟩ := List.getElem?_eq_some_iff.1 h
    simp [h1]
  · rfl
theorem setQ (l : List Qu) {k : Nat} {x : Qu} (h : l[k]? = some x) : (l.map Qu.ds).set k [.v (.int .i64 x.room), .sl 1 (x.items.map ics), .v (.bool x.shut)] = l.map Qu.ds := by
  apply List.ext_getElem?
  intro i
  rw [List.getElem?_set]
  split
  · rename_i e; subst e
    obtain ⟨h1, rfl⟩ := List.getElem?_eq_some_iff.1 h
    simp [h1]
  · rfl
set_option maxRecDepth 100000 in
set_option maxHeartbeats 1600000 in
theorem clone_m (s : Sy) (hf : Fits s) : Meets Try.prog 71 [s.pv] [] (fun r => r = ⟨.agg [.rw 2000000 s.locks.length, .rw 2000001 s.queues.length, .rw 2000002 s.groups.length], [], [nestL s.locks s.locks.length, nestQ s.queues s.queues.length, .row 3 1 (s.groups.map ics) false]⟩) := by
  obtain ⟨f1, f2, f3, f4, f5⟩ := hf
  refine meetsP [(17, [.nest 7 [(1, 3)], .nest 10 [(1, 2)]]), (23, [.focus 7 3 []]), (35, [.shut 7]), (42, [.focus 10 4 []]), (54, [.shut 10])] tbOk mixed Try.func71 pl71 rfl rfl ?_
  simp [Try.ntmps71]
  refine effCallN (cloneL_m s.locks f1) ?_
  simp
  refine effCallN (cloneQ_m s.queues f2) ?_
  simp
  refine effCallN (cloneI_m s.groups f3) ?_
  simp [Prep.run]
  refine ⟨by kernel_rfl, ?_⟩
  refine vc_loop (fun n σ => ∃ k : Nat, n = s.locks.length - k ∧ k ≤ s.locks.length ∧ σ = ⟨56, [(20, .i k), (19, .i s.locks.length), (1, .ptr 1 0), (2, .ptr 2 0)], [(2, .box 27 [.any, .any, .any]), (1, .box 27 [.rw 7 s.locks.length, .rw 10 s.queues.length, .rw 13 s.groups.length]), (7, nestL s.locks k), (10, nestQ s.queues 0), (13, .row 3 1 (s.groups.map ics) false)]⟩) ?_ ?_
  · exact ⟨_, _, ⟨0, rfl, Nat.zero_le _, rfl⟩, [], _, rfl, by simp⟩
  rintro n σ ⟨k, rfl, hk, rfl⟩
  by_cases hlt : k < s.locks.length
  · obtain ⟨x, hx, e⟩ := at_lt hlt
    simp [hlt, e, Prep.run]
    refine effCallN (cloneI_m x.rd (f4 x (List.mem_of_getElem? hx))) ?_
    simp [Prep.run, hlt, setL s.locks hx, wrap_succ hlt f1]
    refine ⟨by kernel_rfl, ?_⟩
    refine ⟨_, ?_, _, ⟨k + 1, rfl, hlt, rfl⟩, [], _, rfl, by simp [upTo_succ]⟩
    omega
  obtain rfl : k = s.locks.length := by omega
  simp
  refine vc_loop (fun n σ => ∃ k : Nat, n = s.queues.length - k ∧ k ≤ s.queues.length ∧ σ = ⟨56, [(39, .i k), (38, .i s.queues.length), (1, .ptr 1 0), (2, .ptr 2 0)], [(1, .box 27 [.rw 7 s.locks.length, .rw 10 s.queues.length, .rw 13 s.groups.length]), (7, nestL s.locks s.locks.length), (10, nestQ s.queues k), (13, .row 3 1 (s.groups.map ics) false), (2, .box 27 [.any, .any, .any])]⟩) ?_ ?_
  · exact ⟨_, _, ⟨0, rfl, Nat.zero_le _, rfl⟩, [], _, rfl, by simp⟩
  rintro n σ ⟨k, rfl, hk, rfl⟩
  by_cases hlt : k < s.queues.length
  · obtain ⟨x, hx, e⟩ := at_lt hlt
    simp [hlt, e, Prep.run]
    refine effCallN (cloneV_m x.items (f5 x (List.mem_of_getElem? hx))) ?_
    simp [Prep.run, hlt, setQ s.queues hx, wrap_succ hlt f2]
    refine ⟨by kernel_rfl, ?_⟩
    refine ⟨_, ?_, _, ⟨k + 1, rfl, hlt, rfl⟩, [], _, rfl, by simp [upTo_succ]⟩
    omega
  obtain rfl : k = s.queues.length := by omega
  simp
  refine vcRet_of [7, 10, 13] ?_ rfl
  simp
  exact ⟨rfl, rfl⟩
end Go.Proofs.Ytnkoibhjnahkiaa
