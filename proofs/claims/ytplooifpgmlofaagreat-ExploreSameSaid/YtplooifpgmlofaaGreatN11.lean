/- Benches. No condition. -/
import Derived.Test.YtplooifpgmlofaaGreatTabA
import Derived.Test.YtplooifpgmlofaaGreatV26
namespace Go.Proofs.YtplooifpgmlofaaGreat.Lo
set_option maxRecDepth 100000

structure Lk where
  hold : Int
  rd : List Int
deriving DecidableEq
instance : Inhabited Lk := ⟨⟨0, []⟩⟩
structure Qu where
  room : Int
  items : List Int
  shut : Bool
deriving DecidableEq
instance : Inhabited Qu := ⟨⟨0, [], false⟩⟩
structure Sy where
  locks : List Lk
  queues : List Qu
  groups : List Int
deriving DecidableEq
def noSy : Sy := ⟨[], [], []⟩

def idx {α : Type} (p : α → Bool) : List α → Int → Int
  | [], _ => -1
  | x :: xs, k => if p x then k else idx p xs (k + 1)
def inT (n : Int) : Bool := decide (1 ≤ n) && decide (n ≤ 200)
def lkOk (l : Lk) : Bool := (decide (l.hold = 0) || inT l.hold) && l.rd.all inT
def quOk (q : Qu) : Bool := decide (1 ≤ q.room) && decide (q.room ≤ 64)
def grOk (n : Int) : Bool := decide (0 ≤ n) && decide (n ≤ 1000)
def ranges (s : Sy) : Bool := s.locks.all lkOk && (s.queues.all quOk && s.groups.all grOk)
def asc : List Int → Bool
  | a :: b :: r => decide (a < b) && asc (b :: r)
  | _ => true
def formOk (l : Lk) : Bool := !(decide (0 < l.hold) && decide (0 < l.rd.length)) && asc l.rd
def over (q : Qu) : Bool := decide (q.room < q.items.length)
def long (s : Sy) : Bool := decide (16 < s.locks.length) || (decide (16 < s.queues.length) || decide (16 < s.groups.length)) || s.queues.any over
def chk (s : Sy) : Int := if long s then 3 else if !ranges s then 7 else if s.locks.all formOk then 0 else 6
def Fits (s : Sy) : Prop := s.locks.length < 4294967296 ∧ s.queues.length < 4294967296 ∧ s.groups.length < 4294967296 ∧ (∀ l ∈ s.locks, l.rd.length < 4294967296) ∧ ∀ q ∈ s.queues, q.items.length < 4294967296
def Wide (s : Sy) : Prop := s.locks.length ≤ 9223372036854775807 ∧ s.queues.length ≤ 9223372036854775807 ∧ s.groups.length ≤ 9223372036854775807 ∧ (∀ l ∈ s.locks, l.rd.length ≤ 9223372036854775807) ∧ ∀ q ∈ s.queues, q.items.length ≤ 9223372036854775807
theorem Fits.wide {s : Sy} (h : Fits s) : Wide s := ⟨by have := h.1; omega, by have := h.2.1; omega, by have := h.2.2.1; omega, fun l hl => by have := h.2.2.2.1 l hl; omega, fun q hq => by have := h.2.2.2.2 q hq; omega⟩

theorem idx_any {α : Type} (p : α → Bool) : ∀ (xs : List α) (k : Int), 0 ≤ k → (0 ≤ idx p xs k ↔ xs.any p = true)
  | [], k, _ => by simp [idx]
  | x :: xs, k, h => by
    unfold idx
    cases hp : p x
    · simp [hp, idx_any p xs (k + 1) (by omega)]
    · simp [hp, h]
def noneTo {α : Type} (p : α → Bool) (xs : List α) (k : Nat) : Prop := ∀ i y, i < k → xs[i]? = some y → p y = false
theorem noneTo_zero {α : Type} (p : α → Bool) (xs : List α) : noneTo p xs 0 := fun _ _ h => absurd h (by omega)
theorem noneTo_succ {α : Type} {p : α → Bool} {xs : List α} {k : Nat} {x : α} (h : noneTo p xs k) (hx : xs[k]? = some x) (hp : p x = false) : noneTo p xs (k + 1) := fun i y hi hy => by
  by_cases hik : i = k
  · subst hik; rw [hx] at hy; cases hy; exact hp
  · exact h i y (by omega) hy
theorem idx_hit0 {α : Type} (p : α → Bool) : ∀ (xs : List α) (k : Nat) (x : α) (o : Int), xs[k]? = some x → p x = true → noneTo p xs k → idx p xs o = o + k
  | [], k, x, o, hx, _, _ => by simp at hx
  | y :: ys, 0, x, o, hx, hp, _ => by cases hx; simp [idx, hp]
  | y :: ys, k + 1, x, o, hx, hp, hn => by
    have h0 := hn 0 y (by omega) rfl
    unfold idx
    rw [h0]
    simp only [Bool.false_eq_true, if_false]
    rw [idx_hit0 p ys k x (o + 1) (by simpa using hx) hp fun i z hi hz => hn (i + 1) z (by omega) (by simpa using hz)]
    omega
theorem idx_hit {α : Type} (p : α → Bool) (xs : List α) (k : Nat) (x : α) (hx : xs[k]? = some x) (hp : p x = true) (hn : noneTo p xs k) : idx p xs 0 = k := by
  rw [idx_hit0 p xs k x 0 hx hp hn]; omega
theorem idx_miss {α : Type} (p : α → Bool) : ∀ (xs : List α) {o : Int}, noneTo p xs xs.length → idx p xs o = -1
  | [], _, _ => rfl
  | y :: ys, o, hn => by
    unfold idx
    rw [hn 0 y (by simp) rfl]
    simp only [Bool.false_eq_true, if_false]
    exact idx_miss p ys fun i z hi hz => hn (i + 1) z (by simpa using hi) (by simpa using hz)
theorem noneTo_any {α : Type} {p : α → Bool} {xs : List α} (h : noneTo p xs xs.length) : xs.any p = false := by
  rw [List.any_eq_false]
  intro x hx
  obtain ⟨i, hi⟩ := List.getElem?_of_mem hx
  rw [h i x (List.getElem?_eq_some_iff.1 hi).1 hi]; simp
theorem any_at {α : Type} {p : α → Bool} {xs : List α} {i : Nat} {x : α} (hx : xs[i]? = some x) (hp : p x = true) : xs.any p = true := List.any_eq_true.2 ⟨x, List.mem_of_getElem? hx, hp⟩
theorem all_at {α : Type} {p : α → Bool} {xs : List α} {i : Nat} {x : α} (hx : xs[i]? = some x) (hp : p x = false) : xs.all p = false := by
  rw [List.all_eq_false]
  exact ⟨x, List.mem_of_getElem? hx, by simp [hp]⟩
theorem noneTo_all {α : Type} {p q : α → Bool} {xs : List α} (h : noneTo q xs xs.length) (hq : ∀ x, q x = !p x) : xs.all p = true := by
  rw [List.all_eq_true]
  intro x hx
  obtain ⟨i, hi⟩ := List.getElem?_of_mem hx
  have := h i x (List.getElem?_eq_some_iff.1 hi).1 hi
  rw [hq] at this
  simpa using this
def ascTo (l : List Int) : Nat → Bool
  | 0 => true
  | k + 1 => ascTo l k && (decide (k = 0) || decide (l.getD (k - 1) 0 < l.getD k 0))
theorem ascTo_mono {l : List Int} {i j : Nat} (h : i ≤ j) (hj : ascTo l j = true) : ascTo l i = true := by
  induction j with
  | zero => obtain rfl : i = 0 := by omega
            exact hj
  | succ j ih =>
    rcases Nat.lt_or_ge i (j + 1) with h1 | h1
    · simp only [ascTo, Bool.and_eq_true] at hj
      exact ih (by omega) hj.1
    · obtain rfl : i = j + 1 := by omega
      exact hj
theorem ascTo_key (a b : Int) (l : List Int) (k : Nat) : ascTo (a :: b :: l) (k + 2) = (decide (a < b) && ascTo (b :: l) (k + 1)) := by
  induction k with
  | zero => simp [ascTo]
  | succ k ih =>
    rw [show k + 1 + 2 = (k + 2) + 1 from rfl, ascTo, ih, show k + 1 + 1 = (k + 1) + 1 from rfl, ascTo]
    simp only [Nat.add_eq_zero_iff, and_false, show ¬ (1 : Nat) = 0 from by omega, decide_false, Bool.false_or, Nat.add_sub_cancel]
    rw [Bool.and_assoc]
    congr 2
theorem ascTo_len : ∀ (l : List Int), ascTo l l.length = asc l
  | [] => rfl
  | [a] => by simp [ascTo, asc]
  | a :: b :: r => by
    show ascTo (a :: b :: r) (r.length + 2) = (decide (a < b) && asc (b :: r))
    rw [ascTo_key, ← ascTo_len (b :: r)]
    rfl

def lower (v : Int) (xs : List Int) : Nat := (xs.takeWhile fun x => decide (x < v)).length
def hasT (t : Int) (l : Lk) : Bool := decide (l.hold = t) || decide (t ∈ l.rd)
def lockF (t : Int) (l : Lk) : Int × Lk := if hasT t l then (8, l) else if 0 < l.hold ∨ 0 < l.rd.length then (9, l) else (0, ⟨t, l.rd⟩)
def unlockF (t : Int) (l : Lk) : Int × Lk := if l.hold = t then (0, ⟨0, l.rd⟩) else (9, l)
def putIn (t : Int) (l : List Int) : List Int := l.take (lower t l) ++ t :: l.drop (lower t l)
def rlockF (t : Int) (l : Lk) : Int × Lk := if hasT t l then (8, l) else if 0 < l.hold then (9, l) else (0, ⟨l.hold, putIn t l.rd⟩)
def runlockF (t : Int) (l : Lk) : Int × Lk := if t ∈ l.rd then (0, ⟨l.hold, l.rd.eraseIdx (lower t l.rd)⟩) else (9, l)
def sendF (v : Int) (q : Qu) : Int × Qu := if q.shut then (9, q) else if (q.items.length : Int) = q.room then (5, q) else (0, ⟨q.room, q.items ++ [v], q.shut⟩)
def recvF (q : Qu) : Int × Qu := if 0 < q.items.length then (0, ⟨q.room, q.items.eraseIdx 0, q.shut⟩) else if q.shut then (0, q) else (10, q)
def shutF (q : Qu) : Int × Qu := if q.shut then (9, q) else (0, ⟨q.room, q.items, true⟩)
def known (s : Sy) (lock t : Int) : Int := if chk s ≠ 0 then chk s else if lock < 0 ∨ (s.locks.length : Int) ≤ lock then 4 else if inT t then 0 else 7
def queueE (s : Sy) (n : Int) : Int := if chk s ≠ 0 then chk s else if n < 0 ∨ (s.queues.length : Int) ≤ n then 4 else 0
def onLock (s : Sy) (lock t : Int) (F : Lk → Int × Lk) : Sy × Int :=
  if known s lock t ≠ 0 then (s, known s lock t)
  else if (F (s.locks.getD lock.toNat default)).1 ≠ 0 then (s, (F (s.locks.getD lock.toNat default)).1)
  else (⟨s.locks.set lock.toNat (F (s.locks.getD lock.toNat default)).2, s.queues, s.groups⟩, 0)
def onQueue (s : Sy) (n : Int) (F : Qu → Int × Qu) : Sy × Int :=
  if queueE s n ≠ 0 then (s, queueE s n)
  else if (F (s.queues.getD n.toNat default)).1 ≠ 0 then (s, (F (s.queues.getD n.toNat default)).1)
  else (⟨s.locks, s.queues.set n.toNat (F (s.queues.getD n.toNat default)).2, s.groups⟩, 0)
def groupE (s : Sy) (n : Int) : Int := if chk s ≠ 0 then chk s else if n < 0 ∨ (s.groups.length : Int) ≤ n then 4 else 0
def addS (s : Sy) (n v : Int) : Sy × Int :=
  if groupE s n ≠ 0 then (s, groupE s n)
  else if v < -(s.groups.getD n.toNat 0) ∨ 1000 - s.groups.getD n.toNat 0 < v then (s, 7)
  else (⟨s.locks, s.queues, s.groups.set n.toNat (s.groups.getD n.toNat 0 + v)⟩, 0)
structure Wt where
  kind : Int
  obj : Int
  til : Int
deriving DecidableEq
instance : Inhabited Wt := ⟨⟨0, 0, 0⟩⟩
def thereN (s : Sy) (w : Wt) : Int := if w.kind = 3 then s.locks.length else if w.kind = 6 then s.groups.length else s.queues.length
def thereS (s : Sy) (w : Wt) : Bool × Int :=
  if chk s ≠ 0 then (false, chk s)
  else if w.kind = 3 ∧ w.til ≠ 0 ∧ w.til ≠ 1 then (false, 7)
  else if ¬ (w.kind = 3 ∨ w.kind = 4 ∨ w.kind = 5 ∨ w.kind = 6) then (false, 2)
  else if w.obj < 0 ∨ thereN s w ≤ w.obj then (false, 4)
  else if w.kind = 3 then (decide ((s.locks.getD w.obj.toNat default).hold = 0) && (decide (w.til = 1) || decide ((s.locks.getD w.obj.toNat default).rd.length = 0)), 0)
  else if w.kind = 4 then ((s.queues.getD w.obj.toNat default).shut || decide (0 < (s.queues.getD w.obj.toNat default).items.length), 0)
  else if w.kind = 5 then ((s.queues.getD w.obj.toNat default).shut || decide (((s.queues.getD w.obj.toNat default).items.length : Int) < (s.queues.getD w.obj.toNat default).room), 0)
  else (decide (s.groups.getD w.obj.toNat 0 = 0), 0)
def hldTo (t : Int) (l : List Lk) : Nat → List Int
  | 0 => []
  | k + 1 => hldTo t l k ++ if hasT t (l.getD k default) then [(k : Int)] else []
def holdsS (s : Sy) (t : Int) : List Int × Int :=
  if chk s ≠ 0 then ([], chk s) else if !inT t then ([], 7) else (hldTo t s.locks s.locks.length, 0)
def roomOk (r : Int) : Bool := decide (1 ≤ r) && decide (r ≤ 64)
def newS (n : Int) (rooms : List Int) (g : Int) : Sy × Int :=
  if 16 < n ∨ 16 < rooms.length ∨ 16 < g then (noSy, 3) else if n < 0 ∨ g < 0 then (noSy, 7) else if !rooms.all roomOk then (noSy, 7)
  else (⟨List.replicate n.toNat ⟨0, []⟩, rooms.map fun r => ⟨r, [], false⟩, List.replicate g.toNat 0⟩, 0)
theorem asc_bound {b : Int} : ∀ {l : List Int} {a : Int}, asc l = true → (∀ x ∈ l, a < x ∧ x ≤ b) → (l.length : Int) ≤ max 0 (b - a)
  | [], a, _, _ => by simp; omega
  | x :: l, a, h, hx => by
    have h1 := hx x (by simp)
    have h2 : asc l = true := by
      cases l with
      | nil => rfl
      | cons y r => simp only [asc, Bool.and_eq_true] at h; exact h.2
    have h3 : ∀ y ∈ l, x < y ∧ y ≤ b := fun y hy => ⟨?_, (hx y (by simp [hy])).2⟩
    · have := asc_bound (a := x) h2 h3
      simp only [List.length_cons]
      omega
    · clear h1 hx
      induction l generalizing x with
      | nil => cases hy
      | cons z r ih =>
        simp only [asc, Bool.and_eq_true, decide_eq_true_eq] at h
        rcases List.mem_cons.1 hy with rfl | hy
        · exact h.1
        · have h5 : asc r = true := by
            cases r with
            | nil => rfl
            | cons w r => have := h.2; simp only [asc, Bool.and_eq_true] at this; exact this.2
          have := ih z h.2 h5 hy
          omega
theorem chk_zero {s : Sy} (h : chk s = 0) : long s = false ∧ ranges s = true ∧ s.locks.all formOk = true := by
  unfold chk at h
  split at h
  · cases h
  · split at h
    · cases h
    · split at h
      · rename_i h1 h2 h3
        exact ⟨by simpa using h1, by simpa using h2, h3⟩
      · cases h
theorem chk_lock {s : Sy} (h : chk s = 0) {l : Lk} (hl : l ∈ s.locks) : asc l.rd = true ∧ l.rd.length ≤ 200 := by
  obtain ⟨_, h2, h3⟩ := chk_zero h
  have h4 := List.all_eq_true.1 h3 l hl
  unfold ranges at h2
  simp only [Bool.and_eq_true] at h2
  have h5 := List.all_eq_true.1 h2.1 l hl
  unfold formOk at h4
  unfold lkOk at h5
  simp only [Bool.and_eq_true] at h4 h5
  refine ⟨h4.2, ?_⟩
  have := asc_bound (a := 0) (b := 200) h4.2 fun x hx => by
    have := List.all_eq_true.1 h5.2 x hx
    unfold inT at this
    simp at this
    omega
  omega
theorem chk_group {s : Sy} (h : chk s = 0) {g : Int} (hg : g ∈ s.groups) : 0 ≤ g ∧ g ≤ 1000 := by
  obtain ⟨h1, h2, h3⟩ := chk_zero h
  unfold ranges at h2
  simp only [Bool.and_eq_true] at h2
  have h5 := List.all_eq_true.1 h2.2.2 g hg
  unfold grOk at h5
  simpa using h5
theorem chk_queue {s : Sy} (h : chk s = 0) {q : Qu} (hq : q ∈ s.queues) : (q.items.length : Int) ≤ q.room ∧ q.room ≤ 64 ∧ q.items.length ≤ 64 ∧ 1 ≤ q.room := by
  obtain ⟨h1, h2, h3⟩ := chk_zero h
  unfold long at h1
  simp only [Bool.or_eq_false_iff] at h1
  have h4 := List.any_eq_false.1 h1.2 q hq
  unfold ranges at h2
  simp only [Bool.and_eq_true] at h2
  have h5 := List.all_eq_true.1 h2.2.1 q hq
  unfold over at h4
  unfold quOk at h5
  simp at h4 h5
  omega
theorem known_lt {s : Sy} {lock t : Int} (h : known s lock t = 0) : 0 ≤ lock ∧ lock < s.locks.length := by
  unfold known at h
  split at h
  · contradiction
  · split at h
    · cases h
    · omega
theorem known_chk {s : Sy} {lock t : Int} (h : known s lock t = 0) : chk s = 0 := by
  unfold known at h
  split at h
  · contradiction
  · omega
theorem queueE_lt {s : Sy} {n : Int} (h : queueE s n = 0) : 0 ≤ n ∧ n < s.queues.length := by
  unfold queueE at h
  split at h
  · contradiction
  · split at h
    · cases h
    · omega
theorem queueE_chk {s : Sy} {n : Int} (h : queueE s n = 0) : chk s = 0 := by
  unfold queueE at h
  split at h
  · contradiction
  · omega
end Go.Proofs.YtplooifpgmlofaaGreat.Lo
namespace Go.Proofs.YtplooifpgmlofaaGreat.Lo
set_option maxRecDepth 100000
open Go.RowKit

@[simp] def ics (n : Int) : List D := [.v (.int .i64 n)]
@[simp] def il (l : List Int) : D := .sl 1 (l.map ics)
@[simp] def Lk.ds (l : Lk) : List D := [.v (.int .i64 l.hold), il l.rd]
@[simp] def Lk.pv (l : Lk) : PV := .agg [.i l.hold, .d (il l.rd)]
@[simp] def Qu.ds (q : Qu) : List D := [.v (.int .i64 q.room), il q.items, .v (.bool q.shut)]
@[simp] def Qu.pv (q : Qu) : PV := .agg [.i q.room, .d (il q.items), .b q.shut]
@[simp] def lks (l : List Lk) : D := .sl 2 (l.map Lk.ds)
@[simp] def qus (l : List Qu) : D := .sl 3 (l.map Qu.ds)
@[simp] def Sy.cells (s : Sy) : List PV := [.d (lks s.locks), .d (qus s.queues), .d (il s.groups)]
@[simp] def Sy.pv (s : Sy) : PV := .agg [.d (lks s.locks), .d (qus s.queues), .d (il s.groups)]
@[simp] def Sy.box (s : Sy) : MObj := .box 26 s.cells
theorem at_lt {α : Type} {xs : List α} {k : Nat} (h : k < xs.length) : ∃ x, xs[k]? = some x ∧ xs[k] = x := ⟨_, List.getElem?_eq_getElem h, rfl⟩
theorem wrap_succ {k n : Nat} (h : k < n) (hn : n < 4294967296) : IntKind.i64.wrap ((k : Int) + 1) = (k : Int) + 1 := IntWalk.i64_in _ (by omega)
end Go.Proofs.YtplooifpgmlofaaGreat.Lo
namespace Go.Proofs.YtplooifpgmlofaaGreat.Lo
set_option maxRecDepth 100000
open Go.RowKit

@[simp] def nestL (l : List Lk) (k : Nat) : MObj := .nest 140 2 (l.map Lk.ds) (fun a => decide (a < k)) [(1, 3)] none
@[simp] def nestQ (l : List Qu) (k : Nat) : MObj := .nest 69 3 (l.map Qu.ds) (fun a => decide (a < k)) [(1, 2)] none
theorem upTo_succ (k : Nat) : ∀ a, (decide (a < k) || decide (a = k)) = decide (a < k + 1) := fun a => by
  rw [Bool.eq_iff_iff]; simp; omega
theorem setL (l : List Lk) {k : Nat} {x : Lk} (h : l[k]? = some x) : (l.map Lk.ds).set k [.v (.int .i64 x.hold), .sl 1 (x.rd.map ics)] = l.map Lk.ds := by
  apply List.ext_getElem?
  intro i
  rw [List.getElem?_set]
  split
  · rename_i e; subst e
    obtain ⟨h1, rfl⟩ := List.getElem?_eq_some_iff.1 h
    simp [h1]
  · rfl
theorem setQ (l : List Qu) {k : Nat} {x : Qu} (h : l[k]? = some x) : (l.map Qu.ds).set k [.v (.int .i64 x.room), .sl 1 (x.items.map ics), .v (.bool x.shut)] = l.map Qu.ds := by
  apply List.ext_getElem?
  intro i
  rw [List.getElem?_set]
  split
  · rename_i e; subst e
    obtain ⟨h1, rfl⟩ := List.getElem?_eq_some_iff.1 h
    simp [h1]
  · rfl
end Go.Proofs.YtplooifpgmlofaaGreat.Lo
namespace Go.Proofs.YtplooifpgmlofaaGreat.Lo
set_option maxRecDepth 100000
open Go.RowKit

@[simp] def rowI (xs : List Int) : MObj := .row 3 1 (xs.map ics) false
@[simp] def rowV (xs : List Int) : MObj := .row 2 1 (xs.map ics) false
theorem asc_tail {a : Int} {l : List Int} (h : asc (a :: l) = true) : asc l = true := by
  cases l with
  | nil => rfl
  | cons b r => simp only [asc, Bool.and_eq_true] at h; exact h.2
theorem asc_lt {a : Int} : ∀ {l : List Int}, asc (a :: l) = true → ∀ x ∈ l, a < x
  | [], _, x, hx => by cases hx
  | b :: r, h, x, hx => by
    have h' := h
    simp only [asc, Bool.and_eq_true, decide_eq_true_eq] at h'
    rcases List.mem_cons.1 hx with rfl | hx
    · exact h'.1
    · have := asc_lt h'.2 x hx; omega
theorem lower_le (v : Int) : ∀ xs : List Int, lower v xs ≤ xs.length
  | [] => Nat.le_refl _
  | x :: xs => by
    unfold lower
    rw [List.takeWhile_cons]
    split
    · have := lower_le v xs; unfold lower at this; simp only [List.length_cons]; omega
    · simp
theorem lower_at {v : Int} : ∀ {xs : List Int} {i : Nat} {x : Int}, asc xs = true → xs[i]? = some x → (x < v ↔ i < lower v xs)
  | [], i, x, _, h => by simp at h
  | y :: ys, i, x, ha, h => by
    unfold lower
    rw [List.takeWhile_cons]
    by_cases hy : y < v
    · simp only [hy, decide_true, if_true, List.length_cons]
      cases i with
      | zero => cases h; simp [hy]
      | succ i =>
        have := lower_at (v := v) (asc_tail ha) (show ys[i]? = some x by simpa using h)
        unfold lower at this
        omega
    · simp only [hy, decide_false, Bool.false_eq_true, if_false, List.length_nil, Nat.not_lt_zero, iff_false]
      cases i with
      | zero => cases h; exact hy
      | succ i =>
        have := asc_lt ha x (List.mem_of_getElem? (show ys[i]? = some x by simpa using h))
        omega
end Go.Proofs.YtplooifpgmlofaaGreat.Lo
namespace Go.Proofs.YtplooifpgmlofaaGreat.Lo
set_option maxRecDepth 100000
open Go.RowKit

@[simp] def nestF (XS : List (List D)) (PR : Nat → Bool) (j : Nat) (h : Int) (k n : Nat) : MObj := .nest 32 2 XS PR [(1, 3)] (some (j, [.i h, .rw k n]))
abbrev lockRes (XS : List (List D)) (PR : Nat → Bool) (j : Nat) (t : Int) (r : Int × Lk) (Z : List (List D)) : Res := ⟨.i r.1, [nestF XS PR j r.2.hold 1000002 r.2.rd.length, .box 3 [.i t], .grown 3 1 (r.2.rd.map ics ++ Z)], []⟩
abbrev lockExt (XS : List (List D)) (PR : Nat → Bool) (j : Nat) (t : Int) (l : Lk) : List MObj := [nestF XS PR j l.hold 1000002 l.rd.length, .box 3 [.i t], rowI l.rd]
end Go.Proofs.YtplooifpgmlofaaGreat.Lo
namespace Go.Proofs.YtplooifpgmlofaaGreat.Lo
set_option maxRecDepth 100000
open Go.RowKit

@[simp] def nestG (XS : List (List D)) (PR : Nat → Bool) (j : Nat) (r : Int) (k n : Nat) (b : Bool) : MObj := .nest 74 3 XS PR [(1, 2)] (some (j, [.i r, .rw k n, .b b]))
end Go.Proofs.YtplooifpgmlofaaGreat.Lo
namespace Go.Proofs.YtplooifpgmlofaaGreat.Lo
set_option maxRecDepth 100000
open Go.RowKit

def recvV (s : Sy) (n : Int) : Int := if queueE s n = 0 then (s.queues.getD n.toNat default).items.headD 0 else 0
def recvB (s : Sy) (n : Int) : Bool := if queueE s n = 0 then decide (0 < (s.queues.getD n.toNat default).items.length) else false
end Go.Proofs.YtplooifpgmlofaaGreat.Lo
namespace Go.Proofs.YtplooifpgmlofaaGreat.Lo
set_option maxRecDepth 100000
open Go.RowKit

theorem wrap_suW {k n : Nat} (h : k < n) (hn : n ≤ 9223372036854775807) : IntKind.i64.wrap ((k : Int) + 1) = (k : Int) + 1 := IntWalk.i64_in _ (by omega)
theorem between_m (n a b : Int) : Meets Tryz.prog 42 [.i n, .i a, .i b] [] (Ret (.b (decide (a ≤ n) && decide (n ≤ b)))) := by
  refine meets tbROk mixed Tryz.func42 pl42 rfl rfl ?_
  by_cases h : a ≤ n
  · simp [Tryz.ntmps42, h]
    exact vcRet_of [] (by simp) rfl
  · simp [Tryz.ntmps42, h]
    exact vcRet_of [] (by simp) rfl
set_option maxRecDepth 100000 in
set_option maxHeartbeats 1000000 in
theorem long_m (s : Sy) (hf : Wide s) : Meets Tryz.prog 62 [s.pv] [] (Ret (.b (long s))) := by
  obtain ⟨f1, f2, f3, f4, f5⟩ := hf
  refine meetsH [] tbROk mixed Tryz.func62 pl62 rfl rfl ?_
  simp [Tryz.ntmps62]
  refine vc_loop (fun n σ => ∃ k : Nat, n = s.queues.length - k ∧ k ≤ s.queues.length ∧ noneTo over s.queues k ∧ σ = ⟨41, [(3, .i k), (1, .ptr 1 0)], [(1, s.box)]⟩) ?_ ?_
  · exact ⟨_, _, ⟨0, rfl, Nat.zero_le _, noneTo_zero _ _, rfl⟩, [], _, rfl, by simp⟩
  rintro n σ ⟨k, rfl, hk, hn, rfl⟩
  by_cases hlt : k < s.queues.length
  · obtain ⟨x, hx, e⟩ := at_lt hlt
    by_cases ho : x.room < x.items.length
    · simp [hlt, e, ho]
      refine ⟨by kernel_rfl, ?_⟩
      refine vcRet_of [] ?_ rfl
      simp [long, any_at hx (show over x = true by simp [over, ho])]
    · simp [hlt, e, ho, wrap_suW hlt f2]
      refine ⟨by kernel_rfl, ?_⟩
      refine ⟨_, ?_, _, ⟨k + 1, rfl, hlt, noneTo_succ hn hx (by simp [over]; omega), rfl⟩, [], _, rfl, by simp⟩
      omega
  obtain rfl : k = s.queues.length := by omega
  have h0 := noneTo_any hn
  by_cases h1 : (16 : Int) < s.locks.length
  · simp [h1]
    refine vcRet_of [] ?_ rfl
    simp [long, show 16 < s.locks.length by omega]
  by_cases h2 : (16 : Int) < s.queues.length
  · simp [h1, h2]
    refine vcRet_of [] ?_ rfl
    simp [long, show 16 < s.queues.length by omega]
  simp [h1, h2]
  refine vcRet_of [] ?_ rfl
  simp [long, h0, show ¬ 16 < s.locks.length by omega, show ¬ 16 < s.queues.length by omega]
  omega
set_option maxRecDepth 100000 in
set_option maxHeartbeats 2000000 in
theorem refRanges_m (s : Sy) (hf : Wide s) : Meets Tryz.prog 63 [s.pv] [] (Ret (.b (ranges s))) := by
  obtain ⟨f1, f2, f3, f4, f5⟩ := hf
  refine meetsH [] tbROk mixed Tryz.func63 pl63 rfl rfl ?_
  simp [Tryz.ntmps63]
  refine vc_loop (fun n σ => ∃ k : Nat, n = s.locks.length - k ∧ k ≤ s.locks.length ∧ noneTo (fun l => !lkOk l) s.locks k ∧ σ = ⟨67, [(3, .i k), (1, .ptr 1 0)], [(1, s.box)]⟩) ?_ ?_
  · exact ⟨_, _, ⟨0, rfl, Nat.zero_le _, noneTo_zero _ _, rfl⟩, [], _, rfl, by simp⟩
  rintro n σ ⟨k, rfl, hk, hn, rfl⟩
  by_cases hlt : k < s.locks.length
  · obtain ⟨x, hx, e⟩ := at_lt hlt
    have hxm := List.mem_of_getElem? hx
    have hbad : lkOk x = false → ranges s = false := fun h => by unfold ranges; rw [all_at hx h]; rfl
    simp [hlt, e]
    refine (between_m x.hold 0 200).mono ?_
    rintro _ rfl
    by_cases h0 : 0 ≤ x.hold ∧ x.hold ≤ 200
    case neg =>
      have h0' : (decide (0 ≤ x.hold) && decide (x.hold ≤ 200)) = false := by rw [Bool.eq_false_iff]; simpa using h0
      simp [h0']
      exact vcRet_of [] (by simp [hbad (by simp [lkOk, inT]; omega)]) rfl
    simp [h0.1, h0.2]
    refine vc_loop (fun n' σ => ∃ j : Nat, n' = x.rd.length - j ∧ j ≤ x.rd.length ∧ noneTo (fun y => !inT y) x.rd j ∧ σ = ⟨67, [(5, .i j), (4, .ptr 4 0), (3, .i k), (1, .ptr 1 0)], [(4, .box 140 [.i x.hold, .d (il x.rd)]), (1, s.box)]⟩) ?_ ?_
    · exact ⟨_, _, ⟨0, rfl, Nat.zero_le _, noneTo_zero _ _, rfl⟩, [], _, rfl, by simp⟩
    rintro n' σ ⟨j, rfl, hj, hnj, rfl⟩
    by_cases hjt : j < x.rd.length
    · obtain ⟨y, hy, ey⟩ := at_lt hjt
      simp [hjt, ey]
      refine (between_m y 1 200).mono ?_
      rintro _ rfl
      cases hb : inT y
      · have hb' : (decide (1 ≤ y) && decide (y ≤ 200)) = false := hb
        simp [hb']
        refine vcRet_of [] ?_ rfl
        have : lkOk x = false := by unfold lkOk; rw [all_at hy hb]; simp
        simp [hbad this]
      · have hb' : (decide (1 ≤ y) && decide (y ≤ 200)) = true := hb
        simp [hb', wrap_suW hjt (f4 x hxm)]
        refine ⟨_, ?_, _, ⟨j + 1, rfl, hjt, noneTo_succ hnj hy (by simp [hb]), rfl⟩, [], _, rfl, by simp⟩
        omega
    obtain rfl : j = x.rd.length := by omega
    simp [wrap_suW hlt f1]
    refine ⟨_, ?_, _, ⟨k + 1, rfl, hlt, noneTo_succ hn hx ?_, rfl⟩, [], _, rfl, by simp⟩
    · omega
    · have h9 : x.rd.all inT = true := noneTo_all hnj fun _ => rfl
      unfold lkOk
      rw [h9]
      simp [inT]
      omega
  obtain rfl : k = s.locks.length := by omega
  have hlk : s.locks.all lkOk = true := noneTo_all hn fun _ => rfl
  simp
  refine vc_loop (fun n σ => ∃ k : Nat, n = s.queues.length - k ∧ k ≤ s.queues.length ∧ noneTo (fun q => !quOk q) s.queues k ∧ σ = ⟨67, [(6, .i k), (1, .ptr 1 0)], [(1, s.box)]⟩) ?_ ?_
  · exact ⟨_, _, ⟨0, rfl, Nat.zero_le _, noneTo_zero _ _, rfl⟩, [], _, rfl, by simp⟩
  rintro n σ ⟨k, rfl, hk, hn, rfl⟩
  by_cases hlt : k < s.queues.length
  · obtain ⟨x, hx, e⟩ := at_lt hlt
    simp [hlt, e]
    refine (between_m x.room 1 64).mono ?_
    rintro _ rfl
    cases hb : quOk x
    · have hb' : (decide (1 ≤ x.room) && decide (x.room ≤ 64)) = false := hb
      simp [hb']
      refine vcRet_of [] ?_ rfl
      have : ranges s = false := by unfold ranges; rw [all_at hx hb]; simp
      simp [this]
    · have hb' : (decide (1 ≤ x.room) && decide (x.room ≤ 64)) = true := hb
      simp [hb', wrap_suW hlt f2]
      refine ⟨_, ?_, _, ⟨k + 1, rfl, hlt, noneTo_succ hn hx (by simp [hb]), rfl⟩, [], _, rfl, by simp⟩
      omega
  obtain rfl : k = s.queues.length := by omega
  have hqu : s.queues.all quOk = true := noneTo_all hn fun _ => rfl
  simp
  refine vc_loop (fun n σ => ∃ k : Nat, n = s.groups.length - k ∧ k ≤ s.groups.length ∧ noneTo (fun q => !grOk q) s.groups k ∧ σ = ⟨67, [(7, .i k), (1, .ptr 1 0)], [(1, s.box)]⟩) ?_ ?_
  · exact ⟨_, _, ⟨0, rfl, Nat.zero_le _, noneTo_zero _ _, rfl⟩, [], _, rfl, by simp⟩
  rintro n σ ⟨k, rfl, hk, hn, rfl⟩
  by_cases hlt : k < s.groups.length
  · obtain ⟨x, hx, e⟩ := at_lt hlt
    simp [hlt, e]
    refine (between_m x 0 1000).mono ?_
    rintro _ rfl
    cases hb : grOk x
    · have hb' : (decide (0 ≤ x) && decide (x ≤ 1000)) = false := hb
      simp [hb']
      refine vcRet_of [] ?_ rfl
      have : ranges s = false := by unfold ranges; rw [all_at hx hb]; simp
      simp [this]
    · have hb' : (decide (0 ≤ x) && decide (x ≤ 1000)) = true := hb
      simp [hb', wrap_suW hlt f3]
      refine ⟨_, ?_, _, ⟨k + 1, rfl, hlt, noneTo_succ hn hx (by simp [hb]), rfl⟩, [], _, rfl, by simp⟩
      omega
  obtain rfl : k = s.groups.length := by omega
  have hgr : s.groups.all grOk = true := noneTo_all hn fun _ => rfl
  simp
  exact vcRet_of [] (by simp [ranges, hlk, hqu, hgr]) rfl
end Go.Proofs.YtplooifpgmlofaaGreat.Lo
namespace Go.Proofs.YtplooifpgmlofaaGreat.Lo
set_option maxRecDepth 100000
open Go.RowKit

set_option maxRecDepth 100000 in
set_option maxHeartbeats 2000000 in
theorem refCheck_m (s : Sy) (hf : Wide s) : Meets Tryz.prog 41 [s.pv] [] (Ret (.i (chk s))) := by
  have hf0 := hf
  obtain ⟨f1, f2, f3, f4, f5⟩ := hf
  refine meetsH [] tbROk mixed Tryz.func41 pl41 rfl rfl ?_
  simp [Tryz.ntmps41]
  refine (long_m s hf0).mono ?_
  rintro _ rfl
  cases hlg : long s
  case true =>
    simp
    exact vcRet_of [] (by simp [chk, hlg]) rfl
  simp
  refine (refRanges_m s hf0).mono ?_
  rintro _ rfl
  cases hr : ranges s
  case false =>
    simp
    exact vcRet_of [] (by simp [chk, hlg, hr]) rfl
  have hc : chk s = if s.locks.all formOk then 0 else 6 := by simp [chk, hlg, hr]
  simp
  refine vc_loop (fun n σ => ∃ k : Nat, n = s.locks.length - k ∧ k ≤ s.locks.length ∧ noneTo (fun l => !formOk l) s.locks k ∧ σ = ⟨51, [(3, .i k), (1, .ptr 1 0)], [(1, s.box)]⟩) ?_ ?_
  · exact ⟨_, _, ⟨0, rfl, Nat.zero_le _, noneTo_zero _ _, rfl⟩, [], _, rfl, by simp⟩
  rintro n σ ⟨k, rfl, hk, hn, rfl⟩
  by_cases hlt : k < s.locks.length
  case neg =>
    obtain rfl : k = s.locks.length := by omega
    simp
    exact vcRet_of [] (by simp [hc, noneTo_all hn fun _ => rfl]) rfl
  obtain ⟨x, hx, e⟩ := at_lt hlt
  have hxl := f4 x (List.mem_of_getElem? hx)
  have hbad : formOk x = false → chk s = 6 := fun h => by rw [hc, all_at hx h]; rfl
  by_cases hb : 0 < x.hold ∧ 0 < x.rd.length
  · simp [hlt, e, hb.1, hb.2]
    exact vcRet_of [] (by simp [hbad (by simp [formOk, hb.1, hb.2])]) rfl
  have hfo : formOk x = asc x.rd := by
    unfold formOk
    have : (decide (0 < x.hold) && decide (0 < x.rd.length)) = false := by
      rw [Bool.eq_false_iff]; simpa using hb
    rw [this]; rfl
  have asc0 : ∀ j : Nat, j ≤ 1 → ascTo x.rd j = true := fun j hj => by
    rcases j with _ | _ | j
    · rfl
    · rfl
    · omega
  have hcase : (0 < x.hold ∧ ¬ 0 < x.rd.length) ∨ ¬ 0 < x.hold := by omega
  rcases hcase with h1 | h1
  case' inl => simp [hlt, e, h1.1, h1.2]
  case' inr => simp [hlt, e, h1]
  all_goals
    refine vc_loop (fun n' σ => ∃ j : Nat, n' = x.rd.length + 1 - j ∧ 1 ≤ j ∧ j ≤ x.rd.length + 1 ∧ ascTo x.rd (min j x.rd.length) = true ∧ σ = ⟨51, [(5, .i j), (4, .ptr 4 0), (3, .i k), (1, .ptr 1 0)], [(4, .box 140 [.i x.hold, .d (il x.rd)]), (1, s.box)]⟩) ?_ ?_
    · exact ⟨_, _, ⟨1, rfl, Nat.le_refl _, by omega, asc0 _ (by omega), rfl⟩, [], _, rfl, by simp⟩
    rintro n' σ ⟨j, rfl, hj1, hj2, ha, rfl⟩
    by_cases hj : j < x.rd.length
    · obtain ⟨j, rfl⟩ : ∃ i, j = i + 1 := ⟨j - 1, by omega⟩
      obtain ⟨y, hy, ey⟩ := at_lt hj
      have hj3 : j < x.rd.length := by omega
      obtain ⟨z, hz, ez⟩ := at_lt hj3
      have hjj : (j : Int) + 1 < x.rd.length := by omega
      have hw : IntKind.i64.wrap (j : Int) = j := IntWalk.i64_in _ (by omega)
      have hw2 : IntKind.i64.wrap ((j : Int) + 1 + 1) = j + 1 + 1 := IntWalk.i64_in _ (by omega)
      have hnat : ((j : Int) + 1).toNat = j + 1 := by omega
      have h0 : (0 : Int) ≤ (j : Int) + 1 := by omega
      have hnext : ascTo x.rd (j + 1 + 1) = (ascTo x.rd (j + 1) && decide (z < y)) := by
        rw [ascTo]
        simp [List.getD_eq_getElem?_getD, hy, hz]
      rw [Nat.min_eq_left (by omega)] at ha
      by_cases hyz : y ≤ z
      · simp [hjj, h0, hw, hj3, hj, hnat, ez, ey, hyz]
        refine ⟨by kernel_rfl, ?_⟩
        refine vcRet_of [] ?_ rfl
        have : formOk x = false := by
          rw [hfo]
          cases hq : asc x.rd with
          | false => rfl
          | true =>
            have := ascTo_mono (show j + 1 + 1 ≤ x.rd.length by omega) (by rw [ascTo_len]; exact hq)
            rw [hnext, ha] at this
            simp at this
            omega
        simp [hbad this]
      · simp [hjj, h0, hw, hj3, hj, hnat, ez, ey, hyz, hw2]
        refine ⟨by kernel_rfl, ?_⟩
        refine ⟨_, ?_, _, ⟨j + 1 + 1, rfl, by omega, by omega, ?_, rfl⟩, [], _, rfl, by simp⟩
        · omega
        · rw [Nat.min_eq_left (by omega), hnext, ha]
          simp; omega
    · have hfk : formOk x = true := by
        rw [hfo, ← ascTo_len]
        rw [Nat.min_eq_right (by omega)] at ha
        exact ha
      simp [hj, wrap_suW hlt f1]
      refine ⟨_, ?_, _, ⟨k + 1, rfl, hlt, noneTo_succ hn hx (by simp [hfk]), rfl⟩, [], _, rfl, by simp⟩
      omega
theorem reads_m (l : Lk) (hl : l.rd.length < 4294967296) (t : Int) : Meets Tryz.prog 104 [l.pv, .i t] [] (Ret (.b (decide (t ∈ l.rd)))) := by
  refine meetsH [] tbROk mixed Tryz.func104 pl104 rfl rfl ?_
  simp [Tryz.ntmps104]
  refine vc_loop (fun n σ => ∃ k : Nat, n = l.rd.length - k ∧ k ≤ l.rd.length ∧ noneTo (fun y => decide (y = t)) l.rd k ∧ σ = ⟨20, [(5, .i k), (2, .ptr 2 0), (1, .i t)], [(2, .box 140 [.i l.hold, .d (il l.rd)])]⟩) ?_ ?_
  · exact ⟨_, _, ⟨0, rfl, Nat.zero_le _, noneTo_zero _ _, rfl⟩, [], _, rfl, by simp⟩
  rintro n σ ⟨k, rfl, hk, hn, rfl⟩
  by_cases hlt : k < l.rd.length
  · obtain ⟨x, hx, e⟩ := at_lt hlt
    by_cases h : x = t
    · subst h
      simp [hlt, e]
      exact vcRet_of [] (by simp [List.mem_of_getElem? hx]) rfl
    · simp [hlt, e, h, wrap_succ hlt hl]
      refine ⟨_, ?_, _, ⟨k + 1, rfl, hlt, noneTo_succ hn hx (by simp [h]), rfl⟩, [], _, rfl, by simp⟩
      omega
  obtain rfl : k = l.rd.length := by omega
  simp
  refine vcRet_of [] ?_ rfl
  have := noneTo_any hn
  have h9 : ¬ t ∈ l.rd := fun h => by
    have := List.any_eq_false.1 this t h
    simp at this
  simp [h9]
set_option maxHeartbeats 1000000 in
theorem known_m (s : Sy) (hf : Fits s) (lock t : Int) : Meets Tryz.prog 103 [s.pv, .i lock, .i t] [] (Ret (.i (known s lock t))) := by
  refine meetsH [] tbROk mixed Tryz.func103 pl103 rfl rfl ?_
  simp [Tryz.ntmps103]
  refine (refCheck_m s hf.wide).mono ?_
  rintro _ rfl
  by_cases hc : chk s = 0
  case neg =>
    simp [hc]
    refine vcRet_of [] ?_ rfl
    simp [known, hc]
  by_cases h1 : lock < 0
  · simp [hc, h1]
    refine vcRet_of [] ?_ rfl
    simp [known, hc, h1]
  by_cases h2 : (s.locks.length : Int) ≤ lock
  · simp [hc, h1, h2]
    refine vcRet_of [] ?_ rfl
    simp [known, hc, h2]
  simp [hc, h1, h2]
  refine (between_m t 1 200).mono ?_
  rintro _ rfl
  cases ht : inT t
  · have ht' : (decide (1 ≤ t) && decide (t ≤ 200)) = false := ht
    simp [ht']
    refine vcRet_of [] ?_ rfl
    simp [known, hc, h1, h2, ht]
  · have ht' : (decide (1 ≤ t) && decide (t ≤ 200)) = true := ht
    simp [ht']
    refine vcRet_of [] ?_ rfl
    simp [known, hc, h1, h2, ht]
set_option maxHeartbeats 1000000 in
theorem queue_m (s : Sy) (hf : Fits s) (n : Int) : Meets Tryz.prog 105 [s.pv, .i n] [] (Ret (.i (queueE s n))) := by
  refine meetsH [] tbROk mixed Tryz.func105 pl105 rfl rfl ?_
  simp [Tryz.ntmps105]
  refine (refCheck_m s hf.wide).mono ?_
  rintro _ rfl
  by_cases hc : chk s = 0
  case neg =>
    simp [hc]
    refine vcRet_of [] ?_ rfl
    simp [queueE, hc]
  by_cases h1 : n < 0
  · simp [hc, h1]
    refine vcRet_of [] ?_ rfl
    simp [queueE, hc, h1]
  by_cases h2 : (s.queues.length : Int) ≤ n
  · simp [hc, h1, h2]
    refine vcRet_of [] ?_ rfl
    simp [queueE, hc, h2]
  simp [hc, h1, h2]
  refine vcRet_of [] ?_ rfl
  simp [queueE, hc, h1, h2]
end Go.Proofs.YtplooifpgmlofaaGreat.Lo
namespace Go.Proofs.YtplooifpgmlofaaGreat.Lo
set_option maxRecDepth 100000
open Go.RowKit

@[simp] def nil3 : List PV := [.d (.v (.slice none 0 0)), .d (.v (.slice none 0 0)), .d (.v (.slice none 0 0))]
set_option maxRecDepth 100000 in
set_option maxHeartbeats 1600000 in
theorem copy_m (s : Sy) (hf : Fits s) : Meets Tryz.prog 54 [s.pv] [] (fun r => r = ⟨.agg [.rw 2000000 s.locks.length, .rw 2000001 s.queues.length, .rw 2000002 s.groups.length], [], [nestL s.locks s.locks.length, nestQ s.queues s.queues.length, .row 3 1 (s.groups.map ics) false]⟩) := by
  obtain ⟨f1, f2, f3, f4, f5⟩ := hf
  refine meetsP [(3, [.nest 5 [(1, 3)]]), (17, [.focus 5 3 []]), (15, [.shut 5]), (4, [.nest 30 [(1, 2)]]), (42, [.focus 30 4 []]), (40, [.shut 30])] tbROk mixed Tryz.func54 pl54 rfl rfl ?_
  simp [Tryz.ntmps54, Prep.run]
  refine ⟨f1, ?_⟩
  refine vc_loop (fun n σ => ∃ k : Nat, n = s.locks.length - k ∧ k ≤ s.locks.length ∧ σ = ⟨61, [(3, .i k), (1, .ptr 1 0), (2, .ptr 2 0)], [(1, .box 26 [.rw 5 s.locks.length, .d (qus s.queues), .d (il s.groups)]), (5, nestL s.locks k), (2, .box 26 nil3)]⟩) ?_ ?_
  · exact ⟨_, _, ⟨0, rfl, Nat.zero_le _, rfl⟩, [], _, rfl, by simp⟩
  rintro n σ ⟨k, rfl, hk, rfl⟩
  by_cases hlt : k < s.locks.length
  · obtain ⟨x, hx, e⟩ := at_lt hlt
    simp [hlt, e, Prep.run, setL s.locks hx, wrap_succ hlt f1]
    refine ⟨f4 x (List.mem_of_getElem? hx), by kernel_rfl, ?_⟩
    refine ⟨_, ?_, _, ⟨k + 1, rfl, hlt, rfl⟩, [], _, rfl, by simp [upTo_succ]⟩
    omega
  obtain rfl : k = s.locks.length := by omega
  simp [Prep.run]
  refine ⟨f2, ?_⟩
  refine vc_loop (fun n σ => ∃ k : Nat, n = s.queues.length - k ∧ k ≤ s.queues.length ∧ σ = ⟨61, [(4, .i k), (1, .ptr 1 0), (2, .ptr 2 0)], [(1, .box 26 [.rw 5 s.locks.length, .rw 30 s.queues.length, .d (il s.groups)]), (5, nestL s.locks s.locks.length), (30, nestQ s.queues k), (2, .box 26 nil3)]⟩) ?_ ?_
  · exact ⟨_, _, ⟨0, rfl, Nat.zero_le _, rfl⟩, [], _, rfl, by simp⟩
  rintro n σ ⟨k, rfl, hk, rfl⟩
  by_cases hlt : k < s.queues.length
  · obtain ⟨x, hx, e⟩ := at_lt hlt
    simp [hlt, e, Prep.run, setQ s.queues hx, wrap_succ hlt f2]
    refine ⟨f5 x (List.mem_of_getElem? hx), by kernel_rfl, ?_⟩
    refine ⟨_, ?_, _, ⟨k + 1, rfl, hlt, rfl⟩, [], _, rfl, by simp [upTo_succ]⟩
    omega
  obtain rfl : k = s.queues.length := by omega
  simp
  refine ⟨f3, ?_⟩
  refine vcRet_of [5, 30, 55] ?_ rfl
  simp
  exact ⟨rfl, rfl⟩
end Go.Proofs.YtplooifpgmlofaaGreat.Lo
namespace Go.Proofs.YtplooifpgmlofaaGreat.Lo
set_option maxRecDepth 100000
open Go.RowKit
set_option maxRecDepth 100000 in
set_option maxHeartbeats 1600000 in
theorem copyD_m (s : Sy) (hf : Fits s) : Meets Tryz.prog 54 [s.pv] [] (Ret s.pv) := by
  obtain ⟨f1, f2, f3, f4, f5⟩ := hf
  refine meetsP [(3, [.nest 5 [(1, 3)]]), (17, [.focus 5 3 []]), (15, [.shut 5]), (4, [.nest 30 [(1, 2)]]), (42, [.focus 30 4 []]), (40, [.shut 30])] tbROk mixed Tryz.func54 pl54 rfl rfl ?_
  simp [Tryz.ntmps54, Prep.run]
  refine ⟨f1, ?_⟩
  refine vc_loop (fun n σ => ∃ k : Nat, n = s.locks.length - k ∧ k ≤ s.locks.length ∧ σ = ⟨61, [(3, .i k), (1, .ptr 1 0), (2, .ptr 2 0)], [(1, .box 26 [.rw 5 s.locks.length, .d (qus s.queues), .d (il s.groups)]), (5, nestL s.locks k), (2, .box 26 nil3)]⟩) ?_ ?_
  · exact ⟨_, _, ⟨0, rfl, Nat.zero_le _, rfl⟩, [], _, rfl, by simp⟩
  rintro n σ ⟨k, rfl, hk, rfl⟩
  by_cases hlt : k < s.locks.length
  · obtain ⟨x, hx, e⟩ := at_lt hlt
    simp [hlt, e, Prep.run, setL s.locks hx, wrap_succ hlt f1]
    refine ⟨f4 x (List.mem_of_getElem? hx), by kernel_rfl, ?_⟩
    refine ⟨_, ?_, _, ⟨k + 1, rfl, hlt, rfl⟩, [], _, rfl, by simp [upTo_succ]⟩
    omega
  obtain rfl : k = s.locks.length := by omega
  simp [Prep.run]
  refine ⟨f2, ?_⟩
  refine vc_loop (fun n σ => ∃ k : Nat, n = s.queues.length - k ∧ k ≤ s.queues.length ∧ σ = ⟨61, [(4, .i k), (1, .ptr 1 0), (2, .ptr 2 0)], [(1, .box 26 [.rw 5 s.locks.length, .rw 30 s.queues.length, .d (il s.groups)]), (5, nestL s.locks s.locks.length), (30, nestQ s.queues k), (2, .box 26 nil3)]⟩) ?_ ?_
  · exact ⟨_, _, ⟨0, rfl, Nat.zero_le _, rfl⟩, [], _, rfl, by simp⟩
  rintro n σ ⟨k, rfl, hk, rfl⟩
  by_cases hlt : k < s.queues.length
  · obtain ⟨x, hx, e⟩ := at_lt hlt
    simp [hlt, e, Prep.run, setQ s.queues hx, wrap_succ hlt f2]
    refine ⟨f5 x (List.mem_of_getElem? hx), by kernel_rfl, ?_⟩
    refine ⟨_, ?_, _, ⟨k + 1, rfl, hlt, rfl⟩, [], _, rfl, by simp [upTo_succ]⟩
    omega
  obtain rfl : k = s.queues.length := by omega
  simp
  refine ⟨f3, ?_⟩
  refine vcRet_prep [.unnest 5, .unnest 30] [] (by simp [Prep.all, Prep.run]; rfl) ?_ rfl
  simp [List.take_of_length_le]
end Go.Proofs.YtplooifpgmlofaaGreat.Lo
namespace Go.Proofs.YtplooifpgmlofaaGreat.Lo
set_option maxRecDepth 100000
open Go.RowKit

theorem idx3 {p : Nat → Prop} (h0 : p 0) (h1 : p 1) (h2 : p 2) : ∀ i, i < 3 → p i := fun i hi => by
  have : i = 0 ∨ i = 1 ∨ i = 2 := by omega
  rcases this with rfl | rfl | rfl <;> assumption
set_option maxRecDepth 100000 in
set_option maxHeartbeats 2000000 in
theorem refLock_m (s : Sy) (hf : Fits s) (lock t : Int) : Meets Tryz.prog 89 [s.pv, .i lock, .i t] [] (Ret (.tup [(onLock s lock t (lockF t)).1.pv, .i (onLock s lock t (lockF t)).2])) := by
  have hf0 := hf
  obtain ⟨f1, f2, f3, f4, f5⟩ := hf
  refine meetsP [(46, [.focus 45 1 [(1, 900000)]]), (52, [.seenN 45 1, .close 45, .unnest 45, .unnest 10045])] tbROk mixed Tryz.func89 pl89 rfl rfl ?_
  simp [Tryz.ntmps89]
  refine (known_m s hf0 lock t).mono ?_
  rintro _ rfl
  by_cases hk : known s lock t = 0
  case neg =>
    simp [hk]
    refine vcRet_of [] ?_ rfl
    simp [onLock, hk]
  obtain ⟨g1, g2⟩ := known_lt hk
  have hlt : lock.toNat < s.locks.length := by omega
  obtain ⟨x, hx, e⟩ := at_lt hlt
  have hl := f4 x (List.mem_of_getElem? hx)
  by_cases h1 : x.hold = t
  · simp [hk, g1, g2, hlt, e, h1]
    refine vcRet_of [] ?_ rfl
    simp [onLock, hk, hx, lockF, hasT, h1]
  simp [hk, g1, g2, hlt, e, h1]
  refine (reads_m x hl t).mono ?_
  rintro _ rfl
  by_cases h2 : t ∈ x.rd
  · simp [h2]
    refine vcRet_of [] ?_ rfl
    simp [onLock, hk, hx, lockF, hasT, h2]
  have hh : hasT t x = false := by simp [hasT, h1, h2]
  by_cases h3 : 0 < x.hold
  · simp [h2, h3]
    refine vcRet_of [] ?_ rfl
    simp [onLock, hk, hx, lockF, hh, h3]
  by_cases h4 : 0 < x.rd.length
  · simp [h2, h3, h4]
    refine vcRet_of [] ?_ rfl
    simp [onLock, hk, hx, lockF, hh, h4]
  simp [h2, h3, h4]
  refine (copy_m s hf0).mono ?_
  rintro _ rfl
  simp [Prep.run, hlt, e, g1, g2]
  refine ⟨idx3 (by simp) (by simp) (by simp), ?_⟩
  refine vcRet_of [] ?_ rfl
  simp [onLock, hk, hx, lockF, hh, h3, h4, List.take_of_length_le]
set_option maxRecDepth 100000 in
set_option maxHeartbeats 2000000 in
theorem refUnlock_m (s : Sy) (hf : Fits s) (lock t : Int) : Meets Tryz.prog 90 [s.pv, .i lock, .i t] [] (Ret (.tup [(onLock s lock t (unlockF t)).1.pv, .i (onLock s lock t (unlockF t)).2])) := by
  have hf0 := hf
  obtain ⟨f1, f2, f3, f4, f5⟩ := hf
  refine meetsP [(29, [.focus 28 1 [(1, 900000)]]), (34, [.seenN 28 1, .close 28, .unnest 28, .unnest 10028])] tbROk mixed Tryz.func90 pl90 rfl rfl ?_
  simp [Tryz.ntmps90]
  refine (known_m s hf0 lock t).mono ?_
  rintro _ rfl
  by_cases hk : known s lock t = 0
  case neg =>
    simp [hk]
    refine vcRet_of [] ?_ rfl
    simp [onLock, hk]
  obtain ⟨g1, g2⟩ := known_lt hk
  have hlt : lock.toNat < s.locks.length := by omega
  obtain ⟨x, hx, e⟩ := at_lt hlt
  by_cases h1 : x.hold = t
  case neg =>
    simp [hk, g1, g2, hlt, e, h1]
    refine vcRet_of [] ?_ rfl
    simp [onLock, hk, hx, unlockF, h1]
  simp [hk, g1, g2, hlt, e, h1]
  refine (copy_m s hf0).mono ?_
  rintro _ rfl
  simp [Prep.run, hlt, e, g1, g2]
  refine ⟨idx3 (by simp) (by simp) (by simp), ?_⟩
  refine vcRet_of [] ?_ rfl
  simp [onLock, hk, hx, unlockF, h1, List.take_of_length_le]
set_option maxRecDepth 100000 in
set_option maxHeartbeats 2000000 in
theorem refShut_m (s : Sy) (hf : Fits s) (n : Int) : Meets Tryz.prog 95 [s.pv, .i n] [] (Ret (.tup [(onQueue s n shutF).1.pv, .i (onQueue s n shutF).2])) := by
  have hf0 := hf
  obtain ⟨f1, f2, f3, f4, f5⟩ := hf
  refine meetsP [(24, [.focus 10023 1 [(1, 900000)]]), (29, [.seenN 10023 1, .close 10023, .unnest 10023, .unnest 23])] tbROk mixed Tryz.func95 pl95 rfl rfl ?_
  simp [Tryz.ntmps95]
  refine (queue_m s hf0 n).mono ?_
  rintro _ rfl
  by_cases hk : queueE s n = 0
  case neg =>
    simp [hk]
    refine vcRet_of [] ?_ rfl
    simp [onQueue, hk]
  obtain ⟨g1, g2⟩ := queueE_lt hk
  have hlt : n.toNat < s.queues.length := by omega
  obtain ⟨x, hx, e⟩ := at_lt hlt
  cases h1 : x.shut
  case true =>
    simp [hk, g1, g2, hlt, e, h1]
    refine vcRet_of [] ?_ rfl
    simp [onQueue, hk, hx, shutF, h1]
  simp [hk, g1, g2, hlt, e, h1]
  refine (copy_m s hf0).mono ?_
  rintro _ rfl
  simp [Prep.run, hlt, e, g1, g2]
  refine ⟨idx3 (by simp) (by simp) (by simp), ?_⟩
  refine vcRet_of [] ?_ rfl
  simp [onQueue, hk, hx, shutF, h1, List.take_of_length_le]
set_option maxRecDepth 100000 in
set_option maxHeartbeats 2000000 in
theorem refAdd_m (s : Sy) (hf : Fits s) (n v : Int) : Meets Tryz.prog 96 [s.pv, .i n, .i v] [] (Ret (.tup [(addS s n v).1.pv, .i (addS s n v).2])) := by
  refine meetsP [(45, [.unnest 10044, .unnest 44])] tbROk mixed Tryz.func96 pl96 rfl rfl ?_
  simp [Tryz.ntmps96]
  refine (refCheck_m s hf.wide).mono ?_
  rintro _ rfl
  by_cases hc : chk s = 0
  case neg =>
    simp [hc]
    refine vcRet_of [] ?_ rfl
    simp [addS, groupE, hc]
  by_cases h1 : n < 0
  · simp [hc, h1]
    refine vcRet_of [] ?_ rfl
    simp [addS, groupE, hc, h1]
  by_cases h2 : (s.groups.length : Int) ≤ n
  · simp [hc, h1, h2]
    refine vcRet_of [] ?_ rfl
    simp [addS, groupE, hc, h2]
  have hlt : n.toNat < s.groups.length := by omega
  obtain ⟨x, hx, e⟩ := at_lt hlt
  have hr := chk_group hc (List.mem_of_getElem? hx)
  have hw1 : IntKind.i64.wrap (-x) = -x := IntWalk.i64_in _ (by omega)
  have hw2 : IntKind.i64.wrap (1000 - x) = 1000 - x := IntWalk.i64_in _ (by omega)
  have hk : groupE s n = 0 := by simp [groupE, hc, h1, h2]
  have g1 : 0 ≤ n := by omega
  have g2 : n < s.groups.length := by omega
  by_cases h3 : v < -x
  · simp [hc, h1, h2, g1, g2, hlt, e, hw1, h3]
    refine vcRet_of [] ?_ rfl
    simp [addS, hk, hx, h3]
  by_cases h4 : 1000 - x < v
  · simp [hc, h1, h2, g1, g2, hlt, e, hw1, hw2, h3, h4]
    refine vcRet_of [] ?_ rfl
    simp [addS, hk, hx, h4]
  have hw3 : IntKind.i64.wrap (x + v) = x + v := IntWalk.i64_in _ (by omega)
  simp [hc, h1, h2, g1, g2, hlt, e, hw1, hw2, h3, h4]
  refine (copy_m s hf).mono ?_
  rintro _ rfl
  simp [Prep.run, hlt, hw3, g1, g2]
  refine ⟨idx3 (by simp) (by simp) (by simp), ?_⟩
  refine vcRet_of [] ?_ rfl
  simp [addS, hk, hx, h3, h4, List.take_of_length_le]
end Go.Proofs.YtplooifpgmlofaaGreat.Lo
namespace Go.Proofs.YtplooifpgmlofaaGreat.Lo
set_option maxRecDepth 100000
open Go.RowKit

theorem filter_lower {t : Int} : ∀ {l : List Int}, asc l = true → t ∈ l → l.filter (fun y => !decide (y = t)) = l.eraseIdx (lower t l)
  | [], _, h => by cases h
  | y :: l, ha, h => by
    have hlt := asc_lt ha
    by_cases hy : y = t
    · subst hy
      have h0 : lower y (y :: l) = 0 := by simp [lower]
      have h1 : l.filter (fun z => !decide (z = y)) = l := List.filter_eq_self.2 fun z hz => by
        have := hlt z hz
        simp; omega
      rw [h0, List.filter_cons]
      simp [h1]
    · have hm : t ∈ l := by
        rcases List.mem_cons.1 h with h | h
        · exact absurd h.symm hy
        · exact h
      have h1 := hlt t hm
      have h0 : lower t (y :: l) = lower t l + 1 := by simp [lower, h1]
      rw [h0, List.filter_cons]
      simp [hy, filter_lower (asc_tail ha) hm]
set_option maxRecDepth 100000 in
set_option maxHeartbeats 2000000 in
theorem refSend_m (s : Sy) (hf : Fits s) (n v : Int) : Meets Tryz.prog 93 [s.pv, .i n, .i v] [] (Ret (.tup [(onQueue s n (sendF v)).1.pv, .i (onQueue s n (sendF v)).2])) := by
  have hf0 := hf
  obtain ⟨f1, f2, f3, f4, f5⟩ := hf
  refine meetsP [(41, [.focus 10040 1 [(1, 900000)]]), (55, [.seenN 10040 1, .close 10040, .unnest 10040, .unnest 40])] tbROk mixed Tryz.func93 pl93 rfl rfl ?_
  simp [Tryz.ntmps93]
  refine (queue_m s hf0 n).mono ?_
  rintro _ rfl
  by_cases hk : queueE s n = 0
  case neg =>
    simp [hk]
    refine vcRet_of [] ?_ rfl
    simp [onQueue, hk]
  obtain ⟨g1, g2⟩ := queueE_lt hk
  have hlt : n.toNat < s.queues.length := by omega
  obtain ⟨x, hx, e⟩ := at_lt hlt
  have hql := chk_queue (queueE_chk hk) (List.mem_of_getElem? hx)
  cases h1 : x.shut
  case true =>
    simp [hk, g1, g2, hlt, e, h1]
    refine vcRet_of [] ?_ rfl
    simp [onQueue, hk, hx, sendF, h1]
  by_cases h2 : (x.items.length : Int) = x.room
  · simp [hk, g1, g2, hlt, e, h1, h2]
    refine ⟨by kernel_rfl, ?_⟩
    refine vcRet_of [] ?_ rfl
    simp [onQueue, hk, hx, sendF, h1, h2]
  simp [hk, g1, g2, hlt, e, h1, h2]
  refine ⟨by kernel_rfl, ?_⟩
  refine (copy_m s hf0).mono ?_
  rintro _ rfl
  have hl2 : x.items.length + 1 < 4294967296 := by omega
  simp [Prep.run, hlt, e, g1, g2, hl2]
  refine ⟨idx3 (by simp) (by simp) (by simp), ?_⟩
  refine ⟨by kernel_rfl, ?_⟩
  refine vcRet_of [] ?_ rfl
  simp [onQueue, hk, hx, sendF, h1, h2, List.take_of_length_le]
set_option maxRecDepth 100000 in
set_option maxHeartbeats 2000000 in
theorem refRecv_m (s : Sy) (hf : Fits s) (n : Int) : Meets Tryz.prog 94 [s.pv, .i n] [] (Ret (.tup [(onQueue s n recvF).1.pv, .i (recvV s n), .b (recvB s n), .i (onQueue s n recvF).2])) := by
  have hf0 := hf
  obtain ⟨f1, f2, f3, f4, f5⟩ := hf
  refine meetsP [(33, [.focus 10032 1 [(1, 900000)]]), (43, [.seenN 10032 1, .close 10032, .unnest 10032, .unnest 32])] tbROk mixed Tryz.func94 pl94 rfl rfl ?_
  simp [Tryz.ntmps94]
  refine (queue_m s hf0 n).mono ?_
  rintro _ rfl
  by_cases hk : queueE s n = 0
  case neg =>
    simp [hk]
    refine vcRet_of [] ?_ rfl
    simp [onQueue, hk, recvV, recvB]
  obtain ⟨g1, g2⟩ := queueE_lt hk
  have hlt : n.toNat < s.queues.length := by omega
  obtain ⟨x, hx, e⟩ := at_lt hlt
  have hql := chk_queue (queueE_chk hk) (List.mem_of_getElem? hx)
  by_cases h0 : x.items.length = 0
  · have hn : x.items = [] := List.eq_nil_of_length_eq_zero h0
    cases h1 : x.shut
    · simp [hk, g1, g2, hlt, e, h1, hn]
      refine vcRet_of [] ?_ rfl
      simp [onQueue, hk, hx, recvF, h1, hn, recvV, recvB]
    · simp [hk, g1, g2, hlt, e, h1, hn]
      refine vcRet_of [] ?_ rfl
      simp [onQueue, hk, hx, recvF, h1, hn, recvV, recvB]
      have := setQ s.queues hx
      rw [hn, h1] at this
      simpa using this.symm
  obtain ⟨y, l, hl⟩ : ∃ y l, x.items = y :: l := by
    cases hi : x.items with
    | nil => rw [hi] at h0; exact absurd rfl h0
    | cons y l => exact ⟨y, l, rfl⟩
  have hll : l.length < 4294967296 := by rw [hl] at hql; simp at hql; omega
  have hne : ¬ ((l.length : Int) + 1 = 0) := by omega
  simp [hk, g1, g2, hlt, e, hl, hne]
  refine (copy_m s hf0).mono ?_
  rintro _ rfl
  simp [Prep.run, hlt, e, g1, g2, hll]
  refine ⟨idx3 (by simp) (by simp) (by simp), by omega, by kernel_rfl, ?_⟩
  refine ⟨by kernel_rfl, ?_⟩
  refine vcRet_of [] ?_ rfl
  simp [onQueue, hk, hx, recvF, hl, recvV, recvB, List.take_of_length_le]
set_option maxRecDepth 100000 in
set_option maxHeartbeats 2000000 in
theorem refRLock_m (s : Sy) (hf : Fits s) (lock t : Int) : Meets Tryz.prog 91 [s.pv, .i lock, .i t] [] (Ret (.tup [(onLock s lock t (rlockF t)).1.pv, .i (onLock s lock t (rlockF t)).2])) := by
  have hf0 := hf
  obtain ⟨f1, f2, f3, f4, f5⟩ := hf
  refine meetsP [(57, [.focus 40 1 [(1, 900000)]]), (76, [.seenN 40 1, .close 40, .unnest 40, .unnest 10040])] tbROk mixed Tryz.func91 pl91 rfl rfl ?_
  simp [Tryz.ntmps91]
  refine (known_m s hf0 lock t).mono ?_
  rintro _ rfl
  by_cases hk : known s lock t = 0
  case neg =>
    simp [hk]
    refine vcRet_of [] ?_ rfl
    simp [onLock, hk]
  obtain ⟨g1, g2⟩ := known_lt hk
  have hlt : lock.toNat < s.locks.length := by omega
  obtain ⟨x, hx, e⟩ := at_lt hlt
  have hl := f4 x (List.mem_of_getElem? hx)
  have hasc := chk_lock (known_chk hk) (List.mem_of_getElem? hx)
  by_cases h1 : x.hold = t
  · simp [hk, g1, g2, hlt, e, h1]
    refine vcRet_of [] ?_ rfl
    simp [onLock, hk, hx, rlockF, hasT, h1]
  simp [hk, g1, g2, hlt, e, h1]
  refine (reads_m x hl t).mono ?_
  rintro _ rfl
  by_cases h2 : t ∈ x.rd
  · simp [h2]
    refine vcRet_of [] ?_ rfl
    simp [onLock, hk, hx, rlockF, hasT, h2]
  have hh : hasT t x = false := by simp [hasT, h1, h2]
  by_cases h3 : 0 < x.hold
  · simp [h2, h3]
    refine vcRet_of [] ?_ rfl
    simp [onLock, hk, hx, rlockF, hh, h3]
  simp [h2, h3]
  refine (copy_m s hf0).mono ?_
  rintro _ rfl
  simp
  refine ⟨idx3 (by simp) (by simp) (by simp), ?_⟩
  refine vc_loop (fun m σ => ∃ k : Nat, m = x.rd.length - k ∧ k ≤ lower t x.rd ∧ σ = ⟨77, [(11, .i k), (9, .ptr 9 0), (10, .ptr 10 0), (6, .ptr 6 0), (1, .i lock), (2, .i t)], [(9, .box 140 [.i x.hold, .d (il x.rd)]), (10, .box 26 [.rw 40 s.locks.length, .rw 10040 s.queues.length, .rw 20040 s.groups.length]), (40, nestL s.locks s.locks.length), (10040, nestQ s.queues s.queues.length), (20040, .row 3 1 (s.groups.map ics) false), (6, .box 26 nil3)]⟩) ?_ ?_
  · exact ⟨_, _, ⟨0, rfl, Nat.zero_le _, rfl⟩, [], _, rfl, by simp⟩
  rintro m σ ⟨k, rfl, hk1, rfl⟩
  have hlo := lower_le t x.rd
  have hfin : (onLock s lock t (rlockF t)) = (⟨s.locks.set lock.toNat ⟨x.hold, putIn t x.rd⟩, s.queues, s.groups⟩, 0) := by
    simp [onLock, hk, hx, rlockF, hh, h3]
  have hdone : k = lower t x.rd → List.take k x.rd ++ t :: List.drop k x.rd = putIn t x.rd := fun e => by rw [e]; rfl
  by_cases hkl : k < x.rd.length
  · obtain ⟨y, hy, ey⟩ := at_lt hkl
    have hya := lower_at (v := t) hasc.1 hy
    by_cases hyt : y < t
    · simp [hkl, ey, hyt, wrap_succ hkl hl]
      refine ⟨_, ?_, _, ⟨k + 1, rfl, hya.1 hyt, rfl⟩, [], _, rfl, by simp⟩
      omega
    · have hke : k = lower t x.rd := by
        rcases Nat.lt_or_ge k (lower t x.rd) with h | h
        · exact absurd (hya.2 h) hyt
        · omega
      have hkk : k ≤ x.rd.length := by omega
      have hm2 : min k x.rd.length = k := by omega
      simp [hkl, ey, hyt, Prep.run, hlt, e, g1, g2, hkk, hm2]
      refine ⟨by omega, by omega, by omega, by kernel_rfl, ?_⟩
      refine vcRet_of [] ?_ rfl
      rw [hfin, ← hdone hke]
      simp [List.take_of_length_le, hm2]
  · have hke : k = lower t x.rd := by omega
    have hkk : k ≤ x.rd.length := by omega
    have hm2 : min k x.rd.length = k := by omega
    simp [hkl, Prep.run, hlt, e, g1, g2, hkk, hm2]
    refine ⟨by omega, by omega, by omega, by kernel_rfl, ?_⟩
    refine vcRet_of [] ?_ rfl
    rw [hfin, ← hdone hke]
    simp [List.take_of_length_le, hm2]
set_option maxRecDepth 100000 in
set_option maxHeartbeats 2000000 in
theorem refRUnlock_m (s : Sy) (hf : Fits s) (lock t : Int) : Meets Tryz.prog 92 [s.pv, .i lock, .i t] [] (Ret (.tup [(onLock s lock t (runlockF t)).1.pv, .i (onLock s lock t (runlockF t)).2])) := by
  have hf0 := hf
  obtain ⟨f1, f2, f3, f4, f5⟩ := hf
  refine meetsP [(30, [.focus 29 1 [(1, 900000)]]), (79, [.seenN 29 1, .close 29, .unnest 29, .unnest 10029])] tbROk mixed Tryz.func92 pl92 rfl rfl ?_
  simp [Tryz.ntmps92]
  refine (known_m s hf0 lock t).mono ?_
  rintro _ rfl
  by_cases hk : known s lock t = 0
  case neg =>
    simp [hk]
    refine vcRet_of [] ?_ rfl
    simp [onLock, hk]
  obtain ⟨g1, g2⟩ := known_lt hk
  have hlt : lock.toNat < s.locks.length := by omega
  obtain ⟨x, hx, e⟩ := at_lt hlt
  have hl := f4 x (List.mem_of_getElem? hx)
  have hasc := chk_lock (known_chk hk) (List.mem_of_getElem? hx)
  simp [hk, g1, g2, hlt, e]
  refine (reads_m x hl t).mono ?_
  rintro _ rfl
  by_cases h2 : t ∈ x.rd
  case neg =>
    simp [h2]
    refine vcRet_of [] ?_ rfl
    simp [onLock, hk, hx, runlockF, h2]
  simp [h2]
  refine (copy_m s hf0).mono ?_
  rintro _ rfl
  simp [Prep.run, hlt, e, g1, g2]
  refine ⟨idx3 (by simp) (by simp) (by simp), ?_⟩
  refine vc_loop (fun m σ => ∃ k : Nat, m = x.rd.length - k ∧ k ≤ x.rd.length ∧ σ = ⟨80, [(10, .i k), (9, .ptr 9 0), (6, .ptr 6 0), (3, .ptr 3 0), (1, .i lock), (2, .i t)], [(9, .box 26 [.rw 29 s.locks.length, .rw 10029 s.queues.length, .rw 20029 s.groups.length]), (29, .nest 140 2 (s.locks.map Lk.ds) (fun a => decide (a < s.locks.length)) [(1, 3)] (some (lock.toNat, [.i x.hold, .rw 900001 ((x.rd.take k).filter fun y => !decide (y = t)).length]))), (900001, .row 3 1 (((x.rd.take k).filter fun y => !decide (y = t)).map ics) false), (10029, nestQ s.queues s.queues.length), (20029, .row 3 1 (s.groups.map ics) false), (3, s.box), (6, .box 26 nil3)]⟩) ?_ ?_
  · exact ⟨_, _, ⟨0, rfl, Nat.zero_le _, rfl⟩, [.cellN 29 1 900001 3 1], _, rfl, by simp⟩
  rintro m σ ⟨k, rfl, hk1, rfl⟩
  have hlen : ((x.rd.take k).filter fun y => !decide (y = t)).length ≤ k := by
    have := List.length_filter_le (fun y => !decide (y = t)) (x.rd.take k)
    rw [List.length_take] at this
    omega
  by_cases hkl : k < x.rd.length
  · obtain ⟨y, hy, ey⟩ := at_lt hkl
    by_cases hyt : y = t
    · have h9 : (x.rd.take (k + 1)).filter (fun y => !decide (y = t)) = (x.rd.take k).filter fun y => !decide (y = t) := by simp [List.take_add_one, hy, hyt]
      simp [hkl, hlt, e, g1, g2, ey, hyt, wrap_succ hkl hl]
      refine ⟨_, ?_, _, ⟨k + 1, rfl, hkl, rfl⟩, [], _, rfl, by simp [h9]⟩
      omega
    · have h9 : (x.rd.take (k + 1)).filter (fun y => !decide (y = t)) = (x.rd.take k).filter (fun y => !decide (y = t)) ++ [y] := by simp [List.take_add_one, hy, hyt]
      simp [hkl, hlt, e, g1, g2, ey, hyt, wrap_succ hkl hl]
      refine ⟨by omega, by kernel_rfl, ?_⟩
      refine ⟨_, ?_, _, ⟨k + 1, rfl, hkl, rfl⟩, [], _, rfl, by simp [h9]⟩
      omega
  obtain rfl : k = x.rd.length := by omega
  simp [hlt, e, g1, g2, Prep.run]
  refine vcRet_of [] ?_ rfl
  simp [onLock, hk, hx, runlockF, h2, List.take_of_length_le, ← filter_lower hasc.1 h2]
end Go.Proofs.YtplooifpgmlofaaGreat.Lo
namespace Go.Proofs.YtplooifpgmlofaaGreat.Lo
set_option maxRecDepth 100000
open Go.RowKit

@[simp] def Wt.pv' (w : Wt) : PV := .agg [.i w.kind, .i w.obj, .i w.til]
set_option maxRecDepth 100000 in
set_option maxHeartbeats 4000000 in
theorem refThere0_m (s : Sy) (hf : Fits s) (hc : chk s = 0) (w : Wt) : Meets Tryz.prog 87 [s.pv, w.pv'] [] (Ret (.tup [.b (thereS s w).1, .i (thereS s w).2])) := by
  obtain ⟨f1, f2, f3, f4, f5⟩ := hf
  refine meetsH [] tbROk mixed Tryz.func87 pl87 rfl rfl ?_
  by_cases h3 : w.kind = 3
  · by_cases hb : ¬ w.til = 0 ∧ ¬ w.til = 1
    · obtain ⟨t0, t1⟩ := hb
      simp [Tryz.ntmps87, h3, t0, t1]
      refine vcRet_of [] ?_ rfl
      simp [thereS, hc, h3, t0, t1]
    have hb : w.til = 0 ∨ w.til = 1 := by omega
    rcases hb with t0 | t0
    all_goals
      by_cases o1 : w.obj < 0
      · simp [Tryz.ntmps87, h3, t0, o1]
        refine vcRet_of [] ?_ rfl
        simp [thereS, thereN, hc, h3, t0, o1]
      by_cases o2 : (s.locks.length : Int) ≤ w.obj
      · simp [Tryz.ntmps87, h3, t0, o1, o2]
        refine vcRet_of [] ?_ rfl
        simp [thereS, thereN, hc, h3, t0, o1, o2]
      have hlt : w.obj.toNat < s.locks.length := by omega
      obtain ⟨x, hx, e⟩ := at_lt hlt
      have g1 : 0 ≤ w.obj := by omega
      have g2 : w.obj < s.locks.length := by omega
      by_cases hh : x.hold = 0
      · simp [Tryz.ntmps87, h3, t0, o1, o2, hlt, e, g1, g2, hh]
        refine vcRet_of [] ?_ rfl
        simp [thereS, thereN, hc, h3, t0, o1, o2, hx, hh]
      · simp [Tryz.ntmps87, h3, t0, o1, o2, hlt, e, g1, g2, hh]
        refine vcRet_of [] ?_ rfl
        simp [thereS, thereN, hc, h3, t0, o1, o2, hx, hh]
  by_cases h6 : w.kind = 6
  · by_cases o1 : w.obj < 0
    · simp [Tryz.ntmps87, h6, o1]
      refine vcRet_of [] ?_ rfl
      simp [thereS, thereN, hc, h6, o1]
    by_cases o2 : (s.groups.length : Int) ≤ w.obj
    · simp [Tryz.ntmps87, h6, o1, o2]
      refine vcRet_of [] ?_ rfl
      simp [thereS, thereN, hc, h6, o1, o2]
    have hlt : w.obj.toNat < s.groups.length := by omega
    obtain ⟨x, hx, e⟩ := at_lt hlt
    have g1 : 0 ≤ w.obj := by omega
    have g2 : w.obj < s.groups.length := by omega
    simp [Tryz.ntmps87, h6, o1, o2, hlt, e, g1, g2]
    refine vcRet_of [] ?_ rfl
    simp [thereS, thereN, hc, h6, o1, o2, hx]
  by_cases h45 : w.kind = 4 ∨ w.kind = 5
  case neg =>
    obtain ⟨h4, h5⟩ : ¬ w.kind = 4 ∧ ¬ w.kind = 5 := by omega
    simp [Tryz.ntmps87, h3, h4, h5, h6]
    refine vcRet_of [] ?_ rfl
    simp [thereS, hc, h3, h4, h5, h6]
  by_cases o1 : w.obj < 0
  · rcases h45 with h | h <;> simp [Tryz.ntmps87, h, o1] <;> refine vcRet_of [] ?_ rfl <;> simp [thereS, thereN, hc, h, o1]
  by_cases o2 : (s.queues.length : Int) ≤ w.obj
  · rcases h45 with h | h <;> simp [Tryz.ntmps87, h, o1, o2] <;> refine vcRet_of [] ?_ rfl <;> simp [thereS, thereN, hc, h, o1, o2]
  have hlt : w.obj.toNat < s.queues.length := by omega
  obtain ⟨x, hx, e⟩ := at_lt hlt
  have g1 : 0 ≤ w.obj := by omega
  have g2 : w.obj < s.queues.length := by omega
  rcases h45 with h | h
  · cases hs : x.shut <;> simp [Tryz.ntmps87, h, o1, o2, hlt, e, g1, g2, hs] <;> refine vcRet_of [] ?_ rfl <;> simp [thereS, thereN, hc, h, o1, o2, hx, hs]
  · cases hs : x.shut
    all_goals
      simp [Tryz.ntmps87, h, o1, o2, hlt, e, g1, g2, hs]
      refine ⟨by kernel_rfl, ?_⟩
      refine vcRet_of [] ?_ rfl
      simp [thereS, thereN, hc, h, o1, o2, hx, hs]
end Go.Proofs.YtplooifpgmlofaaGreat.Lo
namespace Go.Proofs.YtplooifpgmlofaaGreat.Lo
set_option maxRecDepth 100000
def GoodL (l : Lk) : Prop := lkOk l = true ∧ formOk l = true
def GoodQ (q : Qu) : Prop := quOk q = true ∧ over q = false
theorem chk_iff {s : Sy} : chk s = 0 ↔ s.locks.length ≤ 16 ∧ s.queues.length ≤ 16 ∧ s.groups.length ≤ 16 ∧ (∀ l ∈ s.locks, GoodL l) ∧ (∀ q ∈ s.queues, GoodQ q) ∧ ∀ g ∈ s.groups, grOk g = true := by
  constructor
  · intro h
    obtain ⟨h1, h2, h3⟩ := chk_zero h
    unfold long at h1
    unfold ranges at h2
    simp only [Bool.or_eq_false_iff, decide_eq_false_iff_not, Bool.and_eq_true, List.all_eq_true, List.any_eq_false] at h1 h2 h3
    exact ⟨by omega, by omega, by omega, fun l hl => ⟨h2.1 l hl, h3 l hl⟩, fun q hq => ⟨h2.2.1 q hq, by simpa using h1.2 q hq⟩, h2.2.2⟩
  · rintro ⟨h1, h2, h3, h4, h5, h6⟩
    have a : long s = false := by
      unfold long
      simp only [Bool.or_eq_false_iff, decide_eq_false_iff_not, List.any_eq_false]
      exact ⟨⟨by omega, by omega, by omega⟩, fun q hq => by simp [(h5 q hq).2]⟩
    have b : ranges s = true := by
      unfold ranges
      simp only [Bool.and_eq_true, List.all_eq_true]
      exact ⟨fun l hl => (h4 l hl).1, fun q hq => (h5 q hq).1, h6⟩
    have c : s.locks.all formOk = true := by
      simp only [List.all_eq_true]
      exact fun l hl => (h4 l hl).2
    simp [chk, a, b, c]
theorem getD_mem {α : Type} {l : List α} {k : Nat} {d : α} (h : k < l.length) : l.getD k d ∈ l := by
  rw [List.getD_eq_getElem?_getD, List.getElem?_eq_getElem h]; exact List.getElem_mem h
theorem chk_onLock {s : Sy} (h : chk s = 0) {lock t : Int} {F : Lk → Int × Lk} (hF : ∀ l, inT t = true → GoodL l → (F l).1 = 0 → GoodL (F l).2) : chk (onLock s lock t F).1 = 0 := by
  unfold onLock
  split
  · exact h
  · rename_i hk
    have hk : known s lock t = 0 := by simpa using hk
    split
    · exact h
    · rename_i h0
      obtain ⟨g1, g2⟩ := known_lt hk
      have ht : inT t = true := by
        unfold known at hk
        rw [if_neg (by simpa using h), if_neg (by omega)] at hk
        split at hk
        · assumption
        · cases hk
      obtain ⟨a1, a2, a3, a4, a5, a6⟩ := chk_iff.1 h
      refine chk_iff.2 ⟨by simpa using a1, a2, a3, fun l hl => ?_, a5, a6⟩
      rcases List.mem_or_eq_of_mem_set hl with hl | rfl
      · exact a4 l hl
      · exact hF _ ht (a4 _ (getD_mem (by omega))) (by simpa using h0)
theorem chk_onQueue {s : Sy} (h : chk s = 0) {n : Int} {F : Qu → Int × Qu} (hF : ∀ q, GoodQ q → (F q).1 = 0 → GoodQ (F q).2) : chk (onQueue s n F).1 = 0 := by
  unfold onQueue
  split
  · exact h
  · rename_i hk
    have hk : queueE s n = 0 := by simpa using hk
    split
    · exact h
    · rename_i h0
      obtain ⟨g1, g2⟩ := queueE_lt hk
      obtain ⟨a1, a2, a3, a4, a5, a6⟩ := chk_iff.1 h
      refine chk_iff.2 ⟨a1, by simpa using a2, a3, a4, fun q hq => ?_, a6⟩
      rcases List.mem_or_eq_of_mem_set hq with hl | rfl
      · exact a5 q hl
      · exact hF _ (a5 _ (getD_mem (by omega))) (by simpa using h0)
theorem chk_addS {s : Sy} (h : chk s = 0) {n v : Int} : chk (addS s n v).1 = 0 := by
  unfold addS
  split
  · exact h
  · rename_i hk
    split
    · exact h
    · rename_i h0
      have hk : groupE s n = 0 := by simpa using hk
      have hn : 0 ≤ n ∧ n < s.groups.length := by
        unfold groupE at hk
        rw [if_neg (by simpa using h)] at hk
        split at hk
        · cases hk
        · omega
      obtain ⟨a1, a2, a3, a4, a5, a6⟩ := chk_iff.1 h
      refine chk_iff.2 ⟨a1, a2, by simpa using a3, a4, a5, fun g hg => ?_⟩
      rcases List.mem_or_eq_of_mem_set hg with hl | rfl
      · exact a6 g hl
      · have := a6 _ (getD_mem (d := 0) (show n.toNat < s.groups.length by omega))
        unfold grOk at this ⊢
        simp only [Bool.and_eq_true, decide_eq_true_eq] at this ⊢
        omega
theorem good_lock {t : Int} {l : Lk} (ht : inT t = true) (h : (lockF t l).1 = 0) : GoodL (lockF t l).2 := by
  unfold lockF at h ⊢
  split at h
  · cases h
  · rename_i h1
    rw [if_neg h1]
    split at h
    · cases h
    · rename_i h2
      rw [if_neg h2]
      have hr : l.rd = [] := List.length_eq_zero_iff.1 (by omega)
      refine ⟨?_, ?_⟩
      · simp [lkOk, ht, hr]
      · simp [formOk, hr, asc]
theorem good_unlock {t : Int} {l : Lk} (hg : GoodL l) (h : (unlockF t l).1 = 0) : GoodL (unlockF t l).2 := by
  unfold unlockF at h ⊢
  split at h
  · rename_i h1
    rw [if_pos h1]
    obtain ⟨a, b⟩ := hg
    unfold lkOk at a
    unfold formOk at b
    simp only [Bool.and_eq_true] at a b
    refine ⟨by simp [lkOk] ; simpa using a.2, by simp [formOk, b.2]⟩
  · cases h
theorem asc_tl {x : Int} {l : List Int} (h : asc (x :: l) = true) : asc l = true := by
  cases l with
  | nil => rfl
  | cons y r => simp only [asc, Bool.and_eq_true] at h; exact h.2
theorem asc_hd {x : Int} {l : List Int} (h : asc (x :: l) = true) : ∀ y ∈ l, x < y := by
  induction l generalizing x with
  | nil => intro y hy; cases hy
  | cons z r ih =>
    intro y hy
    simp only [asc, Bool.and_eq_true, decide_eq_true_eq] at h
    rcases List.mem_cons.1 hy with rfl | hy
    · exact h.1
    · have := ih h.2 y hy; omega
theorem asc_cons {x : Int} {l : List Int} (h : asc l = true) (h2 : ∀ y ∈ l, x < y) : asc (x :: l) = true := by
  cases l with
  | nil => rfl
  | cons y r => simp only [asc, Bool.and_eq_true, decide_eq_true_eq]; exact ⟨h2 y (by simp), h⟩
theorem putIn_cons {t x : Int} {l : List Int} : putIn t (x :: l) = if x < t then x :: putIn t l else t :: x :: l := by
  unfold putIn lower
  by_cases h : x < t
  · simp [h]
  · simp [h]
theorem putIn_mem {t : Int} : ∀ {l : List Int} {y : Int}, y ∈ putIn t l ↔ y = t ∨ y ∈ l
  | [], y => by simp [putIn, lower]
  | x :: l, y => by
    rw [putIn_cons]
    split
    · rw [List.mem_cons, putIn_mem, List.mem_cons]
      constructor
      · rintro (h | h | h) <;> simp [h]
      · rintro (h | h | h) <;> simp [h]
    · simp
theorem asc_putIn {t : Int} : ∀ {l : List Int}, asc l = true → t ∉ l → asc (putIn t l) = true
  | [], _, _ => rfl
  | x :: l, h, hn => by
    rw [putIn_cons]
    simp only [List.mem_cons, not_or] at hn
    split
    · refine asc_cons (asc_putIn (asc_tl h) hn.2) fun y hy => ?_
      rcases putIn_mem.1 hy with rfl | hy
      · assumption
      · exact asc_hd h y hy
    · refine asc_cons h fun y hy => ?_
      rcases List.mem_cons.1 hy with rfl | hy
      · omega
      · have := asc_hd h y hy; omega
theorem asc_erase : ∀ {l : List Int} (k : Nat), asc l = true → asc (l.eraseIdx k) = true
  | [], _, _ => rfl
  | _ :: _, 0, h => asc_tl h
  | _ :: _, k + 1, h => asc_cons (asc_erase k (asc_tl h)) fun y hy => asc_hd h y (List.mem_of_mem_eraseIdx hy)
theorem good_rlock {t : Int} {l : Lk} (ht : inT t = true) (hg : GoodL l) (h : (rlockF t l).1 = 0) : GoodL (rlockF t l).2 := by
  unfold rlockF at h ⊢
  split at h
  · cases h
  · rename_i h1
    rw [if_neg h1]
    split at h
    · cases h
    · rename_i h2
      rw [if_neg h2]
      obtain ⟨a, b⟩ := hg
      unfold lkOk at a
      unfold formOk at b
      simp only [Bool.and_eq_true, List.all_eq_true] at a b
      unfold hasT at h1
      simp only [Bool.or_eq_true, decide_eq_true_eq, not_or] at h1
      refine ⟨?_, ?_⟩
      · unfold lkOk
        simp only [Bool.and_eq_true, List.all_eq_true]
        refine ⟨a.1, fun x hx => ?_⟩
        rcases putIn_mem.1 hx with rfl | hx
        · exact ht
        · exact a.2 x hx
      · unfold formOk
        simp [h2, asc_putIn b.2 h1.2]
theorem good_runlock {t : Int} {l : Lk} (hg : GoodL l) (h : (runlockF t l).1 = 0) : GoodL (runlockF t l).2 := by
  unfold runlockF at h ⊢
  split at h
  · rename_i h1
    rw [if_pos h1]
    obtain ⟨a, b⟩ := hg
    unfold lkOk at a
    unfold formOk at b
    simp only [Bool.and_eq_true, List.all_eq_true] at a b
    refine ⟨?_, ?_⟩
    · unfold lkOk
      simp only [Bool.and_eq_true, List.all_eq_true]
      exact ⟨a.1, fun x hx => a.2 x (List.mem_of_mem_eraseIdx hx)⟩
    · unfold formOk
      simp only [Bool.and_eq_true]
      refine ⟨?_, asc_erase _ b.2⟩
      have := b.1
      have hl := List.length_eraseIdx_le (l := l.rd) (i := lower t l.rd)
      have h5 := List.length_pos_of_mem h1
      simp only [Bool.not_eq_true', Bool.and_eq_false_iff, decide_eq_false_iff_not] at this ⊢
      omega
  · cases h
theorem good_send {v : Int} {q : Qu} (hg : GoodQ q) (h : (sendF v q).1 = 0) : GoodQ (sendF v q).2 := by
  unfold sendF at h ⊢
  split at h
  · cases h
  · rename_i h1
    rw [if_neg h1]
    split at h
    · cases h
    · rename_i h2
      rw [if_neg h2]
      obtain ⟨a, b⟩ := hg
      refine ⟨a, ?_⟩
      unfold over at b ⊢
      simp only [decide_eq_false_iff_not] at b ⊢
      simp only [List.length_append, List.length_cons, List.length_nil]
      omega
theorem good_recv {q : Qu} (hg : GoodQ q) : GoodQ (recvF q).2 := by
  unfold recvF
  split
  · obtain ⟨a, b⟩ := hg
    refine ⟨a, ?_⟩
    unfold over at b ⊢
    have := List.length_eraseIdx_le (l := q.items) (i := 0)
    simp only [decide_eq_false_iff_not] at b ⊢
    omega
  · split <;> exact hg
theorem good_shut {q : Qu} (hg : GoodQ q) : GoodQ (shutF q).2 := by
  unfold shutF
  split <;> exact hg
theorem chk_lockS {s : Sy} (h : chk s = 0) {n t : Int} : chk (onLock s n t (lockF t)).1 = 0 := chk_onLock h fun _ ht _ h0 => good_lock ht h0
theorem chk_unlockS {s : Sy} (h : chk s = 0) {n t : Int} : chk (onLock s n t (unlockF t)).1 = 0 := chk_onLock h fun _ _ hg h0 => good_unlock hg h0
theorem chk_rlockS {s : Sy} (h : chk s = 0) {n t : Int} : chk (onLock s n t (rlockF t)).1 = 0 := chk_onLock h fun _ ht hg h0 => good_rlock ht hg h0
theorem chk_runlockS {s : Sy} (h : chk s = 0) {n t : Int} : chk (onLock s n t (runlockF t)).1 = 0 := chk_onLock h fun _ _ hg h0 => good_runlock hg h0
end Go.Proofs.YtplooifpgmlofaaGreat.Lo
