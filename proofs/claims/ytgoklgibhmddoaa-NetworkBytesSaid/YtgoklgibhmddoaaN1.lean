/- Contracts: network 1. No condition. -/
import Derived.Test.YtgoklgibhmddoaaTab
import Derived.Test.YtgoklgibhmddoaaV22
import Derived.Test.YtgoklgibhmddoaaV25
namespace Go.Proofs.Ytgoklgibhmddoaa

structure Pl where
  fail : Int
  delay : Int
  window : Int
deriving DecidableEq
instance : Inhabited Pl := ⟨⟨0, 0, 0⟩⟩
structure Pc where
  time : Int
  bytes : List Int
deriving DecidableEq
instance : Inhabited Pc := ⟨⟨0, []⟩⟩
/-- A direction: the pieces on the way, what has arrived, the end on the way, the end that has arrived, the time of the first. -/
structure Dr where
  ps : List Pc
  ar : List Int
  e : Int
  d : Int
  t : Int
deriving DecidableEq
instance : Inhabited Dr := ⟨⟨[], [], 0, 0, 0⟩⟩
structure Cn where
  id : Int
  backend : Int
  status : Int
  born : Int
  ready : Int
  sent : Int
  up : Dr
  dn : Dr
deriving DecidableEq
instance : Inhabited Cn := ⟨⟨0, 0, 0, 0, 0, 0, default, default⟩⟩
structure Nw where
  now : Int
  next : Int
  plans : List Pl
  conns : List Cn
deriving DecidableEq
def noNw : Nw := ⟨0, 0, [], []⟩

def inR (n a b : Int) : Bool := decide (a ≤ n) && decide (n ≤ b)
def plOk (p : Pl) : Bool := inR p.fail 0 2 && (inR p.delay 0 100000 && inR p.window 1 65536)
/-- How many bytes are on the way. -/
def fly : List Pc → Nat
  | [] => 0
  | p :: r => p.bytes.length + fly r
theorem fly_app (l r : List Pc) : fly (l ++ r) = fly l + fly r := by
  induction l with
  | nil => simp [fly]
  | cons p l ih => simp [fly, ih]; omega
theorem fly_take {l : List Pc} {k : Nat} {p : Pc} (h : l[k]? = some p) : fly (l.take (k + 1)) = fly (l.take k) + p.bytes.length := by
  rw [List.take_add_one, h, fly_app]; simp [fly]
theorem fly_le (l : List Pc) (k : Nat) : fly (l.take k) ≤ fly l := by
  have h := fly_app (l.take k) (l.drop k)
  rw [List.take_append_drop] at h
  omega
theorem fly_mem {l : List Pc} {p : Pc} (h : p ∈ l) : p.bytes.length ≤ fly l := by
  induction l with
  | nil => cases h
  | cons q l ih =>
    rcases List.mem_cons.1 h with rfl | h
    · simp [fly]
    · have := ih h
      simp [fly]; omega
def Dr.n (d : Dr) : Nat := fly d.ps + d.ar.length
def Dr.quiet (d : Dr) : Bool := decide (d.n = 0) && (decide (d.ps.length = 0) && (decide (d.e = 0) && decide (d.d = 0)))
def timeOk (n : Int) : Bool := inR n 0 1000000000000
def Dr.ranges (d : Dr) : Bool := d.ps.all (fun p => timeOk p.time) && (inR d.e 0 2 && (inR d.d 0 2 && timeOk d.t))
/-- The times do not fall; when the last piece arrives. -/
def ordTo (b : Int) : List Pc → Bool
  | [] => true
  | p :: r => decide (0 < p.bytes.length) && (decide (b ≤ p.time) && ordTo p.time r)
def lastOf (b : Int) : List Pc → Int
  | [] => b
  | p :: r => lastOf p.time r
def Dr.formed (d : Dr) (ne born : Int) : Bool :=
  ordTo born d.ps && (!(decide (d.t < if d.e = 0 then 0 else lastOf born d.ps) || (decide (d.e = 0) && decide (d.t ≠ 0)) || decide (d.e = ne) || decide (d.d = ne)) && (decide (d.d = 0) || (decide (d.ps.length = 0) && decide (d.e = 0))))
def never : Int := 1000000000001
def cnRanges (s : Nw) (c : Cn) : Bool :=
  inR c.id 1 (s.next - 1) && (inR c.backend 0 (s.plans.length - 1) && (inR c.status 0 3 && (timeOk c.born && (inR c.ready 0 never && (inR c.sent 0 1000000000000000 && (c.up.ranges && c.dn.ranges))))))
def ranges (s : Nw) : Bool := s.plans.all plOk && (timeOk s.now && (inR s.next 1 1000000000000000 && s.conns.all (cnRanges s)))
def cnFormed (c : Cn) : Bool :=
  c.up.formed 2 c.born && (c.dn.formed (-1) c.born && (!(decide (c.dn.d = 2) && decide (0 < c.dn.ar.length)) && (!decide (c.sent < c.up.n) &&
  if c.status = 1 then decide (c.up.e = 0) && decide (c.up.d = 0) else if c.status = 3 then c.dn.quiet else c.up.quiet && (c.dn.quiet && decide (c.sent = 0)))))
def idsTo (b : Int) (now : Int) : List Cn → Bool
  | [] => true
  | c :: r => decide (b < c.id) && (decide (c.born ≤ now) && (cnFormed c && idsTo c.id now r))
def longC (c : Cn) : Bool := decide (1048576 < c.up.n) || decide (1048576 < c.dn.n)
def chk (s : Nw) : Int :=
  if 16 < s.plans.length ∨ 500 < s.conns.length then 3 else if s.conns.any longC then 3 else if !ranges s then 7 else if idsTo 0 s.now s.conns then 0 else 6
/-- The lists are such as lie in memory. -/
def Dr.Fits (d : Dr) : Prop := d.n < 4294967296 ∧ d.ps.length < 4294967296
def Fits (s : Nw) : Prop := s.plans.length < 4294967296 ∧ s.conns.length < 4294967296 ∧ ∀ c ∈ s.conns, c.up.Fits ∧ c.dn.Fits
/-- When what is told now arrives. -/
def Dr.last (d : Dr) (now by_ : Int) : Int := let at_ := min (now + by_) 1000000000000; match d.ps.getLast? with
  | some p => max at_ p.time
  | none => at_
def Dr.due (d : Dr) : Int := match d.ps with
  | p :: _ => p.time
  | [] => if d.e ≠ 0 then d.t else never
def idx {α : Type} (p : α → Bool) : List α → Int → Int
  | [], _ => -1
  | x :: xs, k => if p x then k else idx p xs (k + 1)
theorem idx_any {α : Type} (p : α → Bool) : ∀ (xs : List α) (k : Int), 0 ≤ k → (0 ≤ idx p xs k ↔ xs.any p = true)
  | [], k, _ => by simp [idx]
  | x :: xs, k, h => by
    unfold idx
    cases hp : p x
    · simp [hp, idx_any p xs (k + 1) (by omega)]
    · simp [hp, h]
def noneTo {α : Type} (p : α → Bool) (xs : List α) (k : Nat) : Prop := ∀ i y, i < k → xs[i]? = some y → p y = false
theorem noneTo_zero {α : Type} (p : α → Bool) (xs : List α) : noneTo p xs 0 := fun _ _ h => absurd h (by omega)
theorem noneTo_succ {α : Type} {p : α → Bool} {xs : List α} {k : Nat} {x : α} (h : noneTo p xs k) (hx : xs[k]? = some x) (hp : p x = false) : noneTo p xs (k + 1) := fun i y hi hy => by
  by_cases hik : i = k
  · subst hik; rw [hx] at hy; cases hy; exact hp
  · exact h i y (by omega) hy
theorem idx_hit0 {α : Type} (p : α → Bool) : ∀ (xs : List α) (k : Nat) (x : α) (o : Int), xs[k]? = some x → p x = true → noneTo p xs k → idx p xs o = o + k
  | [], k, x, o, hx, _, _ => by simp at hx
  | y :: ys, 0, x, o, hx, hp, _ => by cases hx; simp [idx, hp]
  | y :: ys, k + 1, x, o, hx, hp, hn => by
    have h0 := hn 0 y (by omega) rfl
    unfold idx
    rw [h0]
    simp only [Bool.false_eq_true, if_false]
    rw [idx_hit0 p ys k x (o + 1) (by simpa using hx) hp fun i z hi hz => hn (i + 1) z (by omega) (by simpa using hz)]
    omega
theorem idx_hit {α : Type} (p : α → Bool) (xs : List α) (k : Nat) (x : α) (hx : xs[k]? = some x) (hp : p x = true) (hn : noneTo p xs k) : idx p xs 0 = k := by
  rw [idx_hit0 p xs k x 0 hx hp hn]; omega
theorem idx_miss {α : Type} (p : α → Bool) : ∀ (xs : List α) {o : Int}, noneTo p xs xs.length → idx p xs o = -1
  | [], _, _ => rfl
  | y :: ys, o, hn => by
    unfold idx
    rw [hn 0 y (by simp) rfl]
    simp only [Bool.false_eq_true, if_false]
    exact idx_miss p ys fun i z hi hz => hn (i + 1) z (by simpa using hi) (by simpa using hz)
theorem noneTo_any {α : Type} {p : α → Bool} {xs : List α} (h : noneTo p xs xs.length) : xs.any p = false := by
  rw [List.any_eq_false]
  intro x hx
  obtain ⟨i, hi⟩ := List.getElem?_of_mem hx
  rw [h i x (List.getElem?_eq_some_iff.1 hi).1 hi]; simp
theorem any_at {α : Type} {p : α → Bool} {xs : List α} {i : Nat} {x : α} (hx : xs[i]? = some x) (hp : p x = true) : xs.any p = true := List.any_eq_true.2 ⟨x, List.mem_of_getElem? hx, hp⟩
theorem all_not {α : Type} {p q : α → Bool} {xs : List α} (h : ∀ x, q x = !p x) : xs.all q = !xs.any p := by
  induction xs with
  | nil => rfl
  | cons x xs ih => simp [ih, h]
theorem all_at {α : Type} {p : α → Bool} {xs : List α} {i : Nat} {x : α} (hx : xs[i]? = some x) (hp : p x = false) : xs.all p = false := by
  rw [List.all_eq_false]
  exact ⟨x, List.mem_of_getElem? hx, by simp [hp]⟩
theorem noneTo_all {α : Type} {p q : α → Bool} {xs : List α} (h : noneTo q xs xs.length) (hq : ∀ x, q x = !p x) : xs.all p = true := by
  rw [List.all_eq_true]
  intro x hx
  obtain ⟨i, hi⟩ := List.getElem?_of_mem hx
  have := h i x (List.getElem?_eq_some_iff.1 hi).1 hi
  rw [hq] at this
  simpa using this
end Go.Proofs.Ytgoklgibhmddoaa
namespace Go.Proofs.Ytgoklgibhmddoaa
open Go.RowKit
set_option maxRecDepth 100000

theorem at_lt {α : Type} {xs : List α} {k : Nat} (h : k < xs.length) : ∃ x, xs[k]? = some x ∧ xs[k] = x := ⟨_, List.getElem?_eq_getElem h, rfl⟩
theorem wrap_succ {k n : Nat} (h : k < n) (hn : n < 4294967296) : IntKind.i64.wrap ((k : Int) + 1) = (k : Int) + 1 := IntWalk.i64_in _ (by omega)
@[simp] def ics (n : Int) : List D := [.v (.int .i64 n)]
@[simp] def u8s (n : Int) : List D := [.v (.int .u8 n)]
@[simp] def bs (l : List Int) : D := .sl 1 (l.map u8s)
@[simp] def Pc.ds (p : Pc) : List D := [.v (.int .i64 p.time), bs p.bytes]
@[simp] def pcs (l : List Pc) : D := .sl 2 (l.map Pc.ds)
@[simp] def Pl.ds (p : Pl) : List D := [.v (.int .i64 p.fail), .v (.int .i64 p.delay), .v (.int .i64 p.window)]
@[simp] def Pl.pv (p : Pl) : PV := .agg [.i p.fail, .i p.delay, .i p.window]
@[simp] def pls (l : List Pl) : D := .sl 3 (l.map Pl.ds)
def Cn.ds (c : Cn) : List D := [.v (.int .i64 c.id), .v (.int .i64 c.backend), .v (.int .i64 c.status), .v (.int .i64 c.born), .v (.int .i64 c.ready), .v (.int .i64 c.sent),
  pcs c.up.ps, pcs c.dn.ps, bs c.up.ar, bs c.dn.ar, .v (.int .i64 c.up.e), .v (.int .i64 c.dn.e), .v (.int .i64 c.up.t), .v (.int .i64 c.dn.t), .v (.int .i64 c.up.d), .v (.int .i64 c.dn.d)]
@[simp] theorem Cn.ds_map (c : Cn) : List.map PV.d c.ds = [.d (.v (.int .i64 c.id)), .d (.v (.int .i64 c.backend)), .d (.v (.int .i64 c.status)), .d (.v (.int .i64 c.born)), .d (.v (.int .i64 c.ready)), .d (.v (.int .i64 c.sent)), .d (pcs c.up.ps), .d (pcs c.dn.ps), .d (bs c.up.ar), .d (bs c.dn.ar), .d (.v (.int .i64 c.up.e)), .d (.v (.int .i64 c.dn.e)), .d (.v (.int .i64 c.up.t)), .d (.v (.int .i64 c.dn.t)), .d (.v (.int .i64 c.up.d)), .d (.v (.int .i64 c.dn.d))] := rfl
@[simp] theorem Cn.ds_len (c : Cn) : c.ds.length = 16 := rfl
@[simp] def cns (l : List Cn) : D := .sl 16 (l.map Cn.ds)
@[simp] def Nw.pv (s : Nw) : PV := .agg [.i s.now, .i s.next, .d (pls s.plans), .d (cns s.conns)]
@[simp] def Nw.box (s : Nw) : MObj := .box 25 [.i s.now, .i s.next, .d (pls s.plans), .d (cns s.conns)]
/-- The directions, by pointers into a connection that is read. -/
@[simp] def upW (r : List D) : PV := .agg [.ep r 6, .ep r 8, .ep r 10, .ep r 14, .ep r 12, .i 3, .i 2]
@[simp] def dnW (r : List D) : PV := .agg [.ep r 7, .ep r 9, .ep r 11, .ep r 15, .ep r 13, .i 4, .i (-1)]
@[simp] def waysW (r : List D) : PV := .agg [.ep r 6, .ep r 8, .ep r 10, .ep r 14, .ep r 12, .i 3, .i 2, .ep r 7, .ep r 9, .ep r 11, .ep r 15, .ep r 13, .i 4, .i (-1)]

theorem inL_m (n a b : Int) : Meets Try.prog 35 [.i n, .i a, .i b] [] (Ret (.b (inR n a b))) := by
  refine meetsH [] tbOk mixed Try.func35 pl35 rfl rfl ?_
  by_cases h : a ≤ n
  · simp [Try.ntmps35, h]
    refine vcRet_of [] ?_ rfl
    simp [inR, h]
  · simp [Try.ntmps35, h]
    refine vcRet_of [] ?_ rfl
    simp [inR, h]
theorem inI_m (n a b : Int) : Meets Try.prog 78 [.i n, .i a, .i b] [] (Ret (.b (inR n a b))) := by
  refine meetsH [] tbOk mixed Try.func78 pl78 rfl rfl ?_
  by_cases h : a ≤ n
  · simp [Try.ntmps78, h]
    refine vcRet_of [] ?_ rfl
    simp [inR, h]
  · simp [Try.ntmps78, h]
    refine vcRet_of [] ?_ rfl
    simp [inR, h]
theorem ways_m (r : List D) : Meets Try.prog 31 [.ep r 0] [] (Ret (waysW r)) := by
  refine meetsH [] tbOk mixed Try.func31 pl31 rfl rfl ?_
  simp [Try.ntmps31]
  refine ⟨by kernel_rfl, ?_⟩
  refine vcRet_of [] ?_ rfl
  simp
end Go.Proofs.Ytgoklgibhmddoaa
namespace Go.Proofs.Ytgoklgibhmddoaa
open Go.RowKit
set_option maxRecDepth 100000

theorem cloneB_m (l : List Int) (hl : l.length < 4294967296) : Meets Try.prog 46 [.d (bs l)] [] (fun r => r = ⟨.rw 2000000 l.length, [], [.row 5 1 (l.map u8s) false]⟩) := by
  refine meets tbOk mixed Try.func46 pl46 rfl rfl ?_
  simp [Try.ntmps46]
  refine ⟨⟨hl, vcRet_of [5] (by simp) rfl⟩, fun h => ?_⟩
  refine vcRet_prep [.row 2 5 1] [2] (σ1 := _) rfl ?_ rfl
  simp [h]
theorem clonePl_m (l : List Pl) (hl : l.length < 4294967296) : Meets Try.prog 49 [.d (pls l)] [] (fun r => r = ⟨.rw 2000000 l.length, [], [.row 54 3 (l.map Pl.ds) false]⟩) := by
  refine meets tbOk mixed Try.func49 pl49 rfl rfl ?_
  simp [Try.ntmps49]
  refine ⟨⟨hl, vcRet_of [5] (by simp) rfl⟩, fun h => ?_⟩
  refine vcRet_prep [.row 2 54 3] [2] (σ1 := _) rfl ?_ rfl
  simp [h]
theorem cloneCn_m (l : List Cn) (hl : l.length < 4294967296) : Meets Try.prog 74 [.d (cns l)] [] (fun r => r = ⟨.rw 2000000 l.length, [], [.row 67 16 (l.map Cn.ds) false]⟩) := by
  refine meets tbOk mixed Try.func74 pl74 rfl rfl ?_
  simp [Try.ntmps74]
  refine ⟨⟨hl, vcRet_of [5] (by simp) rfl⟩, fun h => ?_⟩
  refine vcRet_prep [.row 2 67 16] [2] (σ1 := _) rfl ?_ rfl
  simp [h]
theorem clonePc_m (l : List Pc) (hl : l.length < 4294967296) : Meets Try.prog 99 [.d (pcs l)] [] (fun r => r = ⟨.rw 2000000 l.length, [], [.row 119 2 (l.map Pc.ds) false]⟩) := by
  refine meets tbOk mixed Try.func99 pl99 rfl rfl ?_
  simp [Try.ntmps99]
  refine ⟨⟨hl, vcRet_of [5] (by simp) rfl⟩, fun h => ?_⟩
  refine vcRet_prep [.row 2 119 2] [2] (σ1 := _) rfl ?_ rfl
  simp [h]
theorem bad_m (p : Pl) : Meets Try.prog 48 [p.pv] [] (Ret (.b (!plOk p))) := by
  refine meetsH [] tbOk mixed Try.func48 pl48 rfl rfl ?_
  simp [Try.ntmps48]
  refine (inI_m p.fail 0 2).mono ?_
  rintro _ rfl
  cases h1 : inR p.fail 0 2
  · simp
    exact vcRet_of [] (by simp [plOk, h1]) rfl
  simp
  refine (inL_m p.delay 0 100000).mono ?_
  rintro _ rfl
  cases h2 : inR p.delay 0 100000
  · simp
    exact vcRet_of [] (by simp [plOk, h1, h2]) rfl
  simp
  refine (inI_m p.window 1 65536).mono ?_
  rintro _ rfl
  simp
  exact vcRet_of [] (by simp [plOk, h1, h2]) rfl
@[simp] def agCells : PV → List PV
  | .agg l => l
  | _ => []
theorem flyingU_m (c : Cn) (h : c.up.Fits) : Meets Try.prog 32 [upW c.ds] [] (Ret (.i (fly c.up.ps))) := by
  obtain ⟨f1, f2⟩ := h
  have f1 : fly c.up.ps + c.up.ar.length < 4294967296 := f1
  refine meetsH [] tbOk mixed Try.func32 pl32 rfl rfl ?_
  simp [Try.ntmps32]
  refine vc_loop (fun m σ => ∃ k : Nat, m = c.up.ps.length - k ∧ k ≤ c.up.ps.length ∧ σ = ⟨22, [(11, .i k), (10, .i c.up.ps.length), (9, .d (pcs c.up.ps)), (3, .i (fly (c.up.ps.take k)))], []⟩) ?_ ?_
  · exact ⟨_, _, ⟨0, rfl, Nat.zero_le _, rfl⟩, [], _, rfl, by simp [fly]⟩
  rintro m σ ⟨k, rfl, hk, rfl⟩
  by_cases hlt : k < c.up.ps.length
  · obtain ⟨p, hp, e⟩ := at_lt hlt
    have hft := fly_take hp
    have hle := fly_le c.up.ps (k + 1)
    have hw : IntKind.i64.wrap ((fly (c.up.ps.take k) : Int) + p.bytes.length) = (fly (c.up.ps.take k) : Int) + p.bytes.length := IntWalk.i64_in _ (by omega)
    simp [hlt, e, hw, wrap_succ hlt f2]
    exact ⟨_, by omega, _, ⟨k + 1, rfl, hlt, rfl⟩, [], _, rfl, by simp [hft]⟩
  obtain rfl : k = c.up.ps.length := by omega
  simp
  exact vcRet_of [] (by simp) rfl
theorem bytesU_m (c : Cn) (h : c.up.Fits) : Meets Try.prog 33 [upW c.ds] [] (Ret (.i c.up.n)) := by
  refine meetsH [] tbOk mixed Try.func33 pl33 rfl rfl ?_
  simp [Try.ntmps33]
  refine effCall (flyingU_m c h) ?_
  have hw : IntKind.i64.wrap ((fly c.up.ps : Int) + c.up.ar.length) = (fly c.up.ps : Int) + c.up.ar.length := IntWalk.i64_in _ (by have : fly c.up.ps + c.up.ar.length < 4294967296 := h.1; omega)
  simp [hw]
  refine ⟨by kernel_rfl, ?_⟩
  exact vcRet_of [] (by simp [Dr.n]) rfl
theorem quietU_m (c : Cn) (h : c.up.Fits) : Meets Try.prog 96 [upW c.ds] [] (Ret (.b c.up.quiet)) := by
  refine meetsH [] tbOk mixed Try.func96 pl96 rfl rfl ?_
  simp [Try.ntmps96]
  refine (bytesU_m c h).mono ?_
  rintro _ rfl
  by_cases h1 : c.up.n = 0
  case neg =>
    simp [h1]
    exact vcRet_of [] (by simp [Dr.quiet, h1]) rfl
  by_cases h2 : c.up.ps.length = 0
  case neg =>
    have h2' : ¬ c.up.ps = [] := fun h => h2 (by rw [h]; rfl)
    simp [h1, h2']
    exact vcRet_of [] (by simp [Dr.quiet, h2']) rfl
  have h2' : c.up.ps = [] := List.length_eq_zero_iff.1 h2
  by_cases h3 : c.up.e = 0
  case neg =>
    simp [h1, h2', h3]
    exact vcRet_of [] (by simp [Dr.quiet, h3]) rfl
  simp [h1, h2', h3]
  exact vcRet_of [] (by simp [Dr.quiet, h1, h2', h3]) rfl
theorem rangesU_m (c : Cn) (h : c.up.ps.length < 4294967296) : Meets Try.prog 94 [upW c.ds] [] (Ret (.b c.up.ranges)) := by
  refine meetsH [] tbOk mixed Try.func94 pl94 rfl rfl ?_
  simp [Try.ntmps94]
  refine vc_loop (fun m σ => ∃ k : Nat, m = c.up.ps.length - k ∧ k ≤ c.up.ps.length ∧ noneTo (fun p => !timeOk p.time) c.up.ps k ∧ σ = ⟨38, [(10, .i k), (9, .i c.up.ps.length), (8, .d (pcs c.up.ps)), (1, .ptr 1 0)], [(1, .box 87 (agCells (upW c.ds)))]⟩) ?_ ?_
  · exact ⟨_, _, ⟨0, rfl, Nat.zero_le _, noneTo_zero _ _, rfl⟩, [], _, rfl, by simp⟩
  rintro m σ ⟨k, rfl, hk, ha, rfl⟩
  by_cases hlt : k < c.up.ps.length
  · obtain ⟨p, hp, e⟩ := at_lt hlt
    simp [hlt, e]
    refine (inL_m p.time 0 1000000000000).mono ?_
    rintro _ rfl
    cases ht : inR p.time 0 1000000000000
    · simp
      refine vcRet_of [] ?_ rfl
      have : c.up.ps.all (fun p => timeOk p.time) = false := List.all_eq_false.2 ⟨p, List.mem_of_getElem? hp, by simp [timeOk, ht]⟩
      simp [Dr.ranges, this]
    · simp [wrap_succ hlt h]
      exact ⟨_, by omega, _, ⟨k + 1, rfl, hlt, noneTo_succ ha hp (by simp [timeOk, ht]), rfl⟩, [], _, rfl, by simp⟩
  obtain rfl : k = c.up.ps.length := by omega
  have ha : c.up.ps.all (fun p => timeOk p.time) = true := noneTo_all ha fun _ => rfl
  simp
  refine (inI_m c.up.e 0 2).mono ?_
  rintro _ rfl
  cases h1 : inR c.up.e 0 2
  · simp
    exact vcRet_of [] (by simp [Dr.ranges, h1]) rfl
  simp
  refine (inI_m c.up.d 0 2).mono ?_
  rintro _ rfl
  cases h2 : inR c.up.d 0 2
  · simp
    exact vcRet_of [] (by simp [Dr.ranges, h2]) rfl
  simp
  refine (inL_m c.up.t 0 1000000000000).mono ?_
  rintro _ rfl
  simp
  exact vcRet_of [] (by unfold Dr.ranges; rw [ha, h1, h2]; simp [timeOk]) rfl
theorem dueU_m (c : Cn) : Meets Try.prog 75 [upW c.ds] [] (Ret (.i c.up.due)) := by
  refine meetsH [] tbOk mixed Try.func75 pl75 rfl rfl ?_
  cases hps : c.up.ps with
  | cons p r =>
    simp [Try.ntmps75, hps]
    exact vcRet_of [] (by simp [Dr.due, hps]) rfl
  | nil =>
    by_cases he : c.up.e = 0
    · simp [Try.ntmps75, hps, he]
      exact vcRet_of [] (by simp [Dr.due, hps, he, never]) rfl
    · simp [Try.ntmps75, hps, he]
      exact vcRet_of [] (by simp [Dr.due, hps, he]) rfl
theorem flyingD_m (c : Cn) (h : c.dn.Fits) : Meets Try.prog 32 [dnW c.ds] [] (Ret (.i (fly c.dn.ps))) := by
  obtain ⟨f1, f2⟩ := h
  have f1 : fly c.dn.ps + c.dn.ar.length < 4294967296 := f1
  refine meetsH [] tbOk mixed Try.func32 pl32 rfl rfl ?_
  simp [Try.ntmps32]
  refine vc_loop (fun m σ => ∃ k : Nat, m = c.dn.ps.length - k ∧ k ≤ c.dn.ps.length ∧ σ = ⟨22, [(11, .i k), (10, .i c.dn.ps.length), (9, .d (pcs c.dn.ps)), (3, .i (fly (c.dn.ps.take k)))], []⟩) ?_ ?_
  · exact ⟨_, _, ⟨0, rfl, Nat.zero_le _, rfl⟩, [], _, rfl, by simp [fly]⟩
  rintro m σ ⟨k, rfl, hk, rfl⟩
  by_cases hlt : k < c.dn.ps.length
  · obtain ⟨p, hp, e⟩ := at_lt hlt
    have hft := fly_take hp
    have hle := fly_le c.dn.ps (k + 1)
    have hw : IntKind.i64.wrap ((fly (c.dn.ps.take k) : Int) + p.bytes.length) = (fly (c.dn.ps.take k) : Int) + p.bytes.length := IntWalk.i64_in _ (by omega)
    simp [hlt, e, hw, wrap_succ hlt f2]
    exact ⟨_, by omega, _, ⟨k + 1, rfl, hlt, rfl⟩, [], _, rfl, by simp [hft]⟩
  obtain rfl : k = c.dn.ps.length := by omega
  simp
  exact vcRet_of [] (by simp) rfl
theorem bytesD_m (c : Cn) (h : c.dn.Fits) : Meets Try.prog 33 [dnW c.ds] [] (Ret (.i c.dn.n)) := by
  refine meetsH [] tbOk mixed Try.func33 pl33 rfl rfl ?_
  simp [Try.ntmps33]
  refine effCall (flyingD_m c h) ?_
  have hw : IntKind.i64.wrap ((fly c.dn.ps : Int) + c.dn.ar.length) = (fly c.dn.ps : Int) + c.dn.ar.length := IntWalk.i64_in _ (by have : fly c.dn.ps + c.dn.ar.length < 4294967296 := h.1; omega)
  simp [hw]
  refine ⟨by kernel_rfl, ?_⟩
  exact vcRet_of [] (by simp [Dr.n]) rfl
theorem quietD_m (c : Cn) (h : c.dn.Fits) : Meets Try.prog 96 [dnW c.ds] [] (Ret (.b c.dn.quiet)) := by
  refine meetsH [] tbOk mixed Try.func96 pl96 rfl rfl ?_
  simp [Try.ntmps96]
  refine (bytesD_m c h).mono ?_
  rintro _ rfl
  by_cases h1 : c.dn.n = 0
  case neg =>
    simp [h1]
    exact vcRet_of [] (by simp [Dr.quiet, h1]) rfl
  by_cases h2 : c.dn.ps.length = 0
  case neg =>
    have h2' : ¬ c.dn.ps = [] := fun h => h2 (by rw [h]; rfl)
    simp [h1, h2']
    exact vcRet_of [] (by simp [Dr.quiet, h2']) rfl
  have h2' : c.dn.ps = [] := List.length_eq_zero_iff.1 h2
  by_cases h3 : c.dn.e = 0
  case neg =>
    simp [h1, h2', h3]
    exact vcRet_of [] (by simp [Dr.quiet, h3]) rfl
  simp [h1, h2', h3]
  exact vcRet_of [] (by simp [Dr.quiet, h1, h2', h3]) rfl
theorem rangesD_m (c : Cn) (h : c.dn.ps.length < 4294967296) : Meets Try.prog 94 [dnW c.ds] [] (Ret (.b c.dn.ranges)) := by
  refine meetsH [] tbOk mixed Try.func94 pl94 rfl rfl ?_
  simp [Try.ntmps94]
  refine vc_loop (fun m σ => ∃ k : Nat, m = c.dn.ps.length - k ∧ k ≤ c.dn.ps.length ∧ noneTo (fun p => !timeOk p.time) c.dn.ps k ∧ σ = ⟨38, [(10, .i k), (9, .i c.dn.ps.length), (8, .d (pcs c.dn.ps)), (1, .ptr 1 0)], [(1, .box 87 (agCells (dnW c.ds)))]⟩) ?_ ?_
  · exact ⟨_, _, ⟨0, rfl, Nat.zero_le _, noneTo_zero _ _, rfl⟩, [], _, rfl, by simp⟩
  rintro m σ ⟨k, rfl, hk, ha, rfl⟩
  by_cases hlt : k < c.dn.ps.length
  · obtain ⟨p, hp, e⟩ := at_lt hlt
    simp [hlt, e]
    refine (inL_m p.time 0 1000000000000).mono ?_
    rintro _ rfl
    cases ht : inR p.time 0 1000000000000
    · simp
      refine vcRet_of [] ?_ rfl
      have : c.dn.ps.all (fun p => timeOk p.time) = false := List.all_eq_false.2 ⟨p, List.mem_of_getElem? hp, by simp [timeOk, ht]⟩
      simp [Dr.ranges, this]
    · simp [wrap_succ hlt h]
      exact ⟨_, by omega, _, ⟨k + 1, rfl, hlt, noneTo_succ ha hp (by simp [timeOk, ht]), rfl⟩, [], _, rfl, by simp⟩
  obtain rfl : k = c.dn.ps.length := by omega
  have ha : c.dn.ps.all (fun p => timeOk p.time) = true := noneTo_all ha fun _ => rfl
  simp
  refine (inI_m c.dn.e 0 2).mono ?_
  rintro _ rfl
  cases h1 : inR c.dn.e 0 2
  · simp
    exact vcRet_of [] (by simp [Dr.ranges, h1]) rfl
  simp
  refine (inI_m c.dn.d 0 2).mono ?_
  rintro _ rfl
  cases h2 : inR c.dn.d 0 2
  · simp
    exact vcRet_of [] (by simp [Dr.ranges, h2]) rfl
  simp
  refine (inL_m c.dn.t 0 1000000000000).mono ?_
  rintro _ rfl
  simp
  exact vcRet_of [] (by unfold Dr.ranges; rw [ha, h1, h2]; simp [timeOk]) rfl
theorem dueD_m (c : Cn) : Meets Try.prog 75 [dnW c.ds] [] (Ret (.i c.dn.due)) := by
  refine meetsH [] tbOk mixed Try.func75 pl75 rfl rfl ?_
  cases hps : c.dn.ps with
  | cons p r =>
    simp [Try.ntmps75, hps]
    exact vcRet_of [] (by simp [Dr.due, hps]) rfl
  | nil =>
    by_cases he : c.dn.e = 0
    · simp [Try.ntmps75, hps, he]
      exact vcRet_of [] (by simp [Dr.due, hps, he, never]) rfl
    · simp [Try.ntmps75, hps, he]
      exact vcRet_of [] (by simp [Dr.due, hps, he]) rfl
end Go.Proofs.Ytgoklgibhmddoaa
namespace Go.Proofs.Ytgoklgibhmddoaa
open Go.RowKit
set_option maxRecDepth 100000

theorem idxBad_m (l : List Pl) (hl : l.length < 4294967296) : Meets Try.prog 77 [.d (pls l), .clo 48 []] [] (Ret (.i (idx (fun p => !plOk p) l 0))) := by
  refine meetsH [] tbOk mixed Try.func77 pl77 rfl rfl ?_
  simp [Try.ntmps77]
  refine vc_loop (fun m σ => ∃ k : Nat, m = l.length - k ∧ k ≤ l.length ∧ noneTo (fun p => !plOk p) l k ∧ σ = ⟨19, [(8, .i k), (7, .i l.length), (0, .d (pls l)), (1, .clo 48 [])], []⟩) ?_ ?_
  · exact ⟨_, _, ⟨0, rfl, Nat.zero_le _, noneTo_zero _ _, rfl⟩, [], _, rfl, by simp⟩
  rintro m σ ⟨k, rfl, hk, hn, rfl⟩
  by_cases hlt : k < l.length
  · obtain ⟨p, hp, e⟩ := at_lt hlt
    simp [hlt, e]
    refine (bad_m p).mono ?_
    rintro _ rfl
    cases hb : plOk p
    · simp
      refine vcRet_of [] ?_ rfl
      rw [idx_hit _ l k p hp (by simp [hb]) hn]
      simp
    · simp [wrap_succ hlt hl]
      exact ⟨_, by omega, _, ⟨k + 1, rfl, hlt, noneTo_succ hn hp (by simp [hb]), rfl⟩, [], _, rfl, by simp⟩
  obtain rfl : k = l.length := by omega
  simp
  refine vcRet_of [] ?_ rfl
  rw [idx_miss _ l hn]
  simp
theorem anyBad_m (l : List Pl) (hl : l.length < 4294967296) : Meets Try.prog 47 [.d (pls l), .clo 48 []] [] (Ret (.b (!l.all plOk))) := by
  refine meetsH [] tbOk mixed Try.func47 pl47 rfl rfl ?_
  simp [Try.ntmps47]
  refine (idxBad_m l hl).mono ?_
  rintro _ rfl
  simp
  refine vcRet_of [] ?_ rfl
  have h := idx_any (fun p => !plOk p) l 0 (by omega)
  have h2 : (l.any fun p => !plOk p) = !l.all plOk := by
    clear h hl
    induction l with
    | nil => rfl
    | cons p l ih => simp [ih]
  rw [h2] at h
  cases ha : l.all plOk
  · rw [ha] at h; simp [h.2 rfl]
  · rw [ha] at h
    have : ¬ 0 ≤ idx (fun p => !plOk p) l 0 := fun h0 => by have := h.1 h0; cases this
    simp [this]
set_option maxHeartbeats 1000000 in
theorem formedU_m (c : Cn) (born : Int) (h : c.up.ps.length < 4294967296) : Meets Try.prog 95 [upW c.ds, .i born] [] (Ret (.b (c.up.formed 2 born))) := by
  refine meetsH [] tbOk mixed Try.func95 pl95 rfl rfl ?_
  simp [Try.ntmps95]
  refine vc_loop (fun m σ => ∃ k : Nat, m = c.up.ps.length - k ∧ k ≤ c.up.ps.length ∧ ∃ b : Int, (ordTo born c.up.ps = ordTo b (c.up.ps.drop k) ∧ lastOf born c.up.ps = lastOf b (c.up.ps.drop k)) ∧ σ = ⟨89, [(14, .i k), (13, .i c.up.ps.length), (12, .d (pcs c.up.ps)), (5, .i b), (2, .ptr 2 0)], [(2, .box 87 (agCells (upW c.ds)))]⟩) ?_ ?_
  · exact ⟨_, _, ⟨0, rfl, Nat.zero_le _, born, ⟨rfl, rfl⟩, rfl⟩, [], _, rfl, by simp⟩
  rintro m σ ⟨k, rfl, hk, b, ⟨ho, hl⟩, rfl⟩
  by_cases hlt : k < c.up.ps.length
  · obtain ⟨p, hp, e⟩ := at_lt hlt
    have hd : c.up.ps.drop k = p :: c.up.ps.drop (k + 1) := by rw [← e]; exact List.drop_eq_getElem_cons hlt
    rw [hd] at ho hl
    by_cases h1 : p.bytes.length = 0
    · have h1' : p.bytes = [] := List.length_eq_zero_iff.1 h1
      simp [hlt, e, h1']
      refine vcRet_of [] ?_ rfl
      simp [Dr.formed, ho, ordTo, h1']
    have h1' : ¬ p.bytes = [] := fun h => h1 (by rw [h]; rfl)
    have h1p : 0 < p.bytes.length := by omega
    by_cases h2 : p.time < b
    · simp [hlt, e, h1', h2]
      refine vcRet_of [] ?_ rfl
      have h2' : ¬ b ≤ p.time := by omega
      simp [Dr.formed, ho, ordTo, h2']
    · have h2' : b ≤ p.time := by omega
      simp [hlt, e, h1', h2, wrap_succ hlt h]
      refine ⟨_, by omega, _, ⟨k + 1, rfl, hlt, p.time, ⟨?_, ?_⟩, rfl⟩, [], _, rfl, by simp⟩
      · rw [ho]; simp [ordTo, h1p, h2']
      · rw [hl]; rfl
  obtain rfl : k = c.up.ps.length := by omega
  rw [List.drop_length] at ho hl
  have ho : ordTo born c.up.ps = true := ho
  have hl : lastOf born c.up.ps = b := hl
  by_cases he : c.up.e = 0
  · by_cases ht : c.up.t < 0
    · simp [he, ht]
      refine vcRet_of [] ?_ rfl
      simp [Dr.formed, ho, he, ht]
    by_cases ht0 : c.up.t = 0
    case neg =>
      simp [he, ht, ht0]
      refine vcRet_of [] ?_ rfl
      simp [Dr.formed, ho, he, ht0]
    by_cases hd : c.up.d = 2
    · simp [he, ht0, hd]
      refine ⟨by kernel_rfl, by kernel_rfl, ?_⟩
      refine vcRet_of [] ?_ rfl
      simp [Dr.formed, hd]
    by_cases hd0 : c.up.d = 0
    · simp [he, ht0, hd0]
      refine ⟨by kernel_rfl, by kernel_rfl, ?_⟩
      refine vcRet_of [] ?_ rfl
      simp [Dr.formed, ho, he, ht0, hd0]
    by_cases hz : c.up.ps = []
    · simp [he, ht0, hd, hd0, hz]
      refine ⟨by kernel_rfl, by kernel_rfl, ?_⟩
      refine vcRet_of [] ?_ rfl
      simp [Dr.formed, hz, he, ht0, hd, ordTo]
    · simp [he, ht0, hd, hd0, hz]
      refine ⟨by kernel_rfl, by kernel_rfl, ?_⟩
      refine vcRet_of [] ?_ rfl
      simp [Dr.formed, hz, hd0]
  · by_cases ht : c.up.t < b
    · simp [he, ht]
      refine vcRet_of [] ?_ rfl
      simp [Dr.formed, he, hl, ht]
    by_cases hen : c.up.e = 2
    · simp [ht, hen]
      refine ⟨by kernel_rfl, ?_⟩
      refine vcRet_of [] ?_ rfl
      simp [Dr.formed, hen]
    by_cases hd : c.up.d = 2
    · simp [he, ht, hen, hd]
      refine ⟨by kernel_rfl, by kernel_rfl, ?_⟩
      refine vcRet_of [] ?_ rfl
      simp [Dr.formed, hd]
    by_cases hd0 : c.up.d = 0
    · simp [he, ht, hen, hd0]
      refine ⟨by kernel_rfl, by kernel_rfl, ?_⟩
      refine vcRet_of [] ?_ rfl
      simp [Dr.formed, ho, hl, he, ht, hen, hd0]
      try omega
    · by_cases hz : c.up.ps = []
      · simp [he, ht, hen, hd, hd0, hz]
        refine ⟨by kernel_rfl, by kernel_rfl, ?_⟩
        refine vcRet_of [] ?_ rfl
        simp [Dr.formed, he, hd0]
      · simp [he, ht, hen, hd, hd0, hz]
        refine ⟨by kernel_rfl, by kernel_rfl, ?_⟩
        refine vcRet_of [] ?_ rfl
        simp [Dr.formed, he, hd0]
set_option maxHeartbeats 1000000 in
theorem formedD_m (c : Cn) (born : Int) (h : c.dn.ps.length < 4294967296) : Meets Try.prog 95 [dnW c.ds, .i born] [] (Ret (.b (c.dn.formed (-1) born))) := by
  refine meetsH [] tbOk mixed Try.func95 pl95 rfl rfl ?_
  simp [Try.ntmps95]
  refine vc_loop (fun m σ => ∃ k : Nat, m = c.dn.ps.length - k ∧ k ≤ c.dn.ps.length ∧ ∃ b : Int, (ordTo born c.dn.ps = ordTo b (c.dn.ps.drop k) ∧ lastOf born c.dn.ps = lastOf b (c.dn.ps.drop k)) ∧ σ = ⟨89, [(14, .i k), (13, .i c.dn.ps.length), (12, .d (pcs c.dn.ps)), (5, .i b), (2, .ptr 2 0)], [(2, .box 87 (agCells (dnW c.ds)))]⟩) ?_ ?_
  · exact ⟨_, _, ⟨0, rfl, Nat.zero_le _, born, ⟨rfl, rfl⟩, rfl⟩, [], _, rfl, by simp⟩
  rintro m σ ⟨k, rfl, hk, b, ⟨ho, hl⟩, rfl⟩
  by_cases hlt : k < c.dn.ps.length
  · obtain ⟨p, hp, e⟩ := at_lt hlt
    have hd : c.dn.ps.drop k = p :: c.dn.ps.drop (k + 1) := by rw [← e]; exact List.drop_eq_getElem_cons hlt
    rw [hd] at ho hl
    by_cases h1 : p.bytes.length = 0
    · have h1' : p.bytes = [] := List.length_eq_zero_iff.1 h1
      simp [hlt, e, h1']
      refine vcRet_of [] ?_ rfl
      simp [Dr.formed, ho, ordTo, h1']
    have h1' : ¬ p.bytes = [] := fun h => h1 (by rw [h]; rfl)
    have h1p : 0 < p.bytes.length := by omega
    by_cases h2 : p.time < b
    · simp [hlt, e, h1', h2]
      refine vcRet_of [] ?_ rfl
      have h2' : ¬ b ≤ p.time := by omega
      simp [Dr.formed, ho, ordTo, h2']
    · have h2' : b ≤ p.time := by omega
      simp [hlt, e, h1', h2, wrap_succ hlt h]
      refine ⟨_, by omega, _, ⟨k + 1, rfl, hlt, p.time, ⟨?_, ?_⟩, rfl⟩, [], _, rfl, by simp⟩
      · rw [ho]; simp [ordTo, h1p, h2']
      · rw [hl]; rfl
  obtain rfl : k = c.dn.ps.length := by omega
  rw [List.drop_length] at ho hl
  have ho : ordTo born c.dn.ps = true := ho
  have hl : lastOf born c.dn.ps = b := hl
  by_cases he : c.dn.e = 0
  · by_cases ht : c.dn.t < 0
    · simp [he, ht]
      refine vcRet_of [] ?_ rfl
      simp [Dr.formed, ho, he, ht]
    by_cases ht0 : c.dn.t = 0
    case neg =>
      simp [he, ht, ht0]
      refine vcRet_of [] ?_ rfl
      simp [Dr.formed, ho, he, ht0]
    by_cases hd : c.dn.d = (-1)
    · simp [he, ht0, hd]
      refine ⟨by kernel_rfl, by kernel_rfl, ?_⟩
      refine vcRet_of [] ?_ rfl
      simp [Dr.formed, hd]
    by_cases hd0 : c.dn.d = 0
    · simp [he, ht0, hd0]
      refine ⟨by kernel_rfl, by kernel_rfl, ?_⟩
      refine vcRet_of [] ?_ rfl
      simp [Dr.formed, ho, he, ht0, hd0]
    by_cases hz : c.dn.ps = []
    · simp [he, ht0, hd, hd0, hz]
      refine ⟨by kernel_rfl, by kernel_rfl, ?_⟩
      refine vcRet_of [] ?_ rfl
      simp [Dr.formed, hz, he, ht0, hd, ordTo]
    · simp [he, ht0, hd, hd0, hz]
      refine ⟨by kernel_rfl, by kernel_rfl, ?_⟩
      refine vcRet_of [] ?_ rfl
      simp [Dr.formed, hz, hd0]
  · by_cases ht : c.dn.t < b
    · simp [he, ht]
      refine vcRet_of [] ?_ rfl
      simp [Dr.formed, he, hl, ht]
    by_cases hen : c.dn.e = (-1)
    · simp [ht, hen]
      refine ⟨by kernel_rfl, ?_⟩
      refine vcRet_of [] ?_ rfl
      simp [Dr.formed, hen]
    by_cases hd : c.dn.d = (-1)
    · simp [he, ht, hen, hd]
      refine ⟨by kernel_rfl, by kernel_rfl, ?_⟩
      refine vcRet_of [] ?_ rfl
      simp [Dr.formed, hd]
    by_cases hd0 : c.dn.d = 0
    · simp [he, ht, hen, hd0]
      refine ⟨by kernel_rfl, by kernel_rfl, ?_⟩
      refine vcRet_of [] ?_ rfl
      simp [Dr.formed, ho, hl, he, ht, hen, hd0]
      try omega
    · by_cases hz : c.dn.ps = []
      · simp [he, ht, hen, hd, hd0, hz]
        refine ⟨by kernel_rfl, by kernel_rfl, ?_⟩
        refine vcRet_of [] ?_ rfl
        simp [Dr.formed, he, hd0]
      · simp [he, ht, hen, hd, hd0, hz]
        refine ⟨by kernel_rfl, by kernel_rfl, ?_⟩
        refine vcRet_of [] ?_ rfl
        simp [Dr.formed, he, hd0]
end Go.Proofs.Ytgoklgibhmddoaa
