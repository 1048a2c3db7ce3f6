/- Idle connections: contracts. No condition. -/
import Derived.Test.YtajjmhpdiikjhaaGreatTab
import Derived.Test.YtajjmhpdiikjhaaGreatV24
namespace Go.Proofs.YtajjmhpdiikjhaaGreat.Id
set_option maxRecDepth 100000

structure Cn where
  conn : Int
  born : Int
  since : Int
deriving DecidableEq
instance : Inhabited Cn := ⟨⟨0, 0, 0⟩⟩

structure St where
  most : Int
  idle : Int
  age : Int
  cs : List Cn
deriving DecidableEq

def inB (a b c : Int) : Bool := decide (b ≤ a) && decide (a ≤ c)
def nums (m i a : Int) : Bool := inB m 0 64 && (inB i 1 1000000000000 && inB a 1 1000000000000)
def oddC (x : Cn) : Bool := !(inB x.conn 1 1000000000000000 && (inB x.since 0 1000000000000 && inB x.born 0 x.since))

/-- The first place where p holds, from k on; -1: none. -/
def idx {α : Type} (p : α → Bool) : List α → Int → Int
  | [], _ => -1
  | x :: xs, k => if p x then k else idx p xs (k + 1)
def place (cs : List Cn) (conn : Int) : Int := idx (fun x => x.conn == conn) cs 0

def dupTo (cs : List Cn) : Nat → Bool
  | 0 => false
  | k + 1 => dupTo cs k || decide (0 ≤ place (cs.take k) (cs.getD k default).conn)
def sortTo (cs : List Cn) : Nat → Bool
  | 0 => true
  | k + 1 => sortTo cs k && (k == 0 || decide ((cs.getD (k - 1) default).since ≤ (cs.getD k default).since))

def chk (s : St) : Int :=
  if !nums s.most s.idle s.age || s.cs.any oddC then 7
  else if s.most < s.cs.length then 3
  else if dupTo s.cs s.cs.length then 8
  else if sortTo s.cs s.cs.length then 0 else 6

def badTime (s : St) (now : Int) : Bool := decide (now < 0) || decide (1000000000000 < now) || (decide (0 < s.cs.length) && decide (now < (s.cs.getD (s.cs.length - 1) default).since))
def rdy (s : St) (now : Int) : Int := if chk s ≠ 0 then chk s else if badTime s now then 7 else 0

/-- Usable at a time. -/
def good (i a now : Int) (x : Cn) : Bool := decide (now - x.since < i) && decide (now - x.born < a)
def left (s : St) (now : Int) : List Cn := s.cs.filter (good s.idle s.age now)
def shut (s : St) (now : Int) : List Int := (s.cs.filter fun x => !good s.idle s.age now x).map Cn.conn
def put (s : St) (n b now : Int) : St × List Int × Int :=
  if rdy s now ≠ 0 then (s, [], rdy s now)
  else if oddC ⟨n, b, now⟩ then (s, [], 7)
  else if 0 ≤ place s.cs n then (s, [], 8)
  else if s.most = 0 ∨ s.age ≤ now - b then (s, [n], 0)
  else if (s.cs.length : Int) + 1 ≤ s.most then (⟨s.most, s.idle, s.age, s.cs ++ [⟨n, b, now⟩]⟩, [], 0)
  else (⟨s.most, s.idle, s.age, (s.cs ++ [(⟨n, b, now⟩ : Cn)]).drop 1⟩, [((s.cs ++ [(⟨n, b, now⟩ : Cn)]).getD 0 default).conn], 0)
def reap (s : St) (now : Int) : St × List Int × Int :=
  if rdy s now ≠ 0 then (s, [], rdy s now) else (⟨s.most, s.idle, s.age, left s now⟩, shut s now, 0)
def take (s : St) (now : Int) : St × Cn × List Int × Int :=
  if rdy s now ≠ 0 then (s, ⟨0, 0, 0⟩, [], rdy s now)
  else if left s now = [] then (⟨s.most, s.idle, s.age, []⟩, ⟨0, 0, 0⟩, shut s now, 4)
  else (⟨s.most, s.idle, s.age, (left s now).take ((left s now).length - 1)⟩, (left s now).getD ((left s now).length - 1) default, shut s now, 0)
def remove (s : St) (n : Int) : St × Cn × Int :=
  if chk s ≠ 0 then (s, ⟨0, 0, 0⟩, chk s)
  else if place s.cs n < 0 then (s, ⟨0, 0, 0⟩, 4)
  else (⟨s.most, s.idle, s.age, s.cs.eraseIdx (place s.cs n).toNat⟩, s.cs.getD (place s.cs n).toNat default, 0)
def least (s : St) (cs : List Cn) : Int := cs.foldl (fun m x => min (min m (x.since + s.idle)) (x.born + s.age)) 1000000000001
def next (s : St) : Int × Int :=
  if chk s ≠ 0 then (0, chk s) else if 1000000000000 < least s s.cs then (0, 4) else (least s s.cs, 0)
def usable (s : St) (now : Int) : List Int × Int :=
  if rdy s now ≠ 0 then ([], rdy s now) else (((left s now).map Cn.conn).reverse, 0)
def over (s : St) (m : Int) : Nat := ((s.cs.length : Int) - m).toNat
def resize (s : St) (m : Int) : St × List Int × Int :=
  if chk s ≠ 0 then (s, [], chk s) else if !inB m 0 64 then (s, [], 7)
  else (⟨m, s.idle, s.age, s.cs.drop (over s m)⟩, (s.cs.take (over s m)).map Cn.conn, 0)
def drain (s : St) : St × List Int × Int := if chk s ≠ 0 then (s, [], chk s) else (⟨s.most, s.idle, s.age, []⟩, s.cs.map Cn.conn, 0)
def new (m i a : Int) : St × Int := if nums m i a then (⟨m, i, a, []⟩, 0) else (⟨0, 0, 0, []⟩, 7)

theorem getD_some {α : Type} {xs : List α} {k : Nat} {x d : α} (h : xs[k]? = some x) : xs.getD k d = x := by simp [List.getD, h]
theorem lt_some {α : Type} {xs : List α} {k : Nat} {x : α} (h : xs[k]? = some x) : k < xs.length := (List.getElem?_eq_some_iff.1 h).1
theorem some_lt {α : Type} {xs : List α} {k : Nat} (h : k < xs.length) : ∃ x, xs[k]? = some x := ⟨_, List.getElem?_eq_getElem h⟩

theorem idx_range {α : Type} (p : α → Bool) : ∀ (xs : List α) (k : Int), idx p xs k = -1 ∨ (k ≤ idx p xs k ∧ idx p xs k < k + xs.length)
  | [], _ => .inl rfl
  | x :: xs, k => by
    unfold idx
    split
    · right; simp; omega
    · rcases idx_range p xs (k + 1) with h | h
      · exact .inl h
      · right; simp only [List.length_cons]; omega
/-- None of the first k; then the next is asked. -/
theorem idx_skip {α : Type} (p : α → Bool) : ∀ (k : Nat) (xs : List α) (j : Int), (∀ i x, i < k → xs[i]? = some x → p x = false) → k ≤ xs.length → idx p xs j = idx p (xs.drop k) (j + k)
  | 0, xs, j, _, _ => by simp
  | k + 1, [], j, _, h => by simp at h
  | k + 1, x :: xs, j, h, hl => by
    have h0 := h 0 x (by omega) rfl
    rw [idx, h0]
    simp only [Bool.false_eq_true, if_false, List.drop_succ_cons]
    rw [idx_skip p k xs (j + 1) (fun i y hi hy => h (i + 1) y (by omega) (by simpa using hy)) (by simp at hl; omega)]
    congr 1; omega
theorem idx_hit {α : Type} (p : α → Bool) (xs : List α) (k : Nat) (x : α) (hk : xs[k]? = some x) (hp : p x = true) (h : ∀ i y, i < k → xs[i]? = some y → p y = false) : idx p xs 0 = k := by
  have hl := lt_some hk
  rw [idx_skip p k xs 0 h (by omega), List.drop_eq_getElem_cons hl, idx]
  have : xs[k] = x := by rw [List.getElem?_eq_getElem hl] at hk; exact Option.some.inj hk
  rw [this, hp]; simp
theorem idx_miss {α : Type} (p : α → Bool) (xs : List α) (h : ∀ i y, i < xs.length → xs[i]? = some y → p y = false) : idx p xs 0 = -1 := by
  rw [idx_skip p xs.length xs 0 h (Nat.le_refl _), List.drop_length, idx]
theorem idx_any {α : Type} (p : α → Bool) : ∀ (xs : List α) (k : Int), 0 ≤ k → decide (0 ≤ idx p xs k) = xs.any p
  | [], _, _ => by simp [idx]
  | x :: xs, k, hk => by
    unfold idx
    cases hp : p x
    · simp [hp, idx_any p xs (k + 1) (by omega)]
    · simp [hp, hk]

theorem dupTo_succ {cs : List Cn} {k : Nat} {x : Cn} (h : cs[k]? = some x) : dupTo cs (k + 1) = (dupTo cs k || decide (0 ≤ place (cs.take k) x.conn)) := by rw [dupTo, getD_some h]
theorem dupTo_mono {cs : List Cn} {k : Nat} : ∀ {n : Nat}, k ≤ n → dupTo cs k = true → dupTo cs n = true
  | 0, h, hd => by obtain rfl : k = 0 := by omega
                   exact hd
  | n + 1, h, hd => by
    by_cases hk : k = n + 1
    · subst hk; exact hd
    · rw [dupTo, dupTo_mono (n := n) (by omega) hd]; rfl
theorem sortTo_succ {cs : List Cn} {k : Nat} {x : Cn} (h : cs[k]? = some x) : sortTo cs (k + 1) = (sortTo cs k && (k == 0 || decide ((cs.getD (k - 1) default).since ≤ x.since))) := by rw [sortTo, getD_some h]

theorem rdy_bad {s : St} {now : Int} {y : Cn} (h : chk s = 0) (hy : s.cs[s.cs.length - 1]? = some y) : (now < 0 ∨ 1000000000000 < now ∨ now < y.since) → rdy s now = 7 := by
  intro hb
  have := lt_some hy
  have h0 : 0 < s.cs.length := by omega
  simp only [rdy, h, badTime, getD_some hy, h0, decide_true, Bool.true_and]
  rcases hb with hb | hb | hb <;> simp [hb]
theorem rdy_ok {s : St} {now : Int} {y : Cn} (h : chk s = 0) (h0 : 0 < s.cs.length) (hy : s.cs[s.cs.length - 1]? = some y) : ¬ (now < 0 ∨ 1000000000000 < now ∨ now < y.since) → rdy s now = 0 := by
  intro hb
  simp only [rdy, h, badTime, getD_some hy, h0, decide_true, Bool.true_and]
  simp; omega
theorem rdy_bad0 {s : St} {now : Int} (h : chk s = 0) (h0 : s.cs.length = 0) : (now < 0 ∨ 1000000000000 < now) → rdy s now = 7 := by
  intro hb
  simp only [rdy, h, badTime, h0]
  rcases hb with hb | hb <;> simp [hb]
theorem rdy_ok0 {s : St} {now : Int} (h : chk s = 0) (h0 : s.cs.length = 0) : ¬ (now < 0 ∨ 1000000000000 < now) → rdy s now = 0 := by
  intro hb
  simp only [rdy, h, badTime, h0]
  simp; omega
theorem chk_nums {s : St} (h : chk s = 0) : nums s.most s.idle s.age = true := by
  unfold chk at h
  split at h
  · cases h
  · rename_i h1; simp at h1; exact h1.1
theorem chk_odd {s : St} (h : chk s = 0) : s.cs.any oddC = false := by
  unfold chk at h
  split at h
  · cases h
  · rename_i h1; simpa using (by simp at h1; exact h1.2 : ∀ x ∈ s.cs, oddC x = false)
theorem chk_len {s : St} (h : chk s = 0) : (s.cs.length : Int) ≤ s.most := by
  unfold chk at h
  split at h
  · cases h
  · split at h
    · cases h
    · omega
theorem rdy_chk {s : St} {now : Int} (h : rdy s now = 0) : chk s = 0 := by
  unfold rdy at h
  split at h
  · rename_i h1; exact absurd h h1
  · rename_i h1; simpa using h1
theorem chk_most {s : St} (h : chk s = 0) : 0 ≤ s.most ∧ s.most ≤ 64 := by
  have := chk_nums h
  simp [nums, inB] at this
  exact this.1
theorem chk_small {s : St} (h : chk s = 0) : s.cs.length ≤ 64 := by
  have := chk_most h
  have := chk_len h
  omega
theorem chk_mem {s : St} (h : chk s = 0) {x : Cn} (hx : x ∈ s.cs) : (1 ≤ x.conn ∧ x.conn ≤ 1000000000000000) ∧ (0 ≤ x.since ∧ x.since ≤ 1000000000000) ∧ 0 ≤ x.born ∧ x.born ≤ x.since := by
  have := chk_odd h
  rw [List.any_eq_false] at this
  have := this x hx
  simpa [oddC, inB] using this
theorem least_succ {s : St} {cs : List Cn} {k : Nat} {x : Cn} (h : cs[k]? = some x) : least s (cs.take (k + 1)) = min (min (least s (cs.take k)) (x.since + s.idle)) (x.born + s.age) := by
  unfold least
  rw [List.take_add_one, h]
  simp
end Go.Proofs.YtajjmhpdiikjhaaGreat.Id
namespace Go.Proofs.YtajjmhpdiikjhaaGreat.Id
set_option maxRecDepth 100000
open Go.RowKit

@[simp] def Cn.ds (x : Cn) : List D := [.v (.int .i64 x.conn), .v (.int .i64 x.born), .v (.int .i64 x.since)]
@[simp] def Cn.pv (x : Cn) : PV := .agg [.i x.conn, .i x.born, .i x.since]
@[simp] def cl (cs : List Cn) : D := .sl 3 (cs.map Cn.ds)
@[simp] def St.pv (s : St) : PV := .agg [.i s.most, .i s.idle, .i s.age, .d (cl s.cs)]
@[simp] def St.cells (s : St) : List PV := [.i s.most, .i s.idle, .i s.age, .d (cl s.cs)]
@[simp] def St.box (s : St) : MObj := .box 24 s.cells
@[simp] def nds (n : Int) : List D := [.v (.int .i64 n)]
@[simp] def nl (l : List Int) : D := .sl 1 (l.map nds)
theorem at_lt {α : Type} {xs : List α} {k : Nat} (h : k < xs.length) : ∃ x, xs[k]? = some x ∧ xs[k] = x := ⟨_, List.getElem?_eq_getElem h, rfl⟩
theorem wrap_succ {k n : Nat} (h : k < n) (hn : n < 4294967296) : IntKind.i64.wrap ((k : Int) + 1) = (k : Int) + 1 := IntWalk.i64_in _ (by omega)
/-- p holds of none of the first k. -/
def noneTo {α : Type} (p : α → Bool) (xs : List α) (k : Nat) : Prop := ∀ i y, i < k → xs[i]? = some y → p y = false
theorem noneTo_zero {α : Type} (p : α → Bool) (xs : List α) : noneTo p xs 0 := fun _ _ h => absurd h (by omega)
theorem noneTo_succ {α : Type} {p : α → Bool} {xs : List α} {k : Nat} {x : α} (h : noneTo p xs k) (hx : xs[k]? = some x) (hp : p x = false) : noneTo p xs (k + 1) := fun i y hi hy => by
  by_cases hik : i = k
  · subst hik; rw [hx] at hy; cases hy; exact hp
  · exact h i y (by omega) hy

set_option maxRecDepth 20000 in
set_option maxHeartbeats 1000000 in
theorem numbers_g (a b c : Int) (q : D) : Meets Tryz.prog 124 [.ptr 1000000 0] [.box 24 [.i a, .i b, .i c, .d q]] (fun r => r = ⟨.b (nums a b c), [.box 24 [.i a, .i b, .i c, .d q]], []⟩) := by
  refine meetsH [] tbOk mixed Tryz.func124 pl124 rfl rfl ?_
  by_cases h1 : 0 ≤ a
  case neg =>
    simp [Tryz.ntmps124, h1]
    refine vcRet_of [] ?_ rfl
    simp [nums, inB, h1]
  by_cases h2 : a ≤ 64
  case neg =>
    simp [Tryz.ntmps124, h1, h2]
    refine vcRet_of [] ?_ rfl
    simp [nums, inB, h2]
  by_cases h3 : 1 ≤ b
  case neg =>
    simp [Tryz.ntmps124, h1, h2, h3]
    refine vcRet_of [] ?_ rfl
    simp [nums, inB, h3]
  by_cases h4 : b ≤ 1000000000000
  case neg =>
    simp [Tryz.ntmps124, h1, h2, h3, h4]
    refine vcRet_of [] ?_ rfl
    simp [nums, inB, h4]
  by_cases h5 : 1 ≤ c
  case neg =>
    simp [Tryz.ntmps124, h1, h2, h3, h4, h5]
    refine vcRet_of [] ?_ rfl
    simp [nums, inB, h5]
  simp [Tryz.ntmps124, h1, h2, h3, h4, h5]
  refine vcRet_of [] ?_ rfl
  simp [nums, inB, h1, h2, h3, h4, h5]
theorem numbers_m (s : St) : Meets Tryz.prog 124 [.ptr 1000000 0] [s.box] (fun r => r = ⟨.b (nums s.most s.idle s.age), [s.box], []⟩) := numbers_g s.most s.idle s.age (cl s.cs)
set_option maxRecDepth 20000 in
set_option maxHeartbeats 1000000 in
theorem odd_m (x : Cn) : Meets Tryz.prog 126 [x.pv] [] (Ret (.b (oddC x))) := by
  refine meetsH [] tbOk mixed Tryz.func126 pl126 rfl rfl ?_
  by_cases h1 : x.conn < 1
  · simp [Tryz.ntmps126, h1]
    refine vcRet_of [] ?_ rfl
    simp [oddC, inB]; omega
  by_cases h2 : 1000000000000000 < x.conn
  · simp [Tryz.ntmps126, h1, h2]
    refine vcRet_of [] ?_ rfl
    simp [oddC, inB]; omega
  by_cases h3 : x.since < 0
  · simp [Tryz.ntmps126, h1, h2, h3]
    refine vcRet_of [] ?_ rfl
    simp [oddC, inB]; omega
  by_cases h4 : 1000000000000 < x.since
  · simp [Tryz.ntmps126, h1, h2, h3, h4]
    refine vcRet_of [] ?_ rfl
    simp [oddC, inB]; omega
  by_cases h5 : x.born < 0
  · simp [Tryz.ntmps126, h1, h2, h3, h4, h5]
    refine vcRet_of [] ?_ rfl
    simp [oddC, inB]; omega
  simp [Tryz.ntmps126, h1, h2, h3, h4, h5]
  refine vcRet_of [] ?_ rfl
  simp [oddC, inB]
  rw [Bool.eq_iff_iff]; simp; omega
set_option maxHeartbeats 400000 in
theorem indexFunc_0 (f : Nat) (p : Cn → Bool) (xs : List Cn) (hl : xs.length < 4294967296) (hp : ∀ x ∈ xs, Meets Tryz.prog f [x.pv] [] (Ret (.b (p x)))) : Meets Tryz.prog 106 [.d (cl xs), .clo f []] [] (Ret (.i (idx p xs 0))) := by
  refine meets tbOk mixed Tryz.func106 pl106 rfl rfl ?_
  simp [Tryz.ntmps106]
  refine vc_loop (fun n σ => ∃ k : Nat, n = xs.length - k ∧ k ≤ xs.length ∧ noneTo p xs k ∧ σ = ⟨19, [(8, .i k), (7, .i xs.length), (0, .d (cl xs)), (1, .clo f [])], []⟩) ?_ ?_
  · exact ⟨_, _, ⟨0, rfl, Nat.zero_le _, noneTo_zero _ _, rfl⟩, [], _, rfl, by simp⟩
  · rintro n σ ⟨k, rfl, hk, hn, rfl⟩
    by_cases hlt : k < xs.length
    · obtain ⟨x, hx, e⟩ := at_lt hlt
      simp [hlt, e]
      refine (hp x (List.mem_of_getElem? hx)).mono ?_
      rintro _ rfl
      simp [wrap_succ hlt hl]
      refine ⟨fun h => vcRet_of [] ?_ rfl, fun h => ⟨_, ?_, _, ⟨k + 1, rfl, hlt, noneTo_succ hn hx h, rfl⟩, [], _, rfl, by simp⟩⟩
      · simp [idx_hit p xs k x hx h hn]
      · omega
    · obtain rfl : k = xs.length := by omega
      simp
      refine vcRet_of [] ?_ rfl
      simp [idx_miss p xs hn]
set_option maxHeartbeats 400000 in
theorem indexFunc_1 (f : Nat) (t : Nat) (v : D) (p : Cn → Bool) (xs : List Cn) (hl : xs.length < 4294967296) (hp : ∀ x ∈ xs, Meets Tryz.prog f [x.pv, .ptr 1000000 0] [.box t [.d v]] (fun r => r = ⟨.b (p x), [.box t [.d v]], []⟩)) :
    Meets Tryz.prog 106 [.d (cl xs), .clo f [.ptr 1000000 0]] [.box t [.d v]] (fun r => r = ⟨.i (idx p xs 0), [.box t [.d v]], []⟩) := by
  refine meets tbOk mixed Tryz.func106 pl106 rfl rfl ?_
  simp [Tryz.ntmps106]
  refine vc_loop (fun n σ => ∃ k : Nat, n = xs.length - k ∧ k ≤ xs.length ∧ noneTo p xs k ∧ σ = ⟨19, [(8, .i k), (7, .i xs.length), (0, .d (cl xs)), (1, .clo f [.ptr 1000000 0])], [(1000000, .box t [.d v])]⟩) ?_ ?_
  · exact ⟨_, _, ⟨0, rfl, Nat.zero_le _, noneTo_zero _ _, rfl⟩, [], _, rfl, by simp⟩
  · rintro n σ ⟨k, rfl, hk, hn, rfl⟩
    by_cases hlt : k < xs.length
    · obtain ⟨x, hx, e⟩ := at_lt hlt
      simp [hlt, e]
      refine (hp x (List.mem_of_getElem? hx)).mono ?_
      rintro _ rfl
      simp [wrap_succ hlt hl]
      refine ⟨fun h => vcRet_of [] ?_ rfl, fun h => ⟨_, ?_, _, ⟨k + 1, rfl, hlt, noneTo_succ hn hx h, rfl⟩, [], _, rfl, by simp⟩⟩
      · simp [idx_hit p xs k x hx h hn]
      · omega
    · obtain rfl : k = xs.length := by omega
      simp
      refine vcRet_of [] ?_ rfl
      simp [idx_miss p xs hn]
theorem containsFunc_0 (f : Nat) (p : Cn → Bool) (xs : List Cn) (hl : xs.length < 4294967296) (hp : ∀ x ∈ xs, Meets Tryz.prog f [x.pv] [] (Ret (.b (p x)))) : Meets Tryz.prog 59 [.d (cl xs), .clo f []] [] (Ret (.b (xs.any p))) := by
  refine meets tbOk mixed Tryz.func59 pl59 rfl rfl ?_
  simp [Tryz.ntmps59]
  refine (indexFunc_0 f p xs hl hp).mono ?_
  rintro _ rfl
  simp
  refine vcRet_of [] ?_ rfl
  simp [← idx_any p xs 0 (by omega)]
theorem find1_m (x : Cn) (n : Int) : Meets Tryz.prog 150 [x.pv, .ptr 1000000 0] [.box 2 [.i n]] (fun r => r = ⟨.b (x.conn == n), [.box 2 [.i n]], []⟩) := by
  refine meets tbOk mixed Tryz.func150 pl150 rfl rfl ?_
  simp [Tryz.ntmps150]
  refine vcRet_of [] ?_ rfl
  simp
  rfl
theorem find_m (xs : List Cn) (n : Int) (hl : xs.length < 4294967296) : Meets Tryz.prog 127 [.d (cl xs), .i n] [] (Ret (.i (place xs n))) := by
  refine meets tbOk mixed Tryz.func127 pl127 rfl rfl ?_
  simp [Tryz.ntmps127]
  refine (indexFunc_1 150 2 (.v (.int .i64 n)) (fun x => x.conn == n) xs hl (fun x _ => find1_m x n)).mono ?_
  rintro _ rfl
  simp
  refine vcRet_of [] ?_ rfl
  simp [place]
set_option maxHeartbeats 1600000 in
theorem check_m (s : St) (hl : s.cs.length < 4294967296) : Meets Tryz.prog 78 [s.pv] [] (Ret (.i (chk s))) := by
  refine meets tbOk mixed Tryz.func78 pl78 rfl rfl ?_
  simp [Tryz.ntmps78]
  refine (numbers_m s).mono ?_
  rintro _ rfl
  cases hr : nums s.most s.idle s.age
  · simp
    refine vcRet_of [] ?_ rfl
    simp [chk, hr]
  simp
  refine (containsFunc_0 126 oddC s.cs hl (fun x _ => odd_m x)).mono ?_
  rintro _ rfl
  cases ho : s.cs.any oddC
  case true =>
    simp
    refine vcRet_of [] ?_ rfl
    simp [chk, ho]
  by_cases hm : s.most < (s.cs.length : Int)
  · simp [hm]
    refine vcRet_of [] ?_ rfl
    simp [chk, hr, ho, hm]
  simp [hm]
  refine vc_loop (fun n σ => ∃ k : Nat, n = s.cs.length - k ∧ k ≤ s.cs.length ∧ dupTo s.cs k = false ∧ σ = ⟨57, [(24, .i k), (23, .i s.cs.length), (22, .d (cl s.cs)), (3, .b (sortTo s.cs k)), (1, .ptr 1 0)], [(1, .box 24 s.cells)]⟩) ?_ ?_
  · exact ⟨_, _, ⟨0, rfl, Nat.zero_le _, rfl, rfl⟩, [], _, rfl, by simp [sortTo]⟩
  · rintro n σ ⟨k, rfl, hk, hd, rfl⟩
    by_cases hlt : k < s.cs.length
    · obtain ⟨x, hx, e⟩ := at_lt hlt
      simp [hlt, e]
      refine ⟨hk, effCall (by simp only [← List.map_take]; exact find_m (s.cs.take k) x.conn (by simp; omega)) ?_⟩
      simp [-vc_drawn]
      refine ⟨by kernel_rfl, fun hp => ?_, fun hp => ?_⟩
      · refine vcRet_of [] ?_ rfl
        have hd2 : dupTo s.cs (k + 1) = true := by rw [dupTo_succ hx]; simp; exact .inr hp
        simp [chk, hr, ho, hm, dupTo_mono hlt hd2]
      have hd2 : dupTo s.cs (k + 1) = false := by rw [dupTo_succ hx, hd]; simp; exact hp
      have hs2 := sortTo_succ hx
      cases hs : sortTo s.cs k
      · set_option maxRecDepth 4000 in simp
        refine ⟨by kernel_rfl, ?_⟩
        simp [wrap_succ hlt hl]
        refine ⟨_, ?_, _, ⟨k + 1, rfl, hlt, hd2, rfl⟩, [], _, rfl, by simp [hs2, hs]⟩
        omega
      by_cases h0 : k = 0
      · subst h0
        set_option maxRecDepth 4000 in simp
        refine ⟨by kernel_rfl, ?_⟩
        refine ⟨_, ?_, _, ⟨1, rfl, hlt, hd2, rfl⟩, [], _, rfl, by simp [hs2, hs]; rfl⟩
        omega
      have hk1 : k - 1 < s.cs.length := by omega
      obtain ⟨y, hy, ey⟩ := at_lt hk1
      have hw : IntKind.i64.wrap ((k : Int) - 1) = ((k - 1 : Nat) : Int) := by rw [IntWalk.i64_in _ (by omega)]; omega
      set_option maxRecDepth 4000 in simp [h0, hw, hk1, ey]
      refine ⟨by kernel_rfl, ?_⟩
      simp [wrap_succ hlt hl]
      refine ⟨_, ?_, _, ⟨k + 1, rfl, hlt, hd2, rfl⟩, [], _, rfl, by simp [hs2, hs, h0, hy]⟩
      omega
    · obtain rfl : k = s.cs.length := by omega
      cases hs : sortTo s.cs s.cs.length
      · simp
        refine vcRet_of [] ?_ rfl
        simp [chk, hr, ho, hm, hd, hs]
      · simp
        refine vcRet_of [] ?_ rfl
        simp [chk, hr, ho, hm, hd, hs]
end Go.Proofs.YtajjmhpdiikjhaaGreat.Id
namespace Go.Proofs.YtajjmhpdiikjhaaGreat.Id
set_option maxRecDepth 100000
open Go.RowKit

theorem ready_m (s : St) (now : Int) (hl : s.cs.length < 4294967296) : Meets Tryz.prog 132 [.ptr 1000000 0, .i now] [s.box] (fun r => r = ⟨.i (rdy s now), [s.box], []⟩) := by
  refine meets tbOk mixed Tryz.func132 pl132 rfl rfl ?_
  simp [Tryz.ntmps132]
  refine (check_m s hl).mono ?_
  rintro _ rfl
  by_cases hc : chk s = 0
  case neg =>
    simp [hc]
    refine vcRet_of [] ?_ rfl
    simp [rdy, hc]
  by_cases h1 : now < 0
  · simp [hc, h1]
    refine vcRet_of [] ?_ rfl
    simp [rdy, hc, badTime, h1]
  by_cases h2 : 1000000000000 < now
  · simp [hc, h1, h2]
    refine vcRet_of [] ?_ rfl
    simp [rdy, hc, badTime, h1, h2]
  by_cases h0 : 0 < s.cs.length
  · obtain ⟨y, hy, ey⟩ := at_lt (show s.cs.length - 1 < s.cs.length by omega)
    have hw : IntKind.i64.wrap ((s.cs.length : Int) - 1) = ((s.cs.length - 1 : Nat) : Int) := by rw [IntWalk.i64_in _ (by omega)]; omega
    have hk : s.cs.length - 1 < s.cs.length := by omega
    simp [hc, h1, h2, h0, hw, hk]
    rw [ey]
    refine ⟨fun h => vcRet_of [] ?_ rfl, fun h => vcRet_of [] ?_ rfl⟩
    · simp [rdy_bad (now := now) hc hy (.inr (.inr h))]
    · simp [rdy_ok (now := now) hc h0 hy (by omega)]
  · simp [hc, h1, h2, h0]
    refine vcRet_of [] ?_ rfl
    simp [rdy, hc, badTime, h1, h2, h0]
theorem between_m (a b c : Int) : Meets Tryz.prog 136 [.i a, .i b, .i c] [] (Ret (.b (inB a b c))) := by
  refine meets tbOk mixed Tryz.func136 pl136 rfl rfl ?_
  simp [Tryz.ntmps136]
  refine ⟨fun h => vcRet_of [] ?_ rfl, fun h => vcRet_of [] ?_ rfl⟩
  · simp [inB, h]
  · simp [inB]; omega
theorem refNumbers_m (m i a : Int) : Meets Tryz.prog 135 [.i m, .i i, .i a] [] (Ret (.b (nums m i a))) := by
  refine meetsH [] tbOk mixed Tryz.func135 pl135 rfl rfl ?_
  simp [Tryz.ntmps135]
  refine (between_m m 0 64).mono ?_
  rintro _ rfl
  cases h1 : inB m 0 64
  · simp
    refine vcRet_of [] ?_ rfl
    simp [nums, h1]
  simp
  refine (between_m i 1 1000000000000).mono ?_
  rintro _ rfl
  cases h2 : inB i 1 1000000000000
  · simp
    refine vcRet_of [] ?_ rfl
    simp [nums, h1, h2]
  simp
  refine (between_m a 1 1000000000000).mono ?_
  rintro _ rfl
  simp
  refine vcRet_of [] ?_ rfl
  simp [nums, h1, h2]
set_option maxHeartbeats 1000000 in
theorem same_m (s t : St) (hl : s.cs.length < 4294967296) : Meets Tryz.prog 43 [s.pv, t.pv] [] (Ret (.b (decide (s = t)))) := by
  refine meetsH [] tbOk mixed Tryz.func43 pl43 rfl rfl ?_
  obtain ⟨a, b, c, xs⟩ := s
  obtain ⟨a', b', c', ys⟩ := t
  dsimp only at hl
  by_cases h1 : a = a'
  case neg =>
    simp [Tryz.ntmps43, h1]
    refine vcRet_of [] ?_ rfl
    simp
  by_cases h2 : b = b'
  case neg =>
    simp [Tryz.ntmps43, h1, h2]
    refine vcRet_of [] ?_ rfl
    simp
  by_cases h3 : c = c'
  case neg =>
    simp [Tryz.ntmps43, h1, h2, h3]
    refine vcRet_of [] ?_ rfl
    simp
  by_cases hlen : xs.length = ys.length
  case neg =>
    have hl2 : ¬ ((xs.length : Int) = ys.length) := by omega
    simp [Tryz.ntmps43, h1, h2, h3, hl2]
    refine vcRet_of [] ?_ rfl
    have : xs ≠ ys := fun e => hlen (by rw [e])
    simp [this]
  subst h1 h2 h3
  simp [Tryz.ntmps43, ← hlen]
  refine vc_loop (fun m σ => ∃ k : Nat, m = xs.length - k ∧ k ≤ xs.length ∧ xs.take k = ys.take k ∧ σ = ⟨52, [(5, .i k), (2, .ptr 2 0), (3, .ptr 3 0)], [(2, .box 24 [.i a, .i b, .i c, .d (cl xs)]), (3, .box 24 [.i a, .i b, .i c, .d (cl ys)])]⟩) ?_ ?_
  · exact ⟨_, _, ⟨0, rfl, Nat.zero_le _, rfl, rfl⟩, [], _, rfl, by simp⟩
  · rintro m σ ⟨k, rfl, hk, hn, rfl⟩
    by_cases hlt : k < xs.length
    · obtain ⟨x, hx, e⟩ := at_lt hlt
      obtain ⟨y, hy, e'⟩ := at_lt (show k < ys.length by omega)
      have hlt' : k < ys.length := by omega
      simp [hlt, hlt', e, e', wrap_succ hlt hl]
      refine ⟨by kernel_rfl, fun h => vcRet_of [] ?_ rfl, fun h1 h2 h3 => ⟨_, ?_, _, ⟨k + 1, rfl, hlt, ?_, rfl⟩, [], _, rfl, by simp⟩⟩
      · have : xs ≠ ys := fun e2 => by
          subst e2
          rw [hx] at hy
          cases hy
          simp at h
        simp [this]
      · omega
      · rw [List.take_add_one, List.take_add_one, hn, hx, hy]
        obtain ⟨a, b, c⟩ := x
        obtain ⟨a', b', c'⟩ := y
        simp at h1 h2 h3
        rw [h1, h2, h3]
    · obtain rfl : k = xs.length := by omega
      simp
      refine vcRet_of [] ?_ rfl
      have : xs = ys := by rw [List.take_length, hlen, List.take_length] at hn; exact hn
      simp [this]
theorem any_none {xs : List Cn} (h : noneTo oddC xs xs.length) : xs.any oddC = false := by
  rw [List.any_eq_false]
  intro x hx
  obtain ⟨i, hi⟩ := List.mem_iff_getElem?.1 hx
  simp [h i x (lt_some hi) hi]
theorem any_at {xs : List Cn} {k : Nat} {x : Cn} (hx : xs[k]? = some x) (h : oddC x = true) : xs.any oddC = true := List.any_eq_true.2 ⟨x, List.mem_of_getElem? hx, h⟩
theorem take_at {cs : List Cn} {k j : Nat} {y : Cn} (hj : j < k) (hy : cs[j]? = some y) : (cs.take k)[j]? = some y := by rw [List.getElem?_take, if_pos hj, hy]
theorem dup_hit {cs : List Cn} {k j : Nat} {x y : Cn} (hx : cs[k]? = some x) (hj : j < k) (hy : cs[j]? = some y) (h : x.conn = y.conn) (hn : noneTo (fun y : Cn => y.conn == x.conn) cs j) : dupTo cs (k + 1) = true := by
  have h2 : place (cs.take k) x.conn = j := by
    unfold place
    refine idx_hit _ _ j y (take_at hj hy) (by simp [h]) fun i z hi hz => hn i z hi ?_
    rw [take_at (cs := cs) (y := cs[i]'(by have := lt_some hy; omega)) (by omega) (List.getElem?_eq_getElem _)] at hz
    rw [← hz]
    exact List.getElem?_eq_getElem _
  rw [dupTo_succ hx, h2]
  simp
theorem dup_miss {cs : List Cn} {k : Nat} {x : Cn} (hx : cs[k]? = some x) (hd : dupTo cs k = false) (hn : noneTo (fun y : Cn => y.conn == x.conn) cs k) : dupTo cs (k + 1) = false := by
  have h2 : place (cs.take k) x.conn = -1 := by
    unfold place
    refine idx_miss _ _ fun i z hi hz => ?_
    rw [List.length_take] at hi
    rw [List.getElem?_take, if_pos (by omega)] at hz
    exact hn i z (by omega) hz
  rw [dupTo_succ hx, h2, hd]
  simp
theorem sortTo_mono {cs : List Cn} {k : Nat} : ∀ {n : Nat}, k ≤ n → sortTo cs k = false → sortTo cs n = false
  | 0, h, hd => by obtain rfl : k = 0 := by omega
                   exact hd
  | n + 1, h, hd => by
    by_cases hk : k = n + 1
    · subst hk; exact hd
    · rw [sortTo, sortTo_mono (n := n) (by omega) hd]; rfl
theorem oddC_in (x : Cn) : oddC x = !(inB x.conn 1 1000000000000000 && (inB x.since 0 1000000000000 && inB x.born 0 x.since)) := rfl
set_option maxHeartbeats 1600000 in
theorem refCheck_m (s : St) (hl : s.cs.length < 4294967296) : Meets Tryz.prog 93 [s.pv] [] (Ret (.i (chk s))) := by
  refine meets tbOk mixed Tryz.func93 pl93 rfl rfl ?_
  simp [Tryz.ntmps93]
  refine (refNumbers_m s.most s.idle s.age).mono ?_
  rintro _ rfl
  cases hr : nums s.most s.idle s.age
  · simp
    refine vcRet_of [] ?_ rfl
    simp [chk, hr]
  simp
  refine vc_loop (fun m σ => ∃ k : Nat, m = s.cs.length - k ∧ k ≤ s.cs.length ∧ noneTo oddC s.cs k ∧ σ = ⟨98, [(3, .i k), (1, .ptr 1 0)], [(1, .box 24 s.cells)]⟩) ?_ ?_
  · exact ⟨_, _, ⟨0, rfl, Nat.zero_le _, noneTo_zero _ _, rfl⟩, [], _, rfl, by simp⟩
  rintro m σ ⟨k, rfl, hk, hn, rfl⟩
  by_cases hlt : k < s.cs.length
  · obtain ⟨x, hx, e⟩ := at_lt hlt
    simp [hlt, e]
    refine (between_m x.conn 1 1000000000000000).mono ?_
    rintro _ rfl
    cases h1 : inB x.conn 1 1000000000000000
    · simp
      refine vcRet_of [] ?_ rfl
      simp [chk, hr, any_at hx (by rw [oddC_in]; simp [h1])]
    simp
    refine (between_m x.since 0 1000000000000).mono ?_
    rintro _ rfl
    cases h2 : inB x.since 0 1000000000000
    · simp
      refine vcRet_of [] ?_ rfl
      simp [chk, hr, any_at hx (by rw [oddC_in]; simp [h2])]
    simp
    refine (between_m x.born 0 x.since).mono ?_
    rintro _ rfl
    cases h3 : inB x.born 0 x.since
    · simp
      refine vcRet_of [] ?_ rfl
      simp [chk, hr, any_at hx (by rw [oddC_in]; simp [h3])]
    simp [wrap_succ hlt hl]
    refine ⟨_, ?_, _, ⟨k + 1, rfl, hlt, noneTo_succ hn hx (by rw [oddC_in]; simp [h1, h2, h3]), rfl⟩, [], _, rfl, by simp⟩
    omega
  obtain rfl : k = s.cs.length := by omega
  have ho := any_none hn
  by_cases hm : s.most < (s.cs.length : Int)
  · simp [hm]
    refine vcRet_of [] ?_ rfl
    simp [chk, hr, ho, hm]
  simp [hm]
  refine vc_loop (fun m σ => ∃ k : Nat, m = s.cs.length - k ∧ k ≤ s.cs.length ∧ dupTo s.cs k = false ∧ σ = ⟨98, [(5, .i k), (1, .ptr 1 0)], [(1, .box 24 s.cells)]⟩) ?_ ?_
  · exact ⟨_, _, ⟨0, rfl, Nat.zero_le _, rfl, rfl⟩, [], _, rfl, by simp⟩
  rintro m σ ⟨k, rfl, hk, hd, rfl⟩
  by_cases hlt : k < s.cs.length
  · obtain ⟨x, hx, e⟩ := at_lt hlt
    simp [hlt]
    refine vc_loop (fun m σ => ∃ j : Nat, m = k - j ∧ j ≤ k ∧ noneTo (fun y : Cn => y.conn == x.conn) s.cs j ∧ σ = ⟨98, [(6, .i j), (5, .i k), (1, .ptr 1 0)], [(1, .box 24 s.cells)]⟩) ?_ ?_
    · exact ⟨_, _, ⟨0, rfl, Nat.zero_le _, noneTo_zero _ _, rfl⟩, [], _, rfl, by simp⟩
    rintro m σ ⟨j, rfl, hj, hn2, rfl⟩
    by_cases hjk : j < k
    · have hjl : j < s.cs.length := by omega
      obtain ⟨y, hy, e'⟩ := at_lt hjl
      simp [hjk, hlt, hjl, e, e', wrap_succ hjl hl]
      refine ⟨by kernel_rfl, fun h => vcRet_of [] ?_ rfl, fun h => ⟨_, ?_, _, ⟨j + 1, rfl, hjk, noneTo_succ hn2 hy ?_, rfl⟩, [], _, rfl, by simp⟩⟩
      · simp [chk, hr, ho, hm, dupTo_mono hlt (dup_hit hx hjk hy h hn2)]
      · omega
      · simp; exact fun e => h e.symm
    · obtain rfl : j = k := by omega
      simp [wrap_succ hlt hl]
      refine ⟨_, ?_, _, ⟨j + 1, rfl, hlt, ?_, rfl⟩, [], _, rfl, by simp⟩
      · omega
      · exact dup_miss hx hd hn2
  obtain rfl : k = s.cs.length := by omega
  simp
  refine vc_loop (fun m σ => ∃ k : Nat, m = s.cs.length - k ∧ 1 ≤ k ∧ k ≤ s.cs.length + 1 ∧ sortTo s.cs (min k s.cs.length) = true ∧ σ = ⟨98, [(7, .i k), (1, .ptr 1 0)], [(1, .box 24 s.cells)]⟩) ?_ ?_
  · refine ⟨_, _, ⟨1, rfl, Nat.le_refl _, by omega, ?_, rfl⟩, [], _, rfl, by simp⟩
    by_cases h0 : s.cs.length = 0
    · rw [h0]; rfl
    · rw [show min 1 s.cs.length = 1 by omega]; rfl
  rintro m σ ⟨k, rfl, hk1, hk, hs, rfl⟩
  by_cases hlt : k < s.cs.length
  · obtain ⟨x, hx, e⟩ := at_lt hlt
    have hk2 : k - 1 < s.cs.length := by omega
    obtain ⟨y, hy, ey⟩ := at_lt hk2
    have hw : IntKind.i64.wrap ((k : Int) - 1) = ((k - 1 : Nat) : Int) := by rw [IntWalk.i64_in _ (by omega)]; omega
    simp [hlt, e, hk2, hw, ey, wrap_succ hlt hl]
    have hs' : sortTo s.cs k = true := by rw [show min k s.cs.length = k by omega] at hs; exact hs
    have hst := sortTo_succ hx
    rw [hs', getD_some hy] at hst
    refine ⟨by kernel_rfl, fun h => vcRet_of [] ?_ rfl, fun h => ⟨_, ?_, _, ⟨k + 1, rfl, by omega, by omega, ?_, rfl⟩, [], _, rfl, by simp⟩⟩
    · have hf : sortTo s.cs (k + 1) = false := by rw [hst]; simp; omega
      simp [chk, hr, ho, hm, hd, sortTo_mono hlt hf]
    · omega
    · rw [show min (k + 1) s.cs.length = k + 1 by omega, hst]
      simp [h]
  · have hs' : sortTo s.cs s.cs.length = true := by rw [show min k s.cs.length = s.cs.length by omega] at hs; exact hs
    simp [hlt]
    refine vcRet_of [] ?_ rfl
    simp [chk, hr, ho, hm, hd, hs']
end Go.Proofs.YtajjmhpdiikjhaaGreat.Id
namespace Go.Proofs.YtajjmhpdiikjhaaGreat.Id
set_option maxRecDepth 100000
open Go.RowKit

set_option maxHeartbeats 1000000 in
theorem new_m (m i a : Int) : Meets Tryz.prog 75 [.i m, .i i, .i a] [] (Ret (.tup [(new m i a).1.pv, .i (new m i a).2])) := by
  refine meetsH [] tbOk mixed Tryz.func75 pl75 rfl rfl ?_
  simp [Tryz.ntmps75]
  refine (numbers_g m i a (.v (.slice none 0 0))).mono ?_
  rintro _ rfl
  cases hr : nums m i a
  · simp
    refine vcRet_of [] ?_ rfl
    simp [new, hr]
  · simp
    refine vcRet_of [] ?_ rfl
    simp [new, hr]
/-- Numbers small enough that nothing wraps. -/
def Small (_i _a now : Int) (x : Cn) : Prop := 0 ≤ x.since ∧ x.since ≤ 1000000000000 ∧ 0 ≤ x.born ∧ x.born ≤ 1000000000000 ∧ 0 ≤ now ∧ now ≤ 1000000000000
theorem small_wrap {a : Int} (h : -4000000000000 ≤ a ∧ a ≤ 4000000000000) : IntKind.i64.wrap a = a := IntWalk.i64_in _ (by omega)
theorem reap1_m (s : St) (now : Int) (x : Cn) (h : Small s.idle s.age now x) : Meets Tryz.prog 133 [x.pv, .ptr 1000000 0, .ptr 1000001 0] [.box 2 [.i now], s.box] (fun r => r = ⟨.b (good s.idle s.age now x), [.box 2 [.i now], s.box], []⟩) := by
  refine meetsH [] tbOk mixed Tryz.func133 pl133 rfl rfl ?_
  obtain ⟨h1, h2, h3, h4, h5, h6⟩ := h
  have w1 := small_wrap (a := now - x.since) (by omega)
  have w2 := small_wrap (a := now - x.born) (by omega)
  by_cases hg : now - x.since < s.idle
  · simp [Tryz.ntmps133, w1, w2, hg]
    refine vcRet_of [] ?_ rfl
    simp [good, hg]
  · simp [Tryz.ntmps133, w1, hg]
    refine vcRet_of [] ?_ rfl
    simp [good, hg]
@[simp] def cns (l : List Cn) : List Int := l.map Cn.conn
set_option maxHeartbeats 1000000 in
theorem split_2 (s : St) (now : Int) (xs : List Cn) (hl : xs.length < 4294967296) (hs : ∀ x ∈ xs, Small s.idle s.age now x) :
    Meets Tryz.prog 99 [.d (cl xs), .clo 133 [.ptr 1000000 0, .ptr 1000001 0]] [.box 2 [.i now], s.box] (fun r => r = ⟨.tup [.d (cl (xs.filter (good s.idle s.age now))), .d (nl (cns (xs.filter fun x => !good s.idle s.age now x)))], [.box 2 [.i now], s.box], []⟩) := by
  refine meetsH [] tbOk mixed Tryz.func99 pl99 rfl rfl ?_
  simp [Tryz.ntmps99]
  obtain ⟨p, hp⟩ : ∃ p, good s.idle s.age now = p := ⟨_, rfl⟩
  simp only [hp]
  refine vc_loop (fun m σ => ∃ k : Nat, m = xs.length - k ∧ k ≤ xs.length ∧ σ = ⟨29, [(10, .i k), (9, .i xs.length), (8, .d (cl xs)), (4, .rw 4 ((xs.take k).filter p).length), (5, .rw 5 ((xs.take k).filter fun x => !p x).length), (1, .clo 133 [.ptr 1000000 0, .ptr 1000001 0])],
    [(1000000, .box 2 [.i now]), (1000001, s.box), (4, .row 92 3 (((xs.take k).filter p).map Cn.ds) false), (5, .row 2 1 ((((xs.take k).filter fun x => !p x).map Cn.conn).map nds) false)]⟩) ?_ ?_
  · exact ⟨_, _, ⟨0, rfl, Nat.zero_le _, rfl⟩, [.row 4 92 3, .row 5 2 1], _, rfl, by simp⟩
  rintro m σ ⟨k, rfl, hk, rfl⟩
  by_cases hlt : k < xs.length
  · obtain ⟨x, hx, e⟩ := at_lt hlt
    have hf1 := List.length_filter_le p (xs.take k)
    have hf2 := List.length_filter_le (fun x : Cn => !p x) (xs.take k)
    rw [List.length_take] at hf1 hf2
    simp [hlt, e]
    refine (reap1_m s now x (hs x (List.mem_of_getElem? hx))).mono ?_
    rintro _ rfl
    rw [hp]
    cases hd : p x
    · simp [wrap_succ hlt hl]
      refine ⟨by omega, _, ?_, _, ⟨k + 1, rfl, hlt, rfl⟩, [], _, rfl, by simp [List.take_add_one, hx, hd]⟩
      omega
    · simp [wrap_succ hlt hl]
      refine ⟨by omega, _, ?_, _, ⟨k + 1, rfl, hlt, rfl⟩, [], _, rfl, by simp [List.take_add_one, hx, hd]⟩
      omega
  obtain rfl : k = xs.length := by omega
  simp
  refine vcRet_of [] ?_ rfl
  simp
  exact ⟨List.take_of_length_le (by simp), List.take_of_length_le (by simp)⟩
theorem small_of {s : St} {now : Int} (h : rdy s now = 0) : ∀ x ∈ s.cs, Small s.idle s.age now x := fun x hx => by
  have h1 := chk_mem (rdy_chk h) hx
  have h2 : badTime s now = false := by
    unfold rdy at h
    rw [if_neg (by rw [rdy_chk h]; simp)] at h
    cases hb : badTime s now
    · rfl
    · rw [hb] at h; simp at h
  have h3 : 0 ≤ now ∧ now ≤ 1000000000000 := by simp [badTime] at h2; omega
  exact ⟨by omega, by omega, by omega, by omega, h3.1, h3.2⟩
set_option maxHeartbeats 1000000 in
theorem reap_m (s : St) (now : Int) (hl : s.cs.length < 4294967296) : Meets Tryz.prog 85 [s.pv, .i now] [] (Ret (.tup [(reap s now).1.pv, .d (nl (reap s now).2.1), .i (reap s now).2.2])) := by
  refine meetsH [] tbOk mixed Tryz.func85 pl85 rfl rfl ?_
  simp [Tryz.ntmps85]
  refine (ready_m s now hl).mono ?_
  rintro _ rfl
  by_cases hc : rdy s now = 0
  case neg =>
    simp [hc]
    refine vcRet_of [] ?_ rfl
    simp [reap, hc]
  simp [hc]
  refine (split_2 s now s.cs hl (small_of hc)).mono ?_
  rintro _ rfl
  simp
  refine vcRet_of [] ?_ rfl
  simp [reap, hc, left, shut]
end Go.Proofs.YtajjmhpdiikjhaaGreat.Id
namespace Go.Proofs.YtajjmhpdiikjhaaGreat.Id
set_option maxRecDepth 100000
open Go.RowKit

/-- What Backward yields. -/
def backs (xs : List Cn) : List (List PV) := (List.range xs.length).map fun i : Nat => [.i ((xs.length : Int) - 1 - (i : Int)), (xs.getD (xs.length - 1 - i) default).pv]
theorem backs_len (xs : List Cn) : (backs xs).length = xs.length := by simp [backs]
theorem backs_at {xs : List Cn} {k : Nat} (h : k < xs.length) : (backs xs)[k]? = some [.i ((xs.length : Int) - 1 - k), (xs.getD (xs.length - 1 - k) default).pv] := by
  unfold backs
  rw [List.getElem?_map, List.getElem?_range h]
  rfl
theorem backs_mem {xs : List Cn} {x : List PV} (h : x ∈ backs xs) : x.length = 2 ∧ ∀ p ∈ x, p.keys = [] := by
  obtain ⟨i, _, rfl⟩ := List.mem_map.1 h
  simp
theorem backward_it (xs : List Cn) (hl : xs.length < 4294967296) : Iters Tryz.prog 155 [.ptr 1000000 0] [.box 22 [.d (cl xs)]] (backs xs) := by
  refine iters_of tbOk Tryz.func155 rfl pl155 rfl rfl (fun x hx => (backs_mem hx).2) fun l => ?_
  have w0 := small_wrap (a := (xs.length : Int) - 1) (by omega)
  simp [Tryz.ntmps155, w0]
  refine vcY_loop (fun n i σ => ∃ k : Nat, n = xs.length - k ∧ k ≤ xs.length ∧ i = some k ∧ σ = ⟨19, [(3, .i ((xs.length : Int) - 1 - k)), (0, .d (.v (.func (.yield l) #[] #[]))), (1, .ptr 1000000 0)], [(1000000, .box 22 [.d (cl xs)])]⟩) ?_ ?_
  · exact ⟨_, _, ⟨0, rfl, Nat.zero_le _, rfl, rfl⟩, by simp⟩
  rintro n i σ ⟨k, rfl, hk, rfl, rfl⟩
  by_cases hlt : k < xs.length
  · have hk1 : xs.length - 1 - k < xs.length := by omega
    obtain ⟨x, hx, e⟩ := at_lt hk1
    have h0 : 0 ≤ (xs.length : Int) - 1 - k := by omega
    have e1 : ((xs.length : Int) - 1 - k) = ((xs.length - 1 - k : Nat) : Int) := by omega
    have w1 : IntKind.i64.wrap ((xs.length : Int) - 1 - k - 1) = (xs.length : Int) - 1 - (k + 1 : Nat) := by rw [small_wrap (by omega)]; omega
    have hb := backs_at hlt
    rw [getD_some hx] at hb
    rw [e1] at hb h0 w1 ⊢
    simp [hk1, e, hb, w1]
    refine ⟨_, ?_, _, ⟨k + 1, rfl, hlt, rfl, rfl⟩, by simp⟩
    omega
  · obtain rfl : k = xs.length := by omega
    simp [backs_len]
    omega
theorem backward_m (xs : List Cn) : Meets Tryz.prog 143 [.d (cl xs)] [] (fun r => r = ⟨.clo 155 [.ptr 2000000 0], [], [.box 22 [.d (cl xs)]]⟩) := by
  refine meetsH [] tbOk mixed Tryz.func143 pl143 rfl rfl ?_
  simp [Tryz.ntmps143]
  refine vcRet_of [1] ?_ rfl
  simp
theorem last_m (xs : List Cn) : Meets Tryz.prog 114 [.d (cl xs)] [] (fun r => r = ⟨.clo 155 [.ptr 2000000 0], [], [.box 22 [.d (cl xs)]]⟩) := by
  refine meetsH [] tbOk mixed Tryz.func114 pl114 rfl rfl ?_
  simp [Tryz.ntmps114]
  refine (backward_m xs).mono ?_
  rintro _ rfl
  simp
  refine vcRet_of [4] ?_ rfl
  simp
end Go.Proofs.YtajjmhpdiikjhaaGreat.Id
namespace Go.Proofs.YtajjmhpdiikjhaaGreat.Id
set_option maxRecDepth 100000
open Go.RowKit

def Cn.zero : Cn := ⟨0, 0, 0⟩
theorem take_len {s : St} {now : Int} (hl : s.cs.length < 4294967296) : (left s now).length < 4294967296 := Nat.lt_of_le_of_lt (List.length_filter_le _ _) hl
set_option maxRecDepth 100000 in
set_option maxHeartbeats 2000000 in
theorem take_m (s : St) (now : Int) (hl : s.cs.length < 4294967296) : Meets Tryz.prog 72 [s.pv, .i now] [] (Ret (.tup [(take s now).1.pv, (take s now).2.1.pv, .d (nl (take s now).2.2.1), .i (take s now).2.2.2])) := by
  refine meetsH [] tbOk mixed Tryz.func72 pl72 rfl rfl ?_
  simp [Tryz.ntmps72]
  refine (reap_m s now hl).mono ?_
  rintro _ rfl
  by_cases hc : rdy s now = 0
  case neg =>
    have e : reap s now = (s, [], rdy s now) := by simp [reap, hc]
    simp [e, hc]
    refine ⟨by kernel_rfl, vcRet_of [] ?_ rfl⟩
    simp [take, hc]
  have e : reap s now = (⟨s.most, s.idle, s.age, left s now⟩, shut s now, 0) := by simp [reap, hc]
  simp [e]
  obtain ⟨L, hL⟩ : ∃ L, left s now = L := ⟨_, rfl⟩
  have hlL : L.length < 4294967296 := hL ▸ take_len hl
  simp only [hL]
  refine (last_m L).mono ?_
  rintro _ rfl
  simp
  refine vc_range ⟨155, [.ptr 24 0], [24], [.box 22 [.d (cl L)]], backs L, maskOf [24, 4, 5, 6, 7], fun i σ => i = 0 ∧ σ = ⟨38, [(24, .clo 155 [.ptr 24 0]), (4, .ptr 4 0), (5, .ptr 5 0), (6, .ptr 6 0), (7, .ptr 7 0)], [(24, .box 22 [.d (cl L)]), (4, .box 24 [.i s.most, .i s.idle, .i s.age, .d (cl L)]), (5, .box 92 [.i 0, .i 0, .i 0]), (6, .box 61 [.d (nl (shut s now))]), (7, .box 38 [.i 0])]⟩⟩ (backward_it L hlL) (by kernel_rfl) (fun x hx => backs_mem hx) ?_ ?_ ?_ ?_
  · exact ⟨_, ⟨rfl, rfl⟩, [], _, rfl, by simp⟩
  · rintro i σ ⟨rfl, rfl⟩
    simp
  · rintro i x σ ⟨rfl, rfl⟩ hx
    have h0 : 0 < L.length := by rw [← backs_len]; exact lt_some hx
    obtain ⟨q, hq⟩ : ∃ q, q + 1 = L.length := ⟨L.length - 1, by omega⟩
    have hk : q < L.length := by omega
    obtain ⟨y, hy, ey⟩ := at_lt hk
    have e1 : (L.length : Int) - 1 - (0 : Nat) = (q : Int) := by omega
    have e2 : L.length - 1 - 0 = q := by omega
    have hx2 : some x = some [.i (q : Int), y.pv] := by
      rw [← hx]
      show (backs L)[0]? = _
      rw [backs_at h0, e1, e2, getD_some hy]
    obtain rfl := Option.some.inj hx2
    simp
    refine ⟨by omega, by kernel_rfl, vcRet_of [] ?_ rfl⟩
    have e3 : L ≠ [] := fun e => by rw [e] at h0; simp at h0
    have e4 : L.length - 1 = q := by omega
    simp [take, hc, hL, e3, e4, hy]
  · rintro σ ⟨h0, rfl⟩
    have h0 : L = [] := by
      have : (backs L).length = 0 := h0
      rw [backs_len] at this
      exact List.length_eq_zero_iff.1 this
    subst h0
    simp
    refine ⟨by kernel_rfl, vcRet_of [] ?_ rfl⟩
    simp [take, hc, hL]
theorem take_wrap {L : List Cn} {q : Nat} (hq : q + 1 = L.length) (hl : L.length < 4294967296) : IntKind.i64.wrap ((L.length : Int) - 1) = (q : Int) := by rw [small_wrap (by omega)]; omega
end Go.Proofs.YtajjmhpdiikjhaaGreat.Id
namespace Go.Proofs.YtajjmhpdiikjhaaGreat.Id
set_option maxRecDepth 100000
open Go.RowKit

@[simp] theorem take_map_ds (xs : List Cn) : List.take xs.length (List.map Cn.ds xs) = List.map Cn.ds xs := List.take_of_length_le (by simp)
@[simp] theorem take_map_nds (xs : List Cn) : List.take xs.length (List.map (nds ∘ Cn.conn) xs) = List.map (nds ∘ Cn.conn) xs := List.take_of_length_le (by simp)
theorem sums {s : St} (hc : chk s = 0) {x : Cn} (hx : x ∈ s.cs) : IntKind.i64.wrap (x.since + s.idle) = x.since + s.idle ∧ IntKind.i64.wrap (x.born + s.age) = x.born + s.age := by
  have h1 := chk_mem hc hx
  have h2 := chk_nums hc
  simp [nums, inB] at h2
  exact ⟨small_wrap (by omega), small_wrap (by omega)⟩
theorem drain1_m (x : Cn) : Meets Tryz.prog 100 [x.pv] [] (Ret (.b false)) := by
  refine meetsH [] tbOk mixed Tryz.func100 pl100 rfl rfl ?_
  simp [Tryz.ntmps100]
  refine vcRet_of [] ?_ rfl
  simp
set_option maxHeartbeats 1000000 in
theorem split_0 (xs : List Cn) (hl : xs.length < 4294967296) : Meets Tryz.prog 99 [.d (cl xs), .clo 100 []] [] (Ret (.tup [.d (cl []), .d (nl (cns xs))])) := by
  refine meetsH [] tbOk mixed Tryz.func99 pl99 rfl rfl ?_
  simp [Tryz.ntmps99]
  refine vc_loop (fun m σ => ∃ k : Nat, m = xs.length - k ∧ k ≤ xs.length ∧ σ = ⟨29, [(10, .i k), (9, .i xs.length), (8, .d (cl xs)), (4, .d (.v (.slice none 0 0))), (5, .rw 5 k), (1, .clo 100 [])],
    [(5, .row 2 1 (((xs.take k).map Cn.conn).map nds) false)]⟩) ?_ ?_
  · exact ⟨_, _, ⟨0, rfl, Nat.zero_le _, rfl⟩, [.row 5 2 1], _, rfl, by simp⟩
  rintro m σ ⟨k, rfl, hk, rfl⟩
  by_cases hlt : k < xs.length
  · obtain ⟨x, hx, e⟩ := at_lt hlt
    simp [hlt, e]
    refine (drain1_m x).mono ?_
    rintro _ rfl
    have e5 : min k xs.length = k := by omega
    simp [wrap_succ hlt hl, e5]
    refine ⟨by omega, _, ?_, _, ⟨k + 1, rfl, hlt, rfl⟩, [], _, rfl, by simp [List.take_add_one, hx]⟩
    omega
  obtain rfl : k = xs.length := by omega
  simp
  refine vcRet_of [] ?_ rfl
  simp
set_option maxHeartbeats 1000000 in
theorem drain_m (s : St) (hl : s.cs.length < 4294967296) : Meets Tryz.prog 51 [s.pv] [] (Ret (.tup [(drain s).1.pv, .d (nl (drain s).2.1), .i (drain s).2.2])) := by
  refine meetsH [] tbOk mixed Tryz.func51 pl51 rfl rfl ?_
  simp [Tryz.ntmps51]
  refine (check_m s hl).mono ?_
  rintro _ rfl
  by_cases hc : chk s = 0
  case neg =>
    simp [hc]
    refine vcRet_of [] ?_ rfl
    simp [drain, hc]
  simp [hc]
  refine (split_0 s.cs hl).mono ?_
  rintro _ rfl
  simp
  refine vcRet_of [] ?_ rfl
  simp [drain, hc]
end Go.Proofs.YtajjmhpdiikjhaaGreat.Id
namespace Go.Proofs.YtajjmhpdiikjhaaGreat.Id
set_option maxRecDepth 100000
open Go.RowKit

theorem over_max {s : St} {m : Int} : max ((s.cs.length : Int) - m) 0 = (over s m : Int) := by unfold over; omega
theorem over_wrap {s : St} {m : Int} (hm : 0 ≤ m ∧ m ≤ 64) (hl : s.cs.length < 4294967296) : IntKind.i64.wrap ((s.cs.length : Int) - m) = (s.cs.length : Int) - m := small_wrap (by omega)
abbrev cloneR (xs : List Cn) : Res := ⟨.rw 2000000 xs.length, [], [.row 92 3 (xs.map Cn.ds) false]⟩
theorem clone_m (xs : List Cn) (hl : xs.length < 4294967296) : Meets Tryz.prog 139 [.d (cl xs)] [] (fun r => r = cloneR xs) := by
  refine meetsH [] tbOk mixed Tryz.func139 pl139 rfl rfl ?_
  simp [Tryz.ntmps139]
  refine ⟨⟨hl, vcRet_of [5] ?_ rfl⟩, fun h => vcRet_prep [.row 2 92 3] [2] rfl ?_ rfl⟩
  · simp
  · simp [h]
theorem remove_none (s : St) (n : Int) (hc : chk s = 0) (h : place s.cs n < 0) : remove s n = (s, ⟨0, 0, 0⟩, 4) := by simp [remove, hc, h]
theorem remove_at (s : St) (n : Int) (k : Nat) {x : Cn} (hc : chk s = 0) (h : place s.cs n = k) (hx : s.cs[k]? = some x) : remove s n = (⟨s.most, s.idle, s.age, s.cs.eraseIdx k⟩, x, 0) := by
  have : ¬ place s.cs n < 0 := by omega
  simp [remove, hc, h, hx]
end Go.Proofs.YtajjmhpdiikjhaaGreat.Id
namespace Go.Proofs.YtajjmhpdiikjhaaGreat.Id
set_option maxRecDepth 100000
open Go.RowKit

theorem put_err {s : St} {n b now : Int} (h : rdy s now ≠ 0) : put s n b now = (s, [], rdy s now) := by simp [put, h]
theorem put_odd {s : St} {n b now : Int} (h : rdy s now = 0) (h1 : oddC ⟨n, b, now⟩ = true) : put s n b now = (s, [], 7) := by simp [put, h, h1]
theorem put_two {s : St} {n b now : Int} (h : rdy s now = 0) (h1 : oddC ⟨n, b, now⟩ = false) (h2 : 0 ≤ place s.cs n) : put s n b now = (s, [], 8) := by simp [put, h, h1, h2]
theorem put_none {s : St} {n b now : Int} (h : rdy s now = 0) (h1 : oddC ⟨n, b, now⟩ = false) (h2 : ¬ 0 ≤ place s.cs n) (h3 : s.most = 0 ∨ s.age ≤ now - b) : put s n b now = (s, [n], 0) := by
  unfold put; rw [if_neg (by simp [h]), if_neg (by simp [h1]), if_neg h2, if_pos h3]
theorem put_in {s : St} {n b now : Int} (h : rdy s now = 0) (h1 : oddC ⟨n, b, now⟩ = false) (h2 : ¬ 0 ≤ place s.cs n) (h3 : ¬ (s.most = 0 ∨ s.age ≤ now - b)) (h4 : (s.cs.length : Int) + 1 ≤ s.most) : put s n b now = (⟨s.most, s.idle, s.age, s.cs ++ [⟨n, b, now⟩]⟩, [], 0) := by
  unfold put; rw [if_neg (by simp [h]), if_neg (by simp [h1]), if_neg h2, if_neg h3, if_pos h4]
theorem put_full {s : St} {n b now : Int} (h : rdy s now = 0) (h1 : oddC ⟨n, b, now⟩ = false) (h2 : ¬ 0 ≤ place s.cs n) (h3 : ¬ (s.most = 0 ∨ s.age ≤ now - b)) (h4 : ¬ (s.cs.length : Int) + 1 ≤ s.most) {x : Cn} {r : List Cn} (hx : s.cs = x :: r) : put s n b now = (⟨s.most, s.idle, s.age, r ++ [⟨n, b, now⟩]⟩, [x.conn], 0) := by
  unfold put; rw [if_neg (by simp [h]), if_neg (by simp [h1]), if_neg h2, if_neg h3, if_neg h4, hx]; simp
theorem rdy_now {s : St} {now : Int} (h : rdy s now = 0) : 0 ≤ now ∧ now ≤ 1000000000000 := by
  have h2 : badTime s now = false := by
    unfold rdy at h
    rw [if_neg (by rw [rdy_chk h]; simp)] at h
    cases hb : badTime s now
    · rfl
    · rw [hb] at h; simp at h
  simp [badTime] at h2; omega
set_option maxRecDepth 20000 in
set_option maxHeartbeats 2000000 in
theorem put_m (s : St) (n b now : Int) (hl : s.cs.length < 4294967296) : Meets Tryz.prog 108 [s.pv, .i n, .i b, .i now] [] (Ret (.tup [(put s n b now).1.pv, .d (nl (put s n b now).2.1), .i (put s n b now).2.2])) := by
  refine meetsH [] tbOk mixed Tryz.func108 pl108 rfl rfl ?_
  simp [Tryz.ntmps108]
  refine (ready_m s now hl).mono ?_
  rintro _ rfl
  by_cases hc : rdy s now = 0
  case neg =>
    simp [hc]
    refine vcRet_of [] ?_ rfl
    simp [put_err hc]
  simp [hc]
  refine (odd_m ⟨n, b, now⟩).mono ?_
  rintro _ rfl
  cases h1 : oddC ⟨n, b, now⟩
  case true =>
    simp
    refine vcRet_of [] ?_ rfl
    simp [put_odd hc h1]
  simp
  refine (find_m s.cs n hl).mono ?_
  rintro _ rfl
  by_cases h2 : 0 ≤ place s.cs n
  · simp [h2]
    refine vcRet_of [] ?_ rfl
    simp [put_two hc h1 h2]
  have hb : 0 ≤ b ∧ b ≤ now := by simp [oddC, inB] at h1; omega
  have hn := rdy_now hc
  have w1 := small_wrap (a := now - b) (by omega)
  by_cases h3 : s.most = 0
  · simp [h2, h3]
    refine vcRet_of [] ?_ rfl
    simp [put_none hc h1 h2 (.inl h3), h3]
  by_cases h4 : s.age ≤ now - b
  · simp [h2, h3, w1, h4]
    refine vcRet_of [] ?_ rfl
    simp [put_none hc h1 h2 (.inr h4)]
  have h34 : ¬ (s.most = 0 ∨ s.age ≤ now - b) := by omega
  have hlm := chk_len (rdy_chk hc)
  have hmm := chk_most (rdy_chk hc)
  simp [h2, h3, w1, h4]
  refine effCallN (clone_m s.cs hl) ?_
  simp
  by_cases h5 : (s.cs.length : Int) + 1 ≤ s.most
  · have h6 : ¬ s.most < (s.cs.length : Int) + 1 := by omega
    simp [h6]
    refine ⟨by omega, by kernel_rfl, fun _ => vcRet_of [] ?_ rfl⟩
    simp [put_in hc h1 h2 h34 h5]
    exact List.take_of_length_le (by simp)
  · obtain ⟨x, r, hx⟩ : ∃ x r, s.cs = x :: r := by
      cases hcs : s.cs with
      | nil => rw [hcs] at hlm h5; simp at hlm h5; omega
      | cons x r => exact ⟨x, r, rfl⟩
    have h6 : s.most < (s.cs.length : Int) + 1 := by omega
    have hl2 : (s.cs.length : Int) = r.length + 1 := by rw [hx]; simp
    simp [h6]
    simp [hx]
    have hr := congrArg List.length hx
    simp at hr
    refine ⟨by omega, by kernel_rfl, ⟨by omega, vcRet_of [] ?_ rfl⟩, fun h => ?_⟩
    · simp [put_full hc h1 h2 h34 h5 hx]
      exact ⟨by omega, List.take_of_length_le (by simp)⟩
    · omega
end Go.Proofs.YtajjmhpdiikjhaaGreat.Id
namespace Go.Proofs.YtajjmhpdiikjhaaGreat.Id
set_option maxRecDepth 100000

theorem place_any_eq (cs : List Cn) (n : Int) : decide (0 ≤ place cs n) = cs.any (fun x => x.conn == n) := idx_any _ cs 0 (by omega)

theorem dupTo_iff {cs : List Cn} : ∀ {k : Nat}, k ≤ cs.length → (dupTo cs k = false ↔ (cs.take k).Pairwise fun a b => a.conn ≠ b.conn)
  | 0, _ => by simp [dupTo]
  | k + 1, h => by
    obtain ⟨x, hx⟩ := some_lt (show k < cs.length by omega)
    have ih := dupTo_iff (cs := cs) (k := k) (by omega)
    rw [dupTo_succ hx, Bool.or_eq_false_iff, ih, place_any_eq, List.take_add_one, hx, List.pairwise_append]
    simp only [Option.toList_some, List.pairwise_singleton, true_and, List.mem_singleton, List.any_eq_false, beq_iff_eq]
    constructor
    · rintro ⟨h1, h2⟩
      exact ⟨h1, fun a ha b hb => by subst hb; exact h2 a ha⟩
    · rintro ⟨h1, h2⟩
      exact ⟨h1, fun a ha => h2 a ha x rfl⟩

theorem sortTo_iff {cs : List Cn} : ∀ {k : Nat}, k ≤ cs.length → (sortTo cs k = true ↔ (cs.take k).Pairwise fun a b => a.since ≤ b.since)
  | 0, _ => by simp [sortTo]
  | k + 1, h => by
    obtain ⟨x, hx⟩ := some_lt (show k < cs.length by omega)
    have ih := sortTo_iff (cs := cs) (k := k) (by omega)
    rw [sortTo_succ hx, Bool.and_eq_true, ih, List.take_add_one, hx, List.pairwise_append]
    simp only [Option.toList_some, List.pairwise_singleton, true_and, List.mem_singleton, Bool.or_eq_true, beq_iff_eq, decide_eq_true_eq]
    rcases Nat.eq_zero_or_pos k with rfl | hk
    · simp
    · obtain ⟨y, hy⟩ := some_lt (show k - 1 < cs.length by omega)
      rw [getD_some hy]
      constructor
      · rintro ⟨h1, h2⟩
        have h2' : y.since ≤ x.since := by
          rcases h2 with h2 | h2
          · omega
          · exact h2
        refine ⟨h1, fun a ha b hb => ?_⟩
        subst hb
        obtain ⟨j, hj, rfl⟩ := List.mem_iff_getElem.1 ha
        have hjl : j < k := by rw [List.length_take] at hj; omega
        have hyk : k - 1 < (cs.take k).length := by rw [List.length_take]; omega
        have hye : (cs.take k)[k - 1] = y := by
          rw [List.getElem_take]
          rw [List.getElem?_eq_getElem (by omega)] at hy
          exact Option.some.inj hy
        by_cases hjk : j = k - 1
        · subst hjk; rw [hye]; exact h2'
        · have := List.pairwise_iff_getElem.1 h1 j (k - 1) hj hyk (by omega)
          rw [hye] at this
          exact Int.le_trans this h2'
      · rintro ⟨h1, h2⟩
        refine ⟨h1, .inr (h2 y ?_ x rfl)⟩
        exact List.mem_of_getElem? (i := k - 1) (by rw [List.getElem?_take, if_pos (by omega)]; exact hy)

/-- A state that is one. -/
structure Good (s : St) : Prop where
  nums : nums s.most s.idle s.age = true
  odd : s.cs.any oddC = false
  long : (s.cs.length : Int) ≤ s.most
  calls : s.cs.Pairwise fun a b => a.conn ≠ b.conn
  sorted : s.cs.Pairwise fun a b => a.since ≤ b.since

theorem chk_good {s : St} : chk s = 0 ↔ Good s := by
  have hd := dupTo_iff (cs := s.cs) (Nat.le_refl _)
  have hs := sortTo_iff (cs := s.cs) (Nat.le_refl _)
  rw [List.take_length] at hd hs
  unfold chk
  constructor
  · intro h
    split at h
    · omega
    rename_i h1
    split at h
    · omega
    rename_i h2
    split at h
    · omega
    rename_i h3
    split at h
    · rename_i h4
      simp only [Bool.not_eq_true, Bool.or_eq_false_iff, Bool.not_eq_false'] at h1 h3
      exact ⟨h1.1, h1.2, by omega, hd.1 h3, hs.1 h4⟩
    · omega
  · rintro ⟨h1, h2, h3, h4, h5⟩
    rw [h1, h2, hd.2 h4, hs.2 h5]
    simp; omega

theorem Good.sub {s : St} (h : Good s) {cs : List Cn} (hsub : cs.Sublist s.cs) : Good ⟨s.most, s.idle, s.age, cs⟩ := by
  refine ⟨h.nums, ?_, ?_, h.calls.sublist hsub, h.sorted.sublist hsub⟩
  · have := h.odd
    rw [List.any_eq_false] at this ⊢
    exact fun x hx => this x (hsub.subset hx)
  · have := hsub.length_le
    have := h.long
    show (cs.length : Int) ≤ s.most
    omega
theorem Good.short {s : St} (h : Good s) : s.cs.length ≤ 64 := chk_small (chk_good.2 h)
/-- A state at a time. -/
structure At (s : St) (now : Int) : Prop extends Good s where
  lo : 0 ≤ now
  hi : now ≤ 1000000000000
  since : ∀ x ∈ s.cs, x.since ≤ now
theorem At.rdy {s : St} {now : Int} (h : At s now) : rdy s now = 0 := by
  have hc := chk_good.2 h.toGood
  have h0 := h.lo
  have h1 := h.hi
  by_cases hl : 0 < s.cs.length
  · obtain ⟨y, hy⟩ := some_lt (show s.cs.length - 1 < s.cs.length by omega)
    have := h.since y (List.mem_of_getElem? hy)
    exact rdy_ok hc hl hy (by omega)
  · exact rdy_ok0 hc (by omega) (by omega)
theorem At.of_rdy {s : St} {now : Int} (h : Go.Proofs.YtajjmhpdiikjhaaGreat.Id.rdy s now = 0) : At s now := by
  have hc := rdy_chk h
  have hg := chk_good.1 hc
  have h2 : badTime s now = false := by
    unfold Go.Proofs.YtajjmhpdiikjhaaGreat.Id.rdy at h
    rw [if_neg (by rw [hc]; simp)] at h
    cases hb : badTime s now
    · rfl
    · rw [hb] at h; simp at h
  have h3 : 0 ≤ now ∧ now ≤ 1000000000000 := by simp [badTime] at h2; omega
  refine ⟨hg, h3.1, h3.2, fun x hx => ?_⟩
  obtain ⟨i, hi⟩ := List.getElem?_of_mem hx
  have hil := lt_some hi
  obtain ⟨y, hy⟩ := some_lt (show s.cs.length - 1 < s.cs.length by omega)
  have h4 : y.since ≤ now := by
    simp only [badTime, getD_some hy] at h2
    simp at h2
    have := h2.2
    omega
  by_cases he : i = s.cs.length - 1
  · subst he; rw [hi] at hy; cases hy; exact h4
  · have hx' : s.cs[i] = x := by rw [List.getElem?_eq_getElem hil] at hi; exact Option.some.inj hi
    have hl2 : s.cs.length - 1 < s.cs.length := by omega
    have hy' : s.cs[s.cs.length - 1] = y := by rw [List.getElem?_eq_getElem hl2] at hy; exact Option.some.inj hy
    have := List.pairwise_iff_getElem.1 hg.sorted i (s.cs.length - 1) hil hl2 (by omega)
    rw [hx', hy'] at this
    omega
theorem At.later {s : St} {now now' : Int} (h : At s now) (h1 : now ≤ now') (h2 : now' ≤ 1000000000000) : At s now' :=
  ⟨h.toGood, by have := h.lo; omega, h2, fun x hx => by have := h.since x hx; omega⟩
theorem At.sub {s : St} {now : Int} (h : At s now) {cs : List Cn} (hsub : cs.Sublist s.cs) : At ⟨s.most, s.idle, s.age, cs⟩ now :=
  ⟨h.toGood.sub hsub, h.lo, h.hi, fun x hx => h.since x (hsub.subset hx)⟩
theorem At.reap {s : St} {now : Int} (h : At s now) : reap s now = (⟨s.most, s.idle, s.age, left s now⟩, shut s now, 0) := by
  simp [Go.Proofs.YtajjmhpdiikjhaaGreat.Id.reap, h.rdy]
theorem left_sub (s : St) (now : Int) : (left s now).Sublist s.cs := List.filter_sublist
theorem fold_lt (s : St) (t : Int) : ∀ (cs : List Cn) (m : Int), (t < cs.foldl (fun m x => min (min m (x.since + s.idle)) (x.born + s.age)) m ↔ t < m ∧ ∀ x ∈ cs, good s.idle s.age t x = true)
  | [], m => by simp
  | x :: cs, m => by
    rw [List.foldl_cons, fold_lt s t cs]
    simp only [List.mem_cons, forall_eq_or_imp, good, Bool.and_eq_true, decide_eq_true_eq]
    constructor
    · rintro ⟨h1, h2⟩
      exact ⟨by omega, ⟨by omega, by omega⟩, h2⟩
    · rintro ⟨h1, ⟨h2, h3⟩, h4⟩
      exact ⟨by omega, h4⟩
/-- Before the least time nothing is shut. -/
theorem least_lt {s : St} {t : Int} (ht : t ≤ 1000000000000) : t < least s s.cs ↔ shut s t = [] := by
  unfold least shut
  rw [fold_lt]
  constructor
  · rintro ⟨_, h⟩
    rw [List.map_eq_nil_iff, List.filter_eq_nil_iff]
    intro x hx
    simp [h x hx]
  · intro h
    rw [List.map_eq_nil_iff, List.filter_eq_nil_iff] at h
    refine ⟨by omega, fun x hx => ?_⟩
    have := h x hx
    simpa using this
theorem left_left (s : St) (now : Int) : left ⟨s.most, s.idle, s.age, left s now⟩ now = left s now := by
  show (left s now).filter (good s.idle s.age now) = left s now
  exact List.filter_eq_self.2 fun x hx => by
    unfold left at hx
    exact (List.mem_filter.1 hx).2
theorem shut_left (s : St) (now : Int) : shut ⟨s.most, s.idle, s.age, left s now⟩ now = [] := by
  show ((left s now).filter fun x => !good s.idle s.age now x).map Cn.conn = []
  rw [List.map_eq_nil_iff, List.filter_eq_nil_iff]
  intro x hx
  unfold left at hx
  simp [(List.mem_filter.1 hx).2]
theorem Good.push {m i a : Int} {xs : List Cn} {c : Cn} (h : Good ⟨m, i, a, xs⟩) (hl : (xs.length : Int) + 1 ≤ m) (ho : oddC c = false) (hc : ∀ x ∈ xs, x.conn ≠ c.conn) (hs : ∀ x ∈ xs, x.since ≤ c.since) : Good ⟨m, i, a, xs ++ [c]⟩ := by
  refine ⟨h.nums, ?_, by simpa using hl, ?_, ?_⟩
  · rw [List.any_append, h.odd]; simp [ho]
  · rw [List.pairwise_append]
    exact ⟨h.calls, List.pairwise_singleton _ _, fun x hx y hy => by rw [List.mem_singleton.1 hy]; exact hc x hx⟩
  · rw [List.pairwise_append]
    exact ⟨h.sorted, List.pairwise_singleton _ _, fun x hx y hy => by rw [List.mem_singleton.1 hy]; exact hs x hx⟩
end Go.Proofs.YtajjmhpdiikjhaaGreat.Id
