/- The functions on idle connections as plain functions on lists. No condition. -/
namespace Go.Proofs.Ytjbpkibhkaagjaa

structure Cn where
  conn : Int
  born : Int
  since : Int
deriving DecidableEq
instance : Inhabited Cn := ⟨⟨0, 0, 0⟩⟩

structure St where
  most : Int
  idle : Int
  age : Int
  cs : List Cn
deriving DecidableEq

def inB (a b c : Int) : Bool := decide (b ≤ a) && decide (a ≤ c)
def nums (m i a : Int) : Bool := inB m 0 64 && (inB i 1 1000000000000 && inB a 1 1000000000000)
def oddC (x : Cn) : Bool := !(inB x.conn 1 1000000000000000 && (inB x.since 0 1000000000000 && inB x.born 0 x.since))

/-- The first place where p holds, from k on; -1: none. -/
def idx {α : Type} (p : α → Bool) : List α → Int → Int
  | [], _ => -1
  | x :: xs, k => if p x then k else idx p xs (k + 1)
def place (cs : List Cn) (conn : Int) : Int := idx (fun x => x.conn == conn) cs 0

def dupTo (cs : List Cn) : Nat → Bool
  | 0 => false
  | k + 1 => dupTo cs k || decide (0 ≤ place (cs.take k) (cs.getD k default).conn)
def sortTo (cs : List Cn) : Nat → Bool
  | 0 => true
  | k + 1 => sortTo cs k && (k == 0 || decide ((cs.getD (k - 1) default).since ≤ (cs.getD k default).since))

def chk (s : St) : Int :=
  if !nums s.most s.idle s.age || s.cs.any oddC then 7
  else if s.most < s.cs.length then 3
  else if dupTo s.cs s.cs.length then 8
  else if sortTo s.cs s.cs.length then 0 else 6

def badTime (s : St) (now : Int) : Bool := decide (now < 0) || decide (1000000000000 < now) || (decide (0 < s.cs.length) && decide (now < (s.cs.getD (s.cs.length - 1) default).since))
def rdy (s : St) (now : Int) : Int := if chk s ≠ 0 then chk s else if badTime s now then 7 else 0

/-- Usable at a time. -/
def good (i a now : Int) (x : Cn) : Bool := decide (now - x.since < i) && decide (now - x.born < a)
def left (s : St) (now : Int) : List Cn := s.cs.filter (good s.idle s.age now)
def shut (s : St) (now : Int) : List Int := (s.cs.filter fun x => !good s.idle s.age now x).map Cn.conn
def put (s : St) (n b now : Int) : St × List Int × Int :=
  if rdy s now ≠ 0 then (s, [], rdy s now)
  else if oddC ⟨n, b, now⟩ then (s, [], 7)
  else if 0 ≤ place s.cs n then (s, [], 8)
  else if s.most = 0 ∨ s.age ≤ now - b then (s, [n], 0)
  else if (s.cs.length : Int) + 1 ≤ s.most then (⟨s.most, s.idle, s.age, s.cs ++ [⟨n, b, now⟩]⟩, [], 0)
  else (⟨s.most, s.idle, s.age, (s.cs ++ [(⟨n, b, now⟩ : Cn)]).drop 1⟩, [((s.cs ++ [(⟨n, b, now⟩ : Cn)]).getD 0 default).conn], 0)
def reap (s : St) (now : Int) : St × List Int × Int :=
  if rdy s now ≠ 0 then (s, [], rdy s now) else (⟨s.most, s.idle, s.age, left s now⟩, shut s now, 0)
def take (s : St) (now : Int) : St × Cn × List Int × Int :=
  if rdy s now ≠ 0 then (s, ⟨0, 0, 0⟩, [], rdy s now)
  else if left s now = [] then (⟨s.most, s.idle, s.age, []⟩, ⟨0, 0, 0⟩, shut s now, 4)
  else (⟨s.most, s.idle, s.age, (left s now).take ((left s now).length - 1)⟩, (left s now).getD ((left s now).length - 1) default, shut s now, 0)
def remove (s : St) (n : Int) : St × Cn × Int :=
  if chk s ≠ 0 then (s, ⟨0, 0, 0⟩, chk s)
  else if place s.cs n < 0 then (s, ⟨0, 0, 0⟩, 4)
  else (⟨s.most, s.idle, s.age, s.cs.eraseIdx (place s.cs n).toNat⟩, s.cs.getD (place s.cs n).toNat default, 0)
def least (s : St) (cs : List Cn) : Int := cs.foldl (fun m x => min (min m (x.since + s.idle)) (x.born + s.age)) 1000000000001
def next (s : St) : Int × Int :=
  if chk s ≠ 0 then (0, chk s) else if 1000000000000 < least s s.cs then (0, 4) else (least s s.cs, 0)
def usable (s : St) (now : Int) : List Int × Int :=
  if rdy s now ≠ 0 then ([], rdy s now) else (((left s now).map Cn.conn).reverse, 0)
def over (s : St) (m : Int) : Nat := ((s.cs.length : Int) - m).toNat
def resize (s : St) (m : Int) : St × List Int × Int :=
  if chk s ≠ 0 then (s, [], chk s) else if !inB m 0 64 then (s, [], 7)
  else (⟨m, s.idle, s.age, s.cs.drop (over s m)⟩, (s.cs.take (over s m)).map Cn.conn, 0)
def drain (s : St) : St × List Int × Int := if chk s ≠ 0 then (s, [], chk s) else (⟨s.most, s.idle, s.age, []⟩, s.cs.map Cn.conn, 0)
def new (m i a : Int) : St × Int := if nums m i a then (⟨m, i, a, []⟩, 0) else (⟨0, 0, 0, []⟩, 7)

theorem getD_some {α : Type} {xs : List α} {k : Nat} {x d : α} (h : xs[k]? = some x) : xs.getD k d = x := by simp [List.getD, h]
theorem lt_some {α : Type} {xs : List α} {k : Nat} {x : α} (h : xs[k]? = some x) : k < xs.length := (List.getElem?_eq_some_iff.1 h).1
theorem some_lt {α : Type} {xs : List α} {k : Nat} (h : k < xs.length) : ∃ x, xs[k]? = some x := ⟨_, List.getElem?_eq_getElem h⟩

theorem idx_range {α : Type} (p : α → Bool) : ∀ (xs : List α) (k : Int), idx p xs k = -1 ∨ (k ≤ idx p xs k ∧ idx p xs k < k + xs.length)
  | [], _ => .inl rfl
  | x :: xs, k => by
    unfold idx
    split
    · right; simp; omega
    · rcases idx_range p xs (k + 1) with h | h
      · exact .inl h
      · right; simp only [List.length_cons]; omega
/-- None of the first k; then the next is asked. -/
theorem idx_skip {α : Type} (p : α → Bool) : ∀ (k : Nat) (xs : List α) (j : Int), (∀ i x, i < k → xs[i]? = some x → p x = false) → k ≤ xs.length → idx p xs j = idx p (xs.drop k) (j + k)
  | 0, xs, j, _, _ => by simp
  | k + 1, [], j, _, h => by simp at h
  | k + 1, x :: xs, j, h, hl => by
    have h0 := h 0 x (by omega) rfl
    rw [idx, h0]
    simp only [Bool.false_eq_true, if_false, List.drop_succ_cons]
    rw [idx_skip p k xs (j + 1) (fun i y hi hy => h (i + 1) y (by omega) (by simpa using hy)) (by simp at hl; omega)]
    congr 1; omega
theorem idx_hit {α : Type} (p : α → Bool) (xs : List α) (k : Nat) (x : α) (hk : xs[k]? = some x) (hp : p x = true) (h : ∀ i y, i < k → xs[i]? = some y → p y = false) : idx p xs 0 = k := by
  have hl := lt_some hk
  rw [idx_skip p k xs 0 h (by omega), List.drop_eq_getElem_cons hl, idx]
  have : xs[k] = x := by rw [List.getElem?_eq_getElem hl] at hk; exact Option.some.inj hk
  rw [this, hp]; simp
theorem idx_miss {α : Type} (p : α → Bool) (xs : List α) (h : ∀ i y, i < xs.length → xs[i]? = some y → p y = false) : idx p xs 0 = -1 := by
  rw [idx_skip p xs.length xs 0 h (Nat.le_refl _), List.drop_length, idx]
theorem idx_any {α : Type} (p : α → Bool) : ∀ (xs : List α) (k : Int), 0 ≤ k → decide (0 ≤ idx p xs k) = xs.any p
  | [], _, _ => by simp [idx]
  | x :: xs, k, hk => by
    unfold idx
    cases hp : p x
    · simp [hp, idx_any p xs (k + 1) (by omega)]
    · simp [hp, hk]

theorem dupTo_succ {cs : List Cn} {k : Nat} {x : Cn} (h : cs[k]? = some x) : dupTo cs (k + 1) = (dupTo cs k || decide (0 ≤ place (cs.take k) x.conn)) := by rw [dupTo, getD_some h]
theorem dupTo_mono {cs : List Cn} {k : Nat} : ∀ {n : Nat}, k ≤ n → dupTo cs k = true → dupTo cs n = true
  | 0, h, hd => by obtain rfl : k = 0 := by omega
                   exact hd
  | n + 1, h, hd => by
    by_cases hk : k = n + 1
    · subst hk; exact hd
    · rw [dupTo, dupTo_mono (n := n) (by omega) hd]; rfl
theorem sortTo_succ {cs : List Cn} {k : Nat} {x : Cn} (h : cs[k]? = some x) : sortTo cs (k + 1) = (sortTo cs k && (k == 0 || decide ((cs.getD (k - 1) default).since ≤ x.since))) := by rw [sortTo, getD_some h]

theorem rdy_bad {s : St} {now : Int} {y : Cn} (h : chk s = 0) (hy : s.cs[s.cs.length - 1]? = some y) : (now < 0 ∨ 1000000000000 < now ∨ now < y.since) → rdy s now = 7 := by
  intro hb
  have := lt_some hy
  have h0 : 0 < s.cs.length := by omega
  simp only [rdy, h, badTime, getD_some hy, h0, decide_true, Bool.true_and]
  rcases hb with hb | hb | hb <;> simp [hb]
theorem rdy_ok {s : St} {now : Int} {y : Cn} (h : chk s = 0) (h0 : 0 < s.cs.length) (hy : s.cs[s.cs.length - 1]? = some y) : ¬ (now < 0 ∨ 1000000000000 < now ∨ now < y.since) → rdy s now = 0 := by
  intro hb
  simp only [rdy, h, badTime, getD_some hy, h0, decide_true, Bool.true_and]
  simp; omega
theorem rdy_bad0 {s : St} {now : Int} (h : chk s = 0) (h0 : s.cs.length = 0) : (now < 0 ∨ 1000000000000 < now) → rdy s now = 7 := by
  intro hb
  simp only [rdy, h, badTime, h0]
  rcases hb with hb | hb <;> simp [hb]
theorem rdy_ok0 {s : St} {now : Int} (h : chk s = 0) (h0 : s.cs.length = 0) : ¬ (now < 0 ∨ 1000000000000 < now) → rdy s now = 0 := by
  intro hb
  simp only [rdy, h, badTime, h0]
  simp; omega
theorem chk_nums {s : St} (h : chk s = 0) : nums s.most s.idle s.age = true := by
  unfold chk at h
  split at h
  · cases h
  · rename_i h1; simp at h1; exact h1.1
theorem chk_odd {s : St} (h : chk s = 0) : s.cs.any oddC = false := by
  unfold chk at h
  split at h
  · cases h
  · rename_i h1; simpa using (by simp at h1; exact h1.2 : ∀ x ∈ s.cs, oddC x = false)
theorem chk_len {s : St} (h : chk s = 0) : (s.cs.length : Int) ≤ s.most := by
  unfold chk at h
  split at h
  · cases h
  · split at h
    · cases h
    · omega
theorem rdy_chk {s : St} {now : Int} (h : rdy s now = 0) : chk s = 0 := by
  unfold rdy at h
  split at h
  · rename_i h1; exact absurd h h1
  · rename_i h1; simpa using h1
theorem chk_most {s : St} (h : chk s = 0) : 0 ≤ s.most ∧ s.most ≤ 64 := by
  have := chk_nums h
  simp [nums, inB] at this
  exact this.1
theorem chk_small {s : St} (h : chk s = 0) : s.cs.length ≤ 64 := by
  have := chk_most h
  have := chk_len h
  omega
theorem chk_mem {s : St} (h : chk s = 0) {x : Cn} (hx : x ∈ s.cs) : (1 ≤ x.conn ∧ x.conn ≤ 1000000000000000) ∧ (0 ≤ x.since ∧ x.since ≤ 1000000000000) ∧ 0 ≤ x.born ∧ x.born ≤ x.since := by
  have := chk_odd h
  rw [List.any_eq_false] at this
  have := this x hx
  simpa [oddC, inB] using this
theorem least_succ {s : St} {cs : List Cn} {k : Nat} {x : Cn} (h : cs[k]? = some x) : least s (cs.take (k + 1)) = min (min (least s (cs.take k)) (x.since + s.idle)) (x.born + s.age) := by
  unfold least
  rw [List.take_add_one, h]
  simp
end Go.Proofs.Ytjbpkibhkaagjaa
