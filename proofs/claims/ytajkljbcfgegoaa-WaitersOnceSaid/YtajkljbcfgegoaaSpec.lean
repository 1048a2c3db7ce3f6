/- The waiters' functions as plain functions on lists. No condition. -/
namespace Go.Proofs.Ytajkljbcfgegoaa

structure Wt where
  call : Int
  since : Int
  dead : Int
deriving DecidableEq
instance : Inhabited Wt := ⟨⟨0, 0, 0⟩⟩

structure St where
  most : Int
  ws : List Wt
deriving DecidableEq

def callOk (n : Int) : Bool := decide (1 ≤ n) && decide (n ≤ 1000000000000000)
def room (n : Int) : Bool := decide (0 ≤ n) && decide (n ≤ 64)
def oddW (x : Wt) : Bool := !(callOk x.call && (decide (0 ≤ x.since) && (decide (x.since ≤ 1000000000000) && (decide (x.since < x.dead) && decide (x.dead ≤ 1000000000001)))))

/-- The first place where p holds, from k on; -1: none. -/
def idx {α : Type} (p : α → Bool) : List α → Int → Int
  | [], _ => -1
  | x :: xs, k => if p x then k else idx p xs (k + 1)
def place (ws : List Wt) (call : Int) : Int := idx (fun x => x.call == call) ws 0

def dupTo (ws : List Wt) : Nat → Bool
  | 0 => false
  | k + 1 => dupTo ws k || decide (0 ≤ place (ws.take k) (ws.getD k default).call)
def sortTo (ws : List Wt) : Nat → Bool
  | 0 => true
  | k + 1 => sortTo ws k && (k == 0 || decide ((ws.getD (k - 1) default).since ≤ (ws.getD k default).since))

def chk (s : St) : Int :=
  if !room s.most || s.ws.any oddW then 7
  else if s.most < s.ws.length then 3
  else if dupTo s.ws s.ws.length then 8
  else if sortTo s.ws s.ws.length then 0 else 6

def badTime (s : St) (now : Int) : Bool := decide (now < 0) || decide (1000000000000 < now) || (decide (0 < s.ws.length) && decide (now < (s.ws.getD (s.ws.length - 1) default).since))
def rdy (s : St) (now : Int) : Int := if chk s ≠ 0 then chk s else if badTime s now then 7 else 0

def join (s : St) (n now dead : Int) : St × Int :=
  if rdy s now ≠ 0 then (s, rdy s now)
  else if !(callOk n && (decide (0 ≤ dead) && decide (dead ≤ 1000000000001))) then (s, 7)
  else if 0 ≤ place s.ws n then (s, 8)
  else if dead ≤ now then (s, 9)
  else if s.ws.length = s.most then (s, 5)
  else (⟨s.most, s.ws ++ [⟨n, now, dead⟩]⟩, 0)

def outAt (s : St) (i : Int) : St × Wt × Int :=
  if i < 0 then (s, ⟨0, 0, 0⟩, 4) else (⟨s.most, s.ws.eraseIdx i.toNat⟩, s.ws.getD i.toNat default, 0)
def serve (s : St) (now : Int) : St × Wt × Int :=
  if rdy s now ≠ 0 then (s, ⟨0, 0, 0⟩, rdy s now) else outAt s (idx (fun x => decide (now < x.dead)) s.ws 0)
def cancel (s : St) (n : Int) : St × Wt × Int :=
  if chk s ≠ 0 then (s, ⟨0, 0, 0⟩, chk s) else outAt s (place s.ws n)
def expire (s : St) (now : Int) : St × List Wt × Int :=
  if rdy s now ≠ 0 then (s, [], rdy s now) else (⟨s.most, s.ws.filter fun x => decide (now < x.dead)⟩, s.ws.filter (fun x => !decide (now < x.dead)), 0)
def least (ws : List Wt) : Int := ws.foldl (fun m x => min m x.dead) 1000000000001
def next (s : St) : Int × Int :=
  if chk s ≠ 0 then (0, chk s) else if least s.ws = 1000000000001 then (0, 4) else (least s.ws, 0)
def where_ (s : St) (n : Int) : Int × Int :=
  if chk s ≠ 0 then (0, chk s) else if 0 ≤ place s.ws n then (place s.ws n, 0) else (0, 4)
def resize (s : St) (m : Int) : St × List Wt × Int :=
  if chk s ≠ 0 then (s, [], chk s) else if !room m then (s, [], 7) else (⟨m, s.ws.take m.toNat⟩, s.ws.drop m.toNat, 0)
def drain (s : St) : St × List Wt × Int := if chk s ≠ 0 then (s, [], chk s) else (⟨s.most, []⟩, s.ws, 0)
def new (m : Int) : St × Int := if room m then (⟨m, []⟩, 0) else (⟨0, []⟩, 7)

theorem getD_some {α : Type} {xs : List α} {k : Nat} {x d : α} (h : xs[k]? = some x) : xs.getD k d = x := by simp [List.getD, h]
theorem lt_some {α : Type} {xs : List α} {k : Nat} {x : α} (h : xs[k]? = some x) : k < xs.length := (List.getElem?_eq_some_iff.1 h).1
theorem some_lt {α : Type} {xs : List α} {k : Nat} (h : k < xs.length) : ∃ x, xs[k]? = some x := ⟨_, List.getElem?_eq_getElem h⟩

theorem idx_range {α : Type} (p : α → Bool) : ∀ (xs : List α) (k : Int), idx p xs k = -1 ∨ (k ≤ idx p xs k ∧ idx p xs k < k + xs.length)
  | [], _ => .inl rfl
  | x :: xs, k => by
    unfold idx
    split
    · right; simp; omega
    · rcases idx_range p xs (k + 1) with h | h
      · exact .inl h
      · right; simp only [List.length_cons]; omega
/-- None of the first k; then the next is asked. -/
theorem idx_skip {α : Type} (p : α → Bool) : ∀ (k : Nat) (xs : List α) (j : Int), (∀ i x, i < k → xs[i]? = some x → p x = false) → k ≤ xs.length → idx p xs j = idx p (xs.drop k) (j + k)
  | 0, xs, j, _, _ => by simp
  | k + 1, [], j, _, h => by simp at h
  | k + 1, x :: xs, j, h, hl => by
    have h0 := h 0 x (by omega) rfl
    rw [idx, h0]
    simp only [Bool.false_eq_true, if_false, List.drop_succ_cons]
    rw [idx_skip p k xs (j + 1) (fun i y hi hy => h (i + 1) y (by omega) (by simpa using hy)) (by simp at hl; omega)]
    congr 1; omega
theorem idx_hit {α : Type} (p : α → Bool) (xs : List α) (k : Nat) (x : α) (hk : xs[k]? = some x) (hp : p x = true) (h : ∀ i y, i < k → xs[i]? = some y → p y = false) : idx p xs 0 = k := by
  have hl := lt_some hk
  rw [idx_skip p k xs 0 h (by omega), List.drop_eq_getElem_cons hl, idx]
  have : xs[k] = x := by rw [List.getElem?_eq_getElem hl] at hk; exact Option.some.inj hk
  rw [this, hp]; simp
theorem idx_miss {α : Type} (p : α → Bool) (xs : List α) (h : ∀ i y, i < xs.length → xs[i]? = some y → p y = false) : idx p xs 0 = -1 := by
  rw [idx_skip p xs.length xs 0 h (Nat.le_refl _), List.drop_length, idx]
theorem idx_any {α : Type} (p : α → Bool) : ∀ (xs : List α) (k : Int), 0 ≤ k → decide (0 ≤ idx p xs k) = xs.any p
  | [], _, _ => by simp [idx]
  | x :: xs, k, hk => by
    unfold idx
    cases hp : p x
    · simp [hp, idx_any p xs (k + 1) (by omega)]
    · simp [hp, hk]

theorem dupTo_succ {ws : List Wt} {k : Nat} {x : Wt} (h : ws[k]? = some x) : dupTo ws (k + 1) = (dupTo ws k || decide (0 ≤ place (ws.take k) x.call)) := by rw [dupTo, getD_some h]
theorem dupTo_mono {ws : List Wt} {k : Nat} : ∀ {n : Nat}, k ≤ n → dupTo ws k = true → dupTo ws n = true
  | 0, h, hd => by obtain rfl : k = 0 := by omega
                   exact hd
  | n + 1, h, hd => by
    by_cases hk : k = n + 1
    · subst hk; exact hd
    · rw [dupTo, dupTo_mono (n := n) (by omega) hd]; rfl
theorem sortTo_succ {ws : List Wt} {k : Nat} {x : Wt} (h : ws[k]? = some x) : sortTo ws (k + 1) = (sortTo ws k && (k == 0 || decide ((ws.getD (k - 1) default).since ≤ x.since))) := by rw [sortTo, getD_some h]

theorem rdy_bad {s : St} {now : Int} {y : Wt} (h : chk s = 0) (hy : s.ws[s.ws.length - 1]? = some y) : (now < 0 ∨ 1000000000000 < now ∨ now < y.since) → rdy s now = 7 := by
  intro hb
  have := lt_some hy
  have h0 : 0 < s.ws.length := by omega
  simp only [rdy, h, badTime, getD_some hy, h0, decide_true, Bool.true_and]
  rcases hb with hb | hb | hb <;> simp [hb]
theorem rdy_ok {s : St} {now : Int} {y : Wt} (h : chk s = 0) (h0 : 0 < s.ws.length) (hy : s.ws[s.ws.length - 1]? = some y) : ¬ (now < 0 ∨ 1000000000000 < now ∨ now < y.since) → rdy s now = 0 := by
  intro hb
  simp only [rdy, h, badTime, getD_some hy, h0, decide_true, Bool.true_and]
  simp; omega
theorem rdy_bad0 {s : St} {now : Int} (h : chk s = 0) (h0 : s.ws.length = 0) : (now < 0 ∨ 1000000000000 < now) → rdy s now = 7 := by
  intro hb
  simp only [rdy, h, badTime, h0]
  rcases hb with hb | hb <;> simp [hb]
theorem rdy_ok0 {s : St} {now : Int} (h : chk s = 0) (h0 : s.ws.length = 0) : ¬ (now < 0 ∨ 1000000000000 < now) → rdy s now = 0 := by
  intro hb
  simp only [rdy, h, badTime, h0]
  simp; omega
/-- Of the first k those that p lets, by their places too. -/
def sel {α : Type} (p : Nat → α → Bool) (ws : List α) : Nat → List α
  | 0 => []
  | k + 1 => sel p ws k ++ (match ws[k]? with | some x => if p k x then [x] else [] | none => [])
theorem sel_yes {α : Type} {p : Nat → α → Bool} {ws : List α} {k : Nat} {x : α} (h : ws[k]? = some x) (hp : p k x = true) : sel p ws (k + 1) = sel p ws k ++ [x] := by simp [sel, h, hp]
theorem sel_no {α : Type} {p : Nat → α → Bool} {ws : List α} {k : Nat} {x : α} (h : ws[k]? = some x) (hp : p k x = false) : sel p ws (k + 1) = sel p ws k := by simp [sel, h, hp]
theorem sel_len {α : Type} (p : Nat → α → Bool) (ws : List α) : ∀ k, (sel p ws k).length ≤ k
  | 0 => by simp [sel]
  | k + 1 => by
    have := sel_len p ws k
    simp only [sel, List.length_append]
    split
    · split <;> simp <;> omega
    · simp; omega
theorem sel_filter {α : Type} (q : α → Bool) (ws : List α) : ∀ k, sel (fun _ => q) ws k = (ws.take k).filter q
  | 0 => by simp [sel]
  | k + 1 => by
    rw [sel, sel_filter q ws k, List.take_add_one, List.filter_append]
    cases h : ws[k]? with
    | none => simp
    | some x => cases hq : q x <;> simp [hq]
theorem sel_take {α : Type} (m : Nat) (ws : List α) : ∀ k, sel (fun i _ => decide (i + 1 ≤ m)) ws k = (ws.take k).take m
  | 0 => by simp [sel]
  | k + 1 => by
    rw [sel, sel_take m ws k, List.take_take, List.take_take]
    by_cases h : k + 1 ≤ m
    · rw [Nat.min_eq_right (by omega), Nat.min_eq_right h, List.take_add_one]
      cases ws[k]? <;> simp [h]
    · rw [Nat.min_eq_left (by omega), Nat.min_eq_left (by omega)]
      cases ws[k]? <;> simp <;> omega
theorem sel_drop {α : Type} (m : Nat) (ws : List α) : ∀ k, sel (fun i _ => !decide (i + 1 ≤ m)) ws k = (ws.take k).drop m
  | 0 => by simp [sel]
  | k + 1 => by
    rw [sel, sel_drop m ws k]
    by_cases h : k + 1 ≤ m
    · rw [List.drop_eq_nil_of_le (by rw [List.length_take]; omega), List.drop_eq_nil_of_le (by rw [List.length_take]; omega)]
      cases ws[k]? <;> simp [h]
    · rw [List.take_add_one, List.drop_append]
      cases hx : ws[k]? with
      | none => simp
      | some x =>
        have hl := lt_some hx
        have : m - (ws.take k).length = 0 := by rw [List.length_take]; omega
        rw [this]
        simp; omega
end Go.Proofs.Ytajkljbcfgegoaa
