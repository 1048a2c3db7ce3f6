/- Waiters: contracts. No condition. -/
import Derived.Test.YtajjmhpdiikjhaaGreatTab
import Derived.Test.YtajjmhpdiikjhaaGreatV24
namespace Go.Proofs.YtajjmhpdiikjhaaGreat.Wa
set_option maxRecDepth 100000

structure Wt where
  call : Int
  since : Int
  dead : Int
deriving DecidableEq
instance : Inhabited Wt := ⟨⟨0, 0, 0⟩⟩

structure St where
  most : Int
  ws : List Wt
deriving DecidableEq

def callOk (n : Int) : Bool := decide (1 ≤ n) && decide (n ≤ 1000000000000000)
def room (n : Int) : Bool := decide (0 ≤ n) && decide (n ≤ 64)
def oddW (x : Wt) : Bool := !(callOk x.call && (decide (0 ≤ x.since) && (decide (x.since ≤ 1000000000000) && (decide (x.since < x.dead) && decide (x.dead ≤ 1000000000001)))))

/-- The first place where p holds, from k on; -1: none. -/
def idx {α : Type} (p : α → Bool) : List α → Int → Int
  | [], _ => -1
  | x :: xs, k => if p x then k else idx p xs (k + 1)
def place (ws : List Wt) (call : Int) : Int := idx (fun x => x.call == call) ws 0

def dupTo (ws : List Wt) : Nat → Bool
  | 0 => false
  | k + 1 => dupTo ws k || decide (0 ≤ place (ws.take k) (ws.getD k default).call)
def sortTo (ws : List Wt) : Nat → Bool
  | 0 => true
  | k + 1 => sortTo ws k && (k == 0 || decide ((ws.getD (k - 1) default).since ≤ (ws.getD k default).since))

def chk (s : St) : Int :=
  if !room s.most || s.ws.any oddW then 7
  else if s.most < s.ws.length then 3
  else if dupTo s.ws s.ws.length then 8
  else if sortTo s.ws s.ws.length then 0 else 6

def badTime (s : St) (now : Int) : Bool := decide (now < 0) || decide (1000000000000 < now) || (decide (0 < s.ws.length) && decide (now < (s.ws.getD (s.ws.length - 1) default).since))
def rdy (s : St) (now : Int) : Int := if chk s ≠ 0 then chk s else if badTime s now then 7 else 0

def join (s : St) (n now dead : Int) : St × Int :=
  if rdy s now ≠ 0 then (s, rdy s now)
  else if !(callOk n && (decide (0 ≤ dead) && decide (dead ≤ 1000000000001))) then (s, 7)
  else if 0 ≤ place s.ws n then (s, 8)
  else if dead ≤ now then (s, 9)
  else if s.ws.length = s.most then (s, 5)
  else (⟨s.most, s.ws ++ [⟨n, now, dead⟩]⟩, 0)

def outAt (s : St) (i : Int) : St × Wt × Int :=
  if i < 0 then (s, ⟨0, 0, 0⟩, 4) else (⟨s.most, s.ws.eraseIdx i.toNat⟩, s.ws.getD i.toNat default, 0)
def serve (s : St) (now : Int) : St × Wt × Int :=
  if rdy s now ≠ 0 then (s, ⟨0, 0, 0⟩, rdy s now) else outAt s (idx (fun x => decide (now < x.dead)) s.ws 0)
def cancel (s : St) (n : Int) : St × Wt × Int :=
  if chk s ≠ 0 then (s, ⟨0, 0, 0⟩, chk s) else outAt s (place s.ws n)
def expire (s : St) (now : Int) : St × List Wt × Int :=
  if rdy s now ≠ 0 then (s, [], rdy s now) else (⟨s.most, s.ws.filter fun x => decide (now < x.dead)⟩, s.ws.filter (fun x => !decide (now < x.dead)), 0)
def least (ws : List Wt) : Int := ws.foldl (fun m x => min m x.dead) 1000000000001
def next (s : St) : Int × Int :=
  if chk s ≠ 0 then (0, chk s) else if least s.ws = 1000000000001 then (0, 4) else (least s.ws, 0)
def where_ (s : St) (n : Int) : Int × Int :=
  if chk s ≠ 0 then (0, chk s) else if 0 ≤ place s.ws n then (place s.ws n, 0) else (0, 4)
def resize (s : St) (m : Int) : St × List Wt × Int :=
  if chk s ≠ 0 then (s, [], chk s) else if !room m then (s, [], 7) else (⟨m, s.ws.take m.toNat⟩, s.ws.drop m.toNat, 0)
def drain (s : St) : St × List Wt × Int := if chk s ≠ 0 then (s, [], chk s) else (⟨s.most, []⟩, s.ws, 0)
def new (m : Int) : St × Int := if room m then (⟨m, []⟩, 0) else (⟨0, []⟩, 7)

theorem getD_some {α : Type} {xs : List α} {k : Nat} {x d : α} (h : xs[k]? = some x) : xs.getD k d = x := by simp [List.getD, h]
theorem lt_some {α : Type} {xs : List α} {k : Nat} {x : α} (h : xs[k]? = some x) : k < xs.length := (List.getElem?_eq_some_iff.1 h).1
theorem some_lt {α : Type} {xs : List α} {k : Nat} (h : k < xs.length) : ∃ x, xs[k]? = some x := ⟨_, List.getElem?_eq_getElem h⟩

theorem idx_range {α : Type} (p : α → Bool) : ∀ (xs : List α) (k : Int), idx p xs k = -1 ∨ (k ≤ idx p xs k ∧ idx p xs k < k + xs.length)
  | [], _ => .inl rfl
  | x :: xs, k => by
    unfold idx
    split
    · right; simp; omega
    · rcases idx_range p xs (k + 1) with h | h
      · exact .inl h
      · right; simp only [List.length_cons]; omega
/-- None of the first k; then the next is asked. -/
theorem idx_skip {α : Type} (p : α → Bool) : ∀ (k : Nat) (xs : List α) (j : Int), (∀ i x, i < k → xs[i]? = some x → p x = false) → k ≤ xs.length → idx p xs j = idx p (xs.drop k) (j + k)
  | 0, xs, j, _, _ => by simp
  | k + 1, [], j, _, h => by simp at h
  | k + 1, x :: xs, j, h, hl => by
    have h0 := h 0 x (by omega) rfl
    rw [idx, h0]
    simp only [Bool.false_eq_true, if_false, List.drop_succ_cons]
    rw [idx_skip p k xs (j + 1) (fun i y hi hy => h (i + 1) y (by omega) (by simpa using hy)) (by simp at hl; omega)]
    congr 1; omega
theorem idx_hit {α : Type} (p : α → Bool) (xs : List α) (k : Nat) (x : α) (hk : xs[k]? = some x) (hp : p x = true) (h : ∀ i y, i < k → xs[i]? = some y → p y = false) : idx p xs 0 = k := by
  have hl := lt_some hk
  rw [idx_skip p k xs 0 h (by omega), List.drop_eq_getElem_cons hl, idx]
  have : xs[k] = x := by rw [List.getElem?_eq_getElem hl] at hk; exact Option.some.inj hk
  rw [this, hp]; simp
theorem idx_miss {α : Type} (p : α → Bool) (xs : List α) (h : ∀ i y, i < xs.length → xs[i]? = some y → p y = false) : idx p xs 0 = -1 := by
  rw [idx_skip p xs.length xs 0 h (Nat.le_refl _), List.drop_length, idx]
theorem idx_any {α : Type} (p : α → Bool) : ∀ (xs : List α) (k : Int), 0 ≤ k → decide (0 ≤ idx p xs k) = xs.any p
  | [], _, _ => by simp [idx]
  | x :: xs, k, hk => by
    unfold idx
    cases hp : p x
    · simp [hp, idx_any p xs (k + 1) (by omega)]
    · simp [hp, hk]

theorem dupTo_succ {ws : List Wt} {k : Nat} {x : Wt} (h : ws[k]? = some x) : dupTo ws (k + 1) = (dupTo ws k || decide (0 ≤ place (ws.take k) x.call)) := by rw [dupTo, getD_some h]
theorem dupTo_mono {ws : List Wt} {k : Nat} : ∀ {n : Nat}, k ≤ n → dupTo ws k = true → dupTo ws n = true
  | 0, h, hd => by obtain rfl : k = 0 := by omega
                   exact hd
  | n + 1, h, hd => by
    by_cases hk : k = n + 1
    · subst hk; exact hd
    · rw [dupTo, dupTo_mono (n := n) (by omega) hd]; rfl
theorem sortTo_succ {ws : List Wt} {k : Nat} {x : Wt} (h : ws[k]? = some x) : sortTo ws (k + 1) = (sortTo ws k && (k == 0 || decide ((ws.getD (k - 1) default).since ≤ x.since))) := by rw [sortTo, getD_some h]

theorem rdy_bad {s : St} {now : Int} {y : Wt} (h : chk s = 0) (hy : s.ws[s.ws.length - 1]? = some y) : (now < 0 ∨ 1000000000000 < now ∨ now < y.since) → rdy s now = 7 := by
  intro hb
  have := lt_some hy
  have h0 : 0 < s.ws.length := by omega
  simp only [rdy, h, badTime, getD_some hy, h0, decide_true, Bool.true_and]
  rcases hb with hb | hb | hb <;> simp [hb]
theorem rdy_ok {s : St} {now : Int} {y : Wt} (h : chk s = 0) (h0 : 0 < s.ws.length) (hy : s.ws[s.ws.length - 1]? = some y) : ¬ (now < 0 ∨ 1000000000000 < now ∨ now < y.since) → rdy s now = 0 := by
  intro hb
  simp only [rdy, h, badTime, getD_some hy, h0, decide_true, Bool.true_and]
  simp; omega
theorem rdy_bad0 {s : St} {now : Int} (h : chk s = 0) (h0 : s.ws.length = 0) : (now < 0 ∨ 1000000000000 < now) → rdy s now = 7 := by
  intro hb
  simp only [rdy, h, badTime, h0]
  rcases hb with hb | hb <;> simp [hb]
theorem rdy_ok0 {s : St} {now : Int} (h : chk s = 0) (h0 : s.ws.length = 0) : ¬ (now < 0 ∨ 1000000000000 < now) → rdy s now = 0 := by
  intro hb
  simp only [rdy, h, badTime, h0]
  simp; omega
/-- Of the first k those that p lets, by their places too. -/
def sel {α : Type} (p : Nat → α → Bool) (ws : List α) : Nat → List α
  | 0 => []
  | k + 1 => sel p ws k ++ (match ws[k]? with | some x => if p k x then [x] else [] | none => [])
theorem sel_yes {α : Type} {p : Nat → α → Bool} {ws : List α} {k : Nat} {x : α} (h : ws[k]? = some x) (hp : p k x = true) : sel p ws (k + 1) = sel p ws k ++ [x] := by simp [sel, h, hp]
theorem sel_no {α : Type} {p : Nat → α → Bool} {ws : List α} {k : Nat} {x : α} (h : ws[k]? = some x) (hp : p k x = false) : sel p ws (k + 1) = sel p ws k := by simp [sel, h, hp]
theorem sel_len {α : Type} (p : Nat → α → Bool) (ws : List α) : ∀ k, (sel p ws k).length ≤ k
  | 0 => by simp [sel]
  | k + 1 => by
    have := sel_len p ws k
    simp only [sel, List.length_append]
    split
    · split <;> simp <;> omega
    · simp; omega
theorem sel_filter {α : Type} (q : α → Bool) (ws : List α) : ∀ k, sel (fun _ => q) ws k = (ws.take k).filter q
  | 0 => by simp [sel]
  | k + 1 => by
    rw [sel, sel_filter q ws k, List.take_add_one, List.filter_append]
    cases h : ws[k]? with
    | none => simp
    | some x => cases hq : q x <;> simp [hq]
theorem sel_take {α : Type} (m : Nat) (ws : List α) : ∀ k, sel (fun i _ => decide (i + 1 ≤ m)) ws k = (ws.take k).take m
  | 0 => by simp [sel]
  | k + 1 => by
    rw [sel, sel_take m ws k, List.take_take, List.take_take]
    by_cases h : k + 1 ≤ m
    · rw [Nat.min_eq_right (by omega), Nat.min_eq_right h, List.take_add_one]
      cases ws[k]? <;> simp [h]
    · rw [Nat.min_eq_left (by omega), Nat.min_eq_left (by omega)]
      cases ws[k]? <;> simp <;> omega
theorem sel_drop {α : Type} (m : Nat) (ws : List α) : ∀ k, sel (fun i _ => !decide (i + 1 ≤ m)) ws k = (ws.take k).drop m
  | 0 => by simp [sel]
  | k + 1 => by
    rw [sel, sel_drop m ws k]
    by_cases h : k + 1 ≤ m
    · rw [List.drop_eq_nil_of_le (by rw [List.length_take]; omega), List.drop_eq_nil_of_le (by rw [List.length_take]; omega)]
      cases ws[k]? <;> simp [h]
    · rw [List.take_add_one, List.drop_append]
      cases hx : ws[k]? with
      | none => simp
      | some x =>
        have hl := lt_some hx
        have : m - (ws.take k).length = 0 := by rw [List.length_take]; omega
        rw [this]
        simp; omega
end Go.Proofs.YtajjmhpdiikjhaaGreat.Wa
namespace Go.Proofs.YtajjmhpdiikjhaaGreat.Wa
set_option maxRecDepth 100000
open Go.RowKit

@[simp] def Wt.cs (x : Wt) : List D := [.v (.int .i64 x.call), .v (.int .i64 x.since), .v (.int .i64 x.dead)]
@[simp] def Wt.pv (x : Wt) : PV := .agg [.i x.call, .i x.since, .i x.dead]
@[simp] def wl (ws : List Wt) : D := .sl 3 (ws.map Wt.cs)
@[simp] def St.pv (s : St) : PV := .agg [.i s.most, .d (wl s.ws)]
@[simp] def bcs (b : Bool) : List D := [.v (.bool b)]
theorem at_lt {α : Type} {xs : List α} {k : Nat} (h : k < xs.length) : ∃ x, xs[k]? = some x ∧ xs[k] = x := ⟨_, List.getElem?_eq_getElem h, rfl⟩
theorem wrap_succ {k n : Nat} (h : k < n) (hn : n < 4294967296) : IntKind.i64.wrap ((k : Int) + 1) = (k : Int) + 1 := IntWalk.i64_in _ (by omega)
/-- p holds of none of the first k. -/
def noneTo {α : Type} (p : α → Bool) (xs : List α) (k : Nat) : Prop := ∀ i y, i < k → xs[i]? = some y → p y = false
theorem noneTo_zero {α : Type} (p : α → Bool) (xs : List α) : noneTo p xs 0 := fun _ _ h => absurd h (by omega)
theorem noneTo_succ {α : Type} {p : α → Bool} {xs : List α} {k : Nat} {x : α} (h : noneTo p xs k) (hx : xs[k]? = some x) (hp : p x = false) : noneTo p xs (k + 1) := fun i y hi hy => by
  by_cases hik : i = k
  · subst hik; rw [hx] at hy; cases hy; exact hp
  · exact h i y (by omega) hy

theorem call_m (n : Int) : Meets Tryz.prog 121 [.i n] [] (Ret (.b (callOk n))) := by
  refine meets tbOk mixed Tryz.func121 pl121 rfl rfl ?_
  simp [Tryz.ntmps121]
  refine ⟨fun h => vcRet_of [] ?_ rfl, fun h => vcRet_of [] ?_ rfl⟩ <;> simp [callOk, h]
  omega
theorem room_m (n : Int) : Meets Tryz.prog 125 [.i n] [] (Ret (.b (room n))) := by
  refine meets tbOk mixed Tryz.func125 pl125 rfl rfl ?_
  simp [Tryz.ntmps125]
  refine ⟨fun h => vcRet_of [] ?_ rfl, fun h => vcRet_of [] ?_ rfl⟩ <;> simp [room, h]
  omega
theorem index_m (xs : List Bool) (v : Bool) (hl : xs.length < 4294967296) : Meets Tryz.prog 157 [.d (.sl 1 (xs.map bcs)), .b v] [] (Ret (.i (idx (fun x => v == x) xs 0))) := by
  refine meets tbOk mixed Tryz.func157 pl157 rfl rfl ?_
  simp [Tryz.ntmps157]
  refine vc_loop (fun n σ => ∃ k : Nat, n = xs.length - k ∧ k ≤ xs.length ∧ noneTo (fun x => v == x) xs k ∧ σ = ⟨19, [(8, .i k), (7, .i xs.length), (0, .d (.sl 1 (xs.map bcs))), (1, .b v)], []⟩) ?_ ?_
  · exact ⟨_, _, ⟨0, rfl, Nat.zero_le _, noneTo_zero _ _, rfl⟩, [], _, rfl, by simp⟩
  · rintro n σ ⟨k, rfl, hk, hn, rfl⟩
    by_cases hlt : k < xs.length
    · obtain ⟨x, hx, e⟩ := at_lt hlt
      simp [hlt, e, wrap_succ hlt hl]
      refine ⟨fun h => vcRet_of [] ?_ rfl, fun h => ⟨_, ?_, _, ⟨k + 1, rfl, hlt, noneTo_succ hn hx (by simpa using h), rfl⟩, [], _, rfl, by simp⟩⟩
      · simp [idx_hit (fun x => v == x) xs k x hx (by simp [h]) hn]
      · omega
    · obtain rfl : k = xs.length := by omega
      simp
      refine vcRet_of [] ?_ rfl
      simp [idx_miss (fun x => v == x) xs hn]
theorem contains_m (xs : List Bool) (v : Bool) (hl : xs.length < 4294967296) : Meets Tryz.prog 147 [.d (.sl 1 (xs.map bcs)), .b v] [] (Ret (.b (xs.any fun x => v == x))) := by
  refine meets tbOk mixed Tryz.func147 pl147 rfl rfl ?_
  simp [Tryz.ntmps147]
  refine (index_m xs v hl).mono ?_
  rintro _ rfl
  simp
  refine vcRet_of [] ?_ rfl
  simp [← idx_any (fun x => v == x) xs 0 (by omega)]
theorem all_m (xs : List Bool) (hl : xs.length < 4294967296) : Meets Tryz.prog 120 [.d (.sl 1 (xs.map bcs))] [] (Ret (.b (!xs.any fun x => !x))) := by
  refine meets tbOk mixed Tryz.func120 pl120 rfl rfl ?_
  simp [Tryz.ntmps120]
  refine (contains_m xs false hl).mono ?_
  rintro _ rfl
  simp
  refine vcRet_of [] ?_ rfl
  simp
set_option maxHeartbeats 400000 in
theorem odd_m (x : Wt) : Meets Tryz.prog 129 [x.pv] [] (Ret (.b (oddW x))) := by
  refine meets tbOk mixed Tryz.func129 pl129 rfl rfl ?_
  simp [Tryz.ntmps129]
  refine effCall (call_m x.call) ?_
  simp
  refine effCall (all_m [callOk x.call, decide (0 ≤ x.since), decide (x.since ≤ 1000000000000), decide (x.since < x.dead), decide (x.dead ≤ 1000000000001)] (by simp)) ?_
  simp
  refine ⟨by kernel_rfl, vcRet_of [] ?_ rfl⟩
  simp [oddW]
end Go.Proofs.YtajjmhpdiikjhaaGreat.Wa
namespace Go.Proofs.YtajjmhpdiikjhaaGreat.Wa
set_option maxRecDepth 100000
open Go.RowKit

set_option maxHeartbeats 400000 in
theorem indexFunc_0 (f : Nat) (p : Wt → Bool) (xs : List Wt) (hl : xs.length < 4294967296) (hp : ∀ x ∈ xs, Meets Tryz.prog f [x.pv] [] (Ret (.b (p x)))) : Meets Tryz.prog 148 [.d (wl xs), .clo f []] [] (Ret (.i (idx p xs 0))) := by
  refine meets tbOk mixed Tryz.func148 pl148 rfl rfl ?_
  simp [Tryz.ntmps148]
  refine vc_loop (fun n σ => ∃ k : Nat, n = xs.length - k ∧ k ≤ xs.length ∧ noneTo p xs k ∧ σ = ⟨19, [(8, .i k), (7, .i xs.length), (0, .d (wl xs)), (1, .clo f [])], []⟩) ?_ ?_
  · exact ⟨_, _, ⟨0, rfl, Nat.zero_le _, noneTo_zero _ _, rfl⟩, [], _, rfl, by simp⟩
  · rintro n σ ⟨k, rfl, hk, hn, rfl⟩
    by_cases hlt : k < xs.length
    · obtain ⟨x, hx, e⟩ := at_lt hlt
      simp [hlt, e]
      refine (hp x (List.mem_of_getElem? hx)).mono ?_
      rintro _ rfl
      simp [wrap_succ hlt hl]
      refine ⟨fun h => vcRet_of [] ?_ rfl, fun h => ⟨_, ?_, _, ⟨k + 1, rfl, hlt, noneTo_succ hn hx h, rfl⟩, [], _, rfl, by simp⟩⟩
      · simp [idx_hit p xs k x hx h hn]
      · omega
    · obtain rfl : k = xs.length := by omega
      simp
      refine vcRet_of [] ?_ rfl
      simp [idx_miss p xs hn]
set_option maxHeartbeats 400000 in
theorem indexFunc_1 (f : Nat) (t : Nat) (v : D) (p : Wt → Bool) (xs : List Wt) (hl : xs.length < 4294967296) (hp : ∀ x ∈ xs, Meets Tryz.prog f [x.pv, .ptr 1000000 0] [.box t [.d v]] (fun r => r = ⟨.b (p x), [.box t [.d v]], []⟩)) :
    Meets Tryz.prog 148 [.d (wl xs), .clo f [.ptr 1000000 0]] [.box t [.d v]] (fun r => r = ⟨.i (idx p xs 0), [.box t [.d v]], []⟩) := by
  refine meets tbOk mixed Tryz.func148 pl148 rfl rfl ?_
  simp [Tryz.ntmps148]
  refine vc_loop (fun n σ => ∃ k : Nat, n = xs.length - k ∧ k ≤ xs.length ∧ noneTo p xs k ∧ σ = ⟨19, [(8, .i k), (7, .i xs.length), (0, .d (wl xs)), (1, .clo f [.ptr 1000000 0])], [(1000000, .box t [.d v])]⟩) ?_ ?_
  · exact ⟨_, _, ⟨0, rfl, Nat.zero_le _, noneTo_zero _ _, rfl⟩, [], _, rfl, by simp⟩
  · rintro n σ ⟨k, rfl, hk, hn, rfl⟩
    by_cases hlt : k < xs.length
    · obtain ⟨x, hx, e⟩ := at_lt hlt
      simp [hlt, e]
      refine (hp x (List.mem_of_getElem? hx)).mono ?_
      rintro _ rfl
      simp [wrap_succ hlt hl]
      refine ⟨fun h => vcRet_of [] ?_ rfl, fun h => ⟨_, ?_, _, ⟨k + 1, rfl, hlt, noneTo_succ hn hx h, rfl⟩, [], _, rfl, by simp⟩⟩
      · simp [idx_hit p xs k x hx h hn]
      · omega
    · obtain rfl : k = xs.length := by omega
      simp
      refine vcRet_of [] ?_ rfl
      simp [idx_miss p xs hn]
theorem containsFunc_0 (f : Nat) (p : Wt → Bool) (xs : List Wt) (hl : xs.length < 4294967296) (hp : ∀ x ∈ xs, Meets Tryz.prog f [x.pv] [] (Ret (.b (p x)))) : Meets Tryz.prog 128 [.d (wl xs), .clo f []] [] (Ret (.b (xs.any p))) := by
  refine meets tbOk mixed Tryz.func128 pl128 rfl rfl ?_
  simp [Tryz.ntmps128]
  refine (indexFunc_0 f p xs hl hp).mono ?_
  rintro _ rfl
  simp
  refine vcRet_of [] ?_ rfl
  simp [← idx_any p xs 0 (by omega)]
theorem find1_m (x : Wt) (n : Int) : Meets Tryz.prog 149 [x.pv, .ptr 1000000 0] [.box 2 [.i n]] (fun r => r = ⟨.b (x.call == n), [.box 2 [.i n]], []⟩) := by
  refine meets tbOk mixed Tryz.func149 pl149 rfl rfl ?_
  simp [Tryz.ntmps149]
  refine vcRet_of [] ?_ rfl
  simp
  rfl
theorem find_m (xs : List Wt) (n : Int) (hl : xs.length < 4294967296) : Meets Tryz.prog 122 [.d (wl xs), .i n] [] (Ret (.i (place xs n))) := by
  refine meets tbOk mixed Tryz.func122 pl122 rfl rfl ?_
  simp [Tryz.ntmps122]
  refine (indexFunc_1 149 2 (.v (.int .i64 n)) (fun x => x.call == n) xs hl (fun x _ => find1_m x n)).mono ?_
  rintro _ rfl
  simp
  refine vcRet_of [] ?_ rfl
  simp [place]
set_option maxHeartbeats 1600000 in
theorem check_m (s : St) (hl : s.ws.length < 4294967296) : Meets Tryz.prog 79 [s.pv] [] (Ret (.i (chk s))) := by
  refine meets tbOk mixed Tryz.func79 pl79 rfl rfl ?_
  simp [Tryz.ntmps79]
  refine (room_m s.most).mono ?_
  rintro _ rfl
  cases hr : room s.most
  · simp
    refine vcRet_of [] ?_ rfl
    simp [chk, hr]
  simp
  refine (containsFunc_0 129 oddW s.ws hl (fun x _ => odd_m x)).mono ?_
  rintro _ rfl
  cases ho : s.ws.any oddW
  case true =>
    simp
    refine vcRet_of [] ?_ rfl
    simp [chk, ho]
  by_cases hm : s.most < (s.ws.length : Int)
  · simp [hm]
    refine vcRet_of [] ?_ rfl
    simp [chk, hr, ho, hm]
  simp [hm]
  refine vc_loop (fun n σ => ∃ k : Nat, n = s.ws.length - k ∧ k ≤ s.ws.length ∧ dupTo s.ws k = false ∧ σ = ⟨59, [(26, .i k), (25, .i s.ws.length), (24, .d (wl s.ws)), (3, .b (sortTo s.ws k)), (1, .ptr 1 0)], [(1, .box 29 [.i s.most, .d (wl s.ws)])]⟩) ?_ ?_
  · exact ⟨_, _, ⟨0, rfl, Nat.zero_le _, rfl, rfl⟩, [], _, rfl, by simp [sortTo]⟩
  · rintro n σ ⟨k, rfl, hk, hd, rfl⟩
    by_cases hlt : k < s.ws.length
    · obtain ⟨x, hx, e⟩ := at_lt hlt
      simp [hlt, e]
      refine ⟨hk, effCall (by simp only [← List.map_take]; exact find_m (s.ws.take k) x.call (by simp; omega)) ?_⟩
      simp [-vc_drawn]
      refine ⟨by kernel_rfl, fun hp => ?_, fun hp => ?_⟩
      · refine vcRet_of [] ?_ rfl
        have hd2 : dupTo s.ws (k + 1) = true := by rw [dupTo_succ hx]; simp; exact .inr hp
        simp [chk, hr, ho, hm, dupTo_mono hlt hd2]
      have hd2 : dupTo s.ws (k + 1) = false := by rw [dupTo_succ hx, hd]; simp; exact hp
      have hs2 := sortTo_succ hx
      cases hs : sortTo s.ws k
      · set_option maxRecDepth 4000 in simp
        refine ⟨by kernel_rfl, ?_⟩
        simp [wrap_succ hlt hl]
        refine ⟨_, ?_, _, ⟨k + 1, rfl, hlt, hd2, rfl⟩, [], _, rfl, by simp [hs2, hs]⟩
        omega
      by_cases h0 : k = 0
      · subst h0
        set_option maxRecDepth 4000 in simp
        refine ⟨by kernel_rfl, ?_⟩
        refine ⟨_, ?_, _, ⟨1, rfl, hlt, hd2, rfl⟩, [], _, rfl, by simp [hs2, hs]; rfl⟩
        omega
      have hk1 : k - 1 < s.ws.length := by omega
      obtain ⟨y, hy, ey⟩ := at_lt hk1
      have hw : IntKind.i64.wrap ((k : Int) - 1) = ((k - 1 : Nat) : Int) := by rw [IntWalk.i64_in _ (by omega)]; omega
      set_option maxRecDepth 4000 in simp [h0, hw, hk1, ey]
      refine ⟨by kernel_rfl, ?_⟩
      simp [wrap_succ hlt hl]
      refine ⟨_, ?_, _, ⟨k + 1, rfl, hlt, hd2, rfl⟩, [], _, rfl, by simp [hs2, hs, h0, hy]⟩
      omega
    · obtain rfl : k = s.ws.length := by omega
      cases hs : sortTo s.ws s.ws.length
      · simp
        refine vcRet_of [] ?_ rfl
        simp [chk, hr, ho, hm, hd, hs]
      · simp
        refine vcRet_of [] ?_ rfl
        simp [chk, hr, ho, hm, hd, hs]
end Go.Proofs.YtajjmhpdiikjhaaGreat.Wa
namespace Go.Proofs.YtajjmhpdiikjhaaGreat.Wa
set_option maxRecDepth 100000
open Go.RowKit

def St.box (s : St) : MObj := .box 29 [.i s.most, .d (wl s.ws)]
theorem ready_m (s : St) (now : Int) (hl : s.ws.length < 4294967296) : Meets Tryz.prog 119 [.ptr 1000000 0, .i now] [s.box] (fun r => r = ⟨.i (rdy s now), [s.box], []⟩) := by
  refine meets tbOk mixed Tryz.func119 pl119 rfl rfl ?_
  simp [Tryz.ntmps119, St.box]
  refine (check_m s hl).mono ?_
  rintro _ rfl
  by_cases hc : chk s = 0
  case neg =>
    simp [hc]
    refine vcRet_of [] ?_ rfl
    simp [rdy, hc]
  by_cases h1 : now < 0
  · simp [hc, h1]
    refine vcRet_of [] ?_ rfl
    simp [rdy, hc, badTime, h1]
  by_cases h2 : 1000000000000 < now
  · simp [hc, h1, h2]
    refine vcRet_of [] ?_ rfl
    simp [rdy, hc, badTime, h1, h2]
  by_cases h0 : 0 < s.ws.length
  · obtain ⟨y, hy, ey⟩ := at_lt (show s.ws.length - 1 < s.ws.length by omega)
    have hw : IntKind.i64.wrap ((s.ws.length : Int) - 1) = ((s.ws.length - 1 : Nat) : Int) := by rw [IntWalk.i64_in _ (by omega)]; omega
    have hk : s.ws.length - 1 < s.ws.length := by omega
    simp [hc, h1, h2, h0, hw, hk]
    rw [ey]
    refine ⟨fun h => vcRet_of [] ?_ rfl, fun h => vcRet_of [] ?_ rfl⟩
    · simp [rdy_bad (now := now) hc hy (.inr (.inr h))]
    · simp [rdy_ok (now := now) hc h0 hy (by omega)]
  · simp [hc, h1, h2, h0]
    refine vcRet_of [] ?_ rfl
    simp [rdy, hc, badTime, h1, h2, h0]
def inB (a b c : Int) : Bool := decide (b ≤ a) && decide (a ≤ c)
theorem between_m (a b c : Int) : Meets Tryz.prog 137 [.i a, .i b, .i c] [] (Ret (.b (inB a b c))) := by
  refine meets tbOk mixed Tryz.func137 pl137 rfl rfl ?_
  simp [Tryz.ntmps137]
  refine ⟨fun h => vcRet_of [] ?_ rfl, fun h => vcRet_of [] ?_ rfl⟩
  · simp [inB, h]
  · simp [inB]; omega
theorem Wt.eqs (x y : Wt) : (decide (x.call = y.call) && (decide (x.since = y.since) && (decide (x.dead = y.dead) && true))) = decide (x = y) := by
  obtain ⟨a, b, c⟩ := x
  obtain ⟨a', b', c'⟩ := y
  simp
theorem sameList_m (xs ys : List Wt) (hl : xs.length < 4294967296) : Meets Tryz.prog 92 [.d (wl xs), .d (wl ys)] [] (Ret (.b (decide (xs = ys)))) := by
  refine meets tbOk mixed Tryz.func92 pl92 rfl rfl ?_
  by_cases hlen : xs.length = ys.length
  case neg =>
    have hl2 : ¬ ((xs.length : Int) = ys.length) := by omega
    simp [Tryz.ntmps92, hl2]
    refine vcRet_of [] ?_ rfl
    have : xs ≠ ys := fun e => hlen (by rw [e])
    simp [this]
  simp [Tryz.ntmps92, ← hlen]
  refine vc_loop (fun m σ => ∃ k : Nat, m = xs.length - k ∧ k ≤ xs.length ∧ xs.take k = ys.take k ∧ σ = ⟨26, [(5, .i k), (0, .d (wl xs)), (1, .d (wl ys))], []⟩) ?_ ?_
  · exact ⟨_, _, ⟨0, rfl, Nat.zero_le _, rfl, rfl⟩, [], _, rfl, by simp⟩
  · rintro m σ ⟨k, rfl, hk, hn, rfl⟩
    by_cases hlt : k < xs.length
    · obtain ⟨x, hx, e⟩ := at_lt hlt
      obtain ⟨y, hy, e'⟩ := at_lt (show k < ys.length by omega)
      have hlt' : k < ys.length := by omega
      simp [hlt, hlt', e, e', wrap_succ hlt hl]
      refine ⟨by kernel_rfl, fun h => vcRet_of [] ?_ rfl, fun h1 h2 h3 => ⟨_, ?_, _, ⟨k + 1, rfl, hlt, ?_, rfl⟩, [], _, rfl, by simp⟩⟩
      · have : xs ≠ ys := fun e2 => by
          subst e2
          rw [hx] at hy
          cases hy
          simp at h
        simp [this]
      · omega
      · rw [List.take_add_one, List.take_add_one, hn, hx, hy]
        obtain ⟨a, b, c⟩ := x
        obtain ⟨a', b', c'⟩ := y
        simp at h1 h2 h3
        rw [h1, h2, h3]
    · obtain rfl : k = xs.length := by omega
      simp
      refine vcRet_of [] ?_ rfl
      have : xs = ys := by rw [List.take_length, hlen, List.take_length] at hn; exact hn
      simp [this]
theorem same_m (s t : St) (hl : s.ws.length < 4294967296) : Meets Tryz.prog 44 [s.pv, t.pv] [] (Ret (.b (decide (s = t)))) := by
  refine meets tbOk mixed Tryz.func44 pl44 rfl rfl ?_
  simp [Tryz.ntmps44]
  refine ⟨fun h => ?_, fun h => vcRet_of [] ?_ rfl⟩
  · refine (sameList_m s.ws t.ws hl).mono ?_
    rintro _ rfl
    simp
    refine vcRet_of [] ?_ rfl
    obtain ⟨a, b⟩ := s
    obtain ⟨a', b'⟩ := t
    simp at h
    simp [h]
  · have : s ≠ t := fun e => h (by rw [e])
    simp [this]
end Go.Proofs.YtajjmhpdiikjhaaGreat.Wa
namespace Go.Proofs.YtajjmhpdiikjhaaGreat.Wa
set_option maxRecDepth 100000
open Go.RowKit

theorem oddW_in (x : Wt) : oddW x = !(inB x.call 1 1000000000000000 && (inB x.since 0 1000000000000 && inB x.dead (x.since + 1) 1000000000001)) := by
  simp [oddW, callOk, inB, Bool.and_assoc]
  rw [Bool.eq_iff_iff]
  simp
  omega
theorem any_none {xs : List Wt} (h : noneTo oddW xs xs.length) : xs.any oddW = false := by
  rw [List.any_eq_false]
  intro x hx
  obtain ⟨i, hi⟩ := List.mem_iff_getElem?.1 hx
  simp [h i x (lt_some hi) hi]
theorem any_at {xs : List Wt} {k : Nat} {x : Wt} (hx : xs[k]? = some x) (h : oddW x = true) : xs.any oddW = true := List.any_eq_true.2 ⟨x, List.mem_of_getElem? hx, h⟩
theorem room_in (n : Int) : room n = inB n 0 64 := rfl
theorem take_at {ws : List Wt} {k j : Nat} {y : Wt} (hj : j < k) (hy : ws[j]? = some y) : (ws.take k)[j]? = some y := by rw [List.getElem?_take, if_pos hj, hy]
theorem dup_hit {ws : List Wt} {k j : Nat} {x y : Wt} (hx : ws[k]? = some x) (hj : j < k) (hy : ws[j]? = some y) (h : x.call = y.call) (hn : noneTo (fun y : Wt => y.call == x.call) ws j) : dupTo ws (k + 1) = true := by
  have h2 : place (ws.take k) x.call = j := by
    unfold place
    refine idx_hit _ _ j y (take_at hj hy) (by simp [h]) fun i z hi hz => hn i z hi ?_
    rw [take_at (ws := ws) (y := ws[i]'(by have := lt_some hy; omega)) (by omega) (List.getElem?_eq_getElem _)] at hz
    rw [← hz]
    exact List.getElem?_eq_getElem _
  rw [dupTo_succ hx, h2]
  simp
theorem dup_miss {ws : List Wt} {k : Nat} {x : Wt} (hx : ws[k]? = some x) (hd : dupTo ws k = false) (hn : noneTo (fun y : Wt => y.call == x.call) ws k) : dupTo ws (k + 1) = false := by
  have h2 : place (ws.take k) x.call = -1 := by
    unfold place
    refine idx_miss _ _ fun i z hi hz => ?_
    rw [List.length_take] at hi
    rw [List.getElem?_take, if_pos (by omega)] at hz
    exact hn i z (by omega) hz
  rw [dupTo_succ hx, h2, hd]
  simp
theorem sortTo_mono {ws : List Wt} {k : Nat} : ∀ {n : Nat}, k ≤ n → sortTo ws k = false → sortTo ws n = false
  | 0, h, hd => by obtain rfl : k = 0 := by omega
                   exact hd
  | n + 1, h, hd => by
    by_cases hk : k = n + 1
    · subst hk; exact hd
    · rw [sortTo, sortTo_mono (n := n) (by omega) hd]; rfl
set_option maxHeartbeats 1600000 in
theorem refCheck_m (s : St) (hl : s.ws.length < 4294967296) : Meets Tryz.prog 94 [s.pv] [] (Ret (.i (chk s))) := by
  refine meets tbOk mixed Tryz.func94 pl94 rfl rfl ?_
  simp [Tryz.ntmps94]
  refine (between_m s.most 0 64).mono ?_
  rintro _ rfl
  cases hr : inB s.most 0 64
  · simp
    refine vcRet_of [] ?_ rfl
    simp [chk, room_in, hr]
  simp
  refine vc_loop (fun m σ => ∃ k : Nat, m = s.ws.length - k ∧ k ≤ s.ws.length ∧ noneTo oddW s.ws k ∧ σ = ⟨95, [(3, .i k), (1, .ptr 1 0)], [(1, .box 29 [.i s.most, .d (wl s.ws)])]⟩) ?_ ?_
  · exact ⟨_, _, ⟨0, rfl, Nat.zero_le _, noneTo_zero _ _, rfl⟩, [], _, rfl, by simp⟩
  rintro m σ ⟨k, rfl, hk, hn, rfl⟩
  by_cases hlt : k < s.ws.length
  · obtain ⟨x, hx, e⟩ := at_lt hlt
    simp [hlt, e]
    refine (between_m x.call 1 1000000000000000).mono ?_
    rintro _ rfl
    cases h1 : inB x.call 1 1000000000000000
    · simp
      refine vcRet_of [] ?_ rfl
      simp [chk, room_in, hr, any_at hx (by rw [oddW_in]; simp [h1])]
    simp
    refine (between_m x.since 0 1000000000000).mono ?_
    rintro _ rfl
    cases h2 : inB x.since 0 1000000000000
    · simp
      refine vcRet_of [] ?_ rfl
      simp [chk, room_in, hr, any_at hx (by rw [oddW_in]; simp [h2])]
    have hw : IntKind.i64.wrap (x.since + 1) = x.since + 1 := by simp [inB] at h2; exact IntWalk.i64_in _ (by omega)
    simp [hw]
    refine (between_m x.dead (x.since + 1) 1000000000001).mono ?_
    rintro _ rfl
    cases h3 : inB x.dead (x.since + 1) 1000000000001
    · simp
      refine vcRet_of [] ?_ rfl
      simp [chk, room_in, hr, any_at hx (by rw [oddW_in]; simp [h3])]
    simp [wrap_succ hlt hl]
    refine ⟨_, ?_, _, ⟨k + 1, rfl, hlt, noneTo_succ hn hx (by rw [oddW_in]; simp [h1, h2, h3]), rfl⟩, [], _, rfl, by simp⟩
    omega
  obtain rfl : k = s.ws.length := by omega
  have ho := any_none hn
  by_cases hm : s.most < (s.ws.length : Int)
  · simp [hm]
    refine vcRet_of [] ?_ rfl
    simp [chk, room_in, hr, ho, hm]
  simp [hm]
  refine vc_loop (fun m σ => ∃ k : Nat, m = s.ws.length - k ∧ k ≤ s.ws.length ∧ dupTo s.ws k = false ∧ σ = ⟨95, [(5, .i k), (1, .ptr 1 0)], [(1, .box 29 [.i s.most, .d (wl s.ws)])]⟩) ?_ ?_
  · exact ⟨_, _, ⟨0, rfl, Nat.zero_le _, rfl, rfl⟩, [], _, rfl, by simp⟩
  rintro m σ ⟨k, rfl, hk, hd, rfl⟩
  by_cases hlt : k < s.ws.length
  · obtain ⟨x, hx, e⟩ := at_lt hlt
    simp [hlt]
    refine vc_loop (fun m σ => ∃ j : Nat, m = k - j ∧ j ≤ k ∧ noneTo (fun y : Wt => y.call == x.call) s.ws j ∧ σ = ⟨95, [(6, .i j), (5, .i k), (1, .ptr 1 0)], [(1, .box 29 [.i s.most, .d (wl s.ws)])]⟩) ?_ ?_
    · exact ⟨_, _, ⟨0, rfl, Nat.zero_le _, noneTo_zero _ _, rfl⟩, [], _, rfl, by simp⟩
    rintro m σ ⟨j, rfl, hj, hn2, rfl⟩
    by_cases hjk : j < k
    · have hjl : j < s.ws.length := by omega
      obtain ⟨y, hy, e'⟩ := at_lt hjl
      simp [hjk, hlt, hjl, e, e', wrap_succ hjl hl]
      refine ⟨by kernel_rfl, fun h => vcRet_of [] ?_ rfl, fun h => ⟨_, ?_, _, ⟨j + 1, rfl, hjk, noneTo_succ hn2 hy ?_, rfl⟩, [], _, rfl, by simp⟩⟩
      · simp [chk, room_in, hr, ho, hm, dupTo_mono hlt (dup_hit hx hjk hy h hn2)]
      · omega
      · simp; exact fun e => h e.symm
    · obtain rfl : j = k := by omega
      simp [wrap_succ hlt hl]
      refine ⟨_, ?_, _, ⟨j + 1, rfl, hlt, ?_, rfl⟩, [], _, rfl, by simp⟩
      · omega
      · exact dup_miss hx hd hn2
  obtain rfl : k = s.ws.length := by omega
  simp
  refine vc_loop (fun m σ => ∃ k : Nat, m = s.ws.length - k ∧ 1 ≤ k ∧ k ≤ s.ws.length + 1 ∧ sortTo s.ws (min k s.ws.length) = true ∧ σ = ⟨95, [(7, .i k), (1, .ptr 1 0)], [(1, .box 29 [.i s.most, .d (wl s.ws)])]⟩) ?_ ?_
  · refine ⟨_, _, ⟨1, rfl, Nat.le_refl _, by omega, ?_, rfl⟩, [], _, rfl, by simp⟩
    by_cases h0 : s.ws.length = 0
    · rw [h0]; rfl
    · rw [show min 1 s.ws.length = 1 by omega]; rfl
  rintro m σ ⟨k, rfl, hk1, hk, hs, rfl⟩
  by_cases hlt : k < s.ws.length
  · obtain ⟨x, hx, e⟩ := at_lt hlt
    have hk2 : k - 1 < s.ws.length := by omega
    obtain ⟨y, hy, ey⟩ := at_lt hk2
    have hw : IntKind.i64.wrap ((k : Int) - 1) = ((k - 1 : Nat) : Int) := by rw [IntWalk.i64_in _ (by omega)]; omega
    simp [hlt, e, hk2, hw, ey, wrap_succ hlt hl]
    have hs' : sortTo s.ws k = true := by rw [show min k s.ws.length = k by omega] at hs; exact hs
    have hst := sortTo_succ hx
    rw [hs', getD_some hy] at hst
    refine ⟨by kernel_rfl, fun h => vcRet_of [] ?_ rfl, fun h => ⟨_, ?_, _, ⟨k + 1, rfl, by omega, by omega, ?_, rfl⟩, [], _, rfl, by simp⟩⟩
    · have hf : sortTo s.ws (k + 1) = false := by rw [hst]; simp; omega
      simp [chk, room_in, hr, ho, hm, hd, sortTo_mono hlt hf]
    · omega
    · rw [show min (k + 1) s.ws.length = k + 1 by omega, hst]
      simp [h]
  · have hs' : sortTo s.ws s.ws.length = true := by rw [show min k s.ws.length = s.ws.length by omega] at hs; exact hs
    simp [hlt]
    refine vcRet_of [] ?_ rfl
    simp [chk, room_in, hr, ho, hm, hd, hs']
end Go.Proofs.YtajjmhpdiikjhaaGreat.Wa
namespace Go.Proofs.YtajjmhpdiikjhaaGreat.Wa
set_option maxRecDepth 100000
open Go.RowKit

theorem outAt_k (s : St) (k : Nat) : outAt s (k : Int) = (⟨s.most, s.ws.eraseIdx k⟩, s.ws.getD k default, 0) := by
  unfold outAt
  rw [if_neg (by omega)]
  rfl
theorem outAt_none (s : St) : outAt s (-1) = (s, ⟨0, 0, 0⟩, 4) := rfl
end Go.Proofs.YtajjmhpdiikjhaaGreat.Wa
namespace Go.Proofs.YtajjmhpdiikjhaaGreat.Wa
set_option maxRecDepth 100000
open Go.RowKit

@[simp] theorem take_map_cs (xs : List Wt) : List.take xs.length (List.map Wt.cs xs) = List.map Wt.cs xs := List.take_of_length_le (by simp)
theorem least_succ {ws : List Wt} {k : Nat} {x : Wt} (h : ws[k]? = some x) : least (ws.take (k + 1)) = min (least (ws.take k)) x.dead := by
  rw [List.take_add_one, h]
  simp [least, List.foldl_append]
theorem rdy_chk {s : St} {now : Int} (h : rdy s now = 0) : chk s = 0 := by
  unfold rdy at h
  split at h
  · rename_i hc; exact absurd h hc
  · rename_i hc; simpa using hc
theorem chk_len {s : St} (h : chk s = 0) : (s.ws.length : Int) ≤ s.most ∧ 0 ≤ s.most ∧ s.most ≤ 64 := by
  unfold chk at h
  split at h
  · cases h
  · rename_i h0
    split at h
    · cases h
    · rename_i h1
      simp [room] at h0
      omega
end Go.Proofs.YtajjmhpdiikjhaaGreat.Wa
namespace Go.Proofs.YtajjmhpdiikjhaaGreat.Wa
set_option maxRecDepth 100000
open Go.RowKit

theorem new_m (m : Int) : Meets Tryz.prog 76 [.i m] [] (Ret (.tup [(new m).1.pv, .i (new m).2])) := by
  refine meets tbOk mixed Tryz.func76 pl76 rfl rfl ?_
  simp [Tryz.ntmps76]
  refine (room_m m).mono ?_
  rintro _ rfl
  cases hr : room m
  · simp
    refine vcRet_of [] ?_ rfl
    simp [new, hr]
  · simp
    refine vcRet_of [] ?_ rfl
    simp [new, hr]
set_option maxHeartbeats 1000000 in
theorem place_m (s : St) (n : Int) (hl : s.ws.length < 4294967296) : Meets Tryz.prog 113 [s.pv, .i n] [] (Ret (.tup [.i (where_ s n).1, .i (where_ s n).2])) := by
  refine meets tbOk mixed Tryz.func113 pl113 rfl rfl ?_
  simp [Tryz.ntmps113]
  refine (check_m s hl).mono ?_
  rintro _ rfl
  by_cases hc : chk s = 0
  case neg =>
    simp [hc]
    refine vcRet_of [] ?_ rfl
    simp [where_, hc]
  simp [hc]
  refine (find_m s.ws n hl).mono ?_
  rintro _ rfl
  by_cases hp : 0 ≤ place s.ws n
  · simp [hp]
    refine vcRet_of [] ?_ rfl
    simp [where_, hc, hp]
  · simp [hp]
    refine vcRet_of [] ?_ rfl
    simp [where_, hc, hp]
theorem expire1_m (x : Wt) (now : Int) : Meets Tryz.prog 131 [x.pv, .ptr 1000000 0] [.box 2 [.i now]] (fun r => r = ⟨.b (decide (now < x.dead)), [.box 2 [.i now]], []⟩) := by
  refine meets tbOk mixed Tryz.func131 pl131 rfl rfl ?_
  simp [Tryz.ntmps131]
  refine vcRet_of [] ?_ rfl
  simp
theorem serve1_m (x : Wt) (now : Int) : Meets Tryz.prog 152 [x.pv, .ptr 1000000 0] [.box 2 [.i now]] (fun r => r = ⟨.b (decide (now < x.dead)), [.box 2 [.i now]], []⟩) := by
  refine meets tbOk mixed Tryz.func152 pl152 rfl rfl ?_
  simp [Tryz.ntmps152]
  refine vcRet_of [] ?_ rfl
  simp
set_option maxHeartbeats 1000000 in
theorem divide_1 (f : Nat) (t : Nat) (v : D) (p : Wt → Bool) (xs : List Wt) (hl : xs.length < 4294967296) (hp : ∀ x ∈ xs, Meets Tryz.prog f [x.pv, .ptr 1000000 0] [.box t [.d v]] (fun r => r = ⟨.b (p x), [.box t [.d v]], []⟩)) :
    Meets Tryz.prog 97 [.d (wl xs), .clo f [.ptr 1000000 0]] [.box t [.d v]] (fun r => r = ⟨.tup [.d (wl (xs.filter p)), .d (wl (xs.filter fun x => !p x))], [.box t [.d v]], []⟩) := by
  refine meets tbOk mixed Tryz.func97 pl97 rfl rfl ?_
  simp [Tryz.ntmps97]
  refine vc_loop (fun m σ => ∃ k : Nat, m = xs.length - k ∧ k ≤ xs.length ∧ σ = ⟨28, [(10, .i k), (9, .i xs.length), (8, .d (wl xs)), (4, .rw 4 ((xs.take k).filter p).length), (5, .rw 5 ((xs.take k).filter fun x => !p x).length), (1, .clo f [.ptr 1000000 0])],
    [(1000000, .box t [.d v]), (4, .row 130 3 (((xs.take k).filter p).map Wt.cs) false), (5, .row 130 3 (((xs.take k).filter fun x => !p x).map Wt.cs) false)]⟩) ?_ ?_
  · exact ⟨_, _, ⟨0, rfl, Nat.zero_le _, rfl⟩, [.row 4 130 3, .row 5 130 3], _, rfl, by simp⟩
  rintro m σ ⟨k, rfl, hk, rfl⟩
  by_cases hlt : k < xs.length
  · obtain ⟨x, hx, e⟩ := at_lt hlt
    have hf1 := List.length_filter_le p (xs.take k)
    have hf2 := List.length_filter_le (fun x : Wt => !p x) (xs.take k)
    rw [List.length_take] at hf1 hf2
    simp [hlt, e]
    refine (hp x (List.mem_of_getElem? hx)).mono ?_
    rintro _ rfl
    cases hd : p x
    · simp [wrap_succ hlt hl]
      refine ⟨by omega, _, ?_, _, ⟨k + 1, rfl, hlt, rfl⟩, [], _, rfl, by simp [List.take_add_one, hx, hd]⟩
      omega
    · simp [wrap_succ hlt hl]
      refine ⟨by omega, _, ?_, _, ⟨k + 1, rfl, hlt, rfl⟩, [], _, rfl, by simp [List.take_add_one, hx, hd]⟩
      omega
  obtain rfl : k = xs.length := by omega
  simp
  refine vcRet_of [] ?_ rfl
  simp
end Go.Proofs.YtajjmhpdiikjhaaGreat.Wa
namespace Go.Proofs.YtajjmhpdiikjhaaGreat.Wa
set_option maxRecDepth 100000
open Go.RowKit

set_option maxHeartbeats 1000000 in
theorem expire_m (s : St) (now : Int) (hl : s.ws.length < 4294967296) : Meets Tryz.prog 84 [s.pv, .i now] [] (Ret (.tup [(expire s now).1.pv, .d (wl (expire s now).2.1), .i (expire s now).2.2])) := by
  refine meets tbOk mixed Tryz.func84 pl84 rfl rfl ?_
  simp [Tryz.ntmps84]
  refine (ready_m s now hl).mono ?_
  rintro _ rfl
  by_cases hc : rdy s now = 0
  case neg =>
    simp [hc, St.box]
    refine vcRet_of [] ?_ rfl
    simp [expire, hc]
  simp [hc, St.box]
  refine (divide_1 131 2 (.v (.int .i64 now)) (fun x => decide (now < x.dead)) s.ws hl (fun x _ => expire1_m x now)).mono ?_
  rintro _ rfl
  simp
  refine vcRet_of [] ?_ rfl
  simp [expire, hc]
def CloneRes (xs : List Wt) (r : Res) : Prop := (xs = [] ∧ r = ⟨.d (.v (.slice none 0 0)), [], []⟩) ∨ r = ⟨.rw 2000000 xs.length, [], [.row 130 3 (xs.map Wt.cs) false]⟩
theorem clone_m (xs : List Wt) (hl : xs.length < 4294967296) : Meets Tryz.prog 123 [.d (wl xs)] [] (CloneRes xs) := by
  refine meets tbOk mixed Tryz.func123 pl123 rfl rfl ?_
  simp [Tryz.ntmps123]
  refine ⟨⟨hl, vcRet_of [5] ?_ (.inr rfl)⟩, fun h => vcRet_of [] ?_ (.inl ⟨h, rfl⟩)⟩
  · simp
  · simp
theorem drain1_m (x : Wt) : Meets Tryz.prog 98 [x.pv] [] (Ret (.b false)) := by
  refine meets tbOk mixed Tryz.func98 pl98 rfl rfl ?_
  simp [Tryz.ntmps98]
  refine vcRet_of [] ?_ rfl
  simp
set_option maxHeartbeats 1000000 in
theorem divide_0 (f : Nat) (p : Wt → Bool) (xs : List Wt) (hl : xs.length < 4294967296) (hp : ∀ x ∈ xs, Meets Tryz.prog f [x.pv] [] (Ret (.b (p x)))) :
    Meets Tryz.prog 97 [.d (wl xs), .clo f []] [] (Ret (.tup [.d (wl (xs.filter p)), .d (wl (xs.filter fun x => !p x))])) := by
  refine meets tbOk mixed Tryz.func97 pl97 rfl rfl ?_
  simp [Tryz.ntmps97]
  refine vc_loop (fun m σ => ∃ k : Nat, m = xs.length - k ∧ k ≤ xs.length ∧ σ = ⟨28, [(10, .i k), (9, .i xs.length), (8, .d (wl xs)), (4, .rw 4 ((xs.take k).filter p).length), (5, .rw 5 ((xs.take k).filter fun x => !p x).length), (1, .clo f [])],
    [(4, .row 130 3 (((xs.take k).filter p).map Wt.cs) false), (5, .row 130 3 (((xs.take k).filter fun x => !p x).map Wt.cs) false)]⟩) ?_ ?_
  · exact ⟨_, _, ⟨0, rfl, Nat.zero_le _, rfl⟩, [.row 4 130 3, .row 5 130 3], _, rfl, by simp⟩
  rintro m σ ⟨k, rfl, hk, rfl⟩
  by_cases hlt : k < xs.length
  · obtain ⟨x, hx, e⟩ := at_lt hlt
    have hf1 := List.length_filter_le p (xs.take k)
    have hf2 := List.length_filter_le (fun x : Wt => !p x) (xs.take k)
    rw [List.length_take] at hf1 hf2
    simp [hlt, e]
    refine (hp x (List.mem_of_getElem? hx)).mono ?_
    rintro _ rfl
    cases hd : p x
    · simp [wrap_succ hlt hl]
      refine ⟨by omega, _, ?_, _, ⟨k + 1, rfl, hlt, rfl⟩, [], _, rfl, by simp [List.take_add_one, hx, hd]⟩
      omega
    · simp [wrap_succ hlt hl]
      refine ⟨by omega, _, ?_, _, ⟨k + 1, rfl, hlt, rfl⟩, [], _, rfl, by simp [List.take_add_one, hx, hd]⟩
      omega
  obtain rfl : k = xs.length := by omega
  simp
  refine vcRet_of [] ?_ rfl
  simp
set_option maxHeartbeats 1000000 in
theorem drain_m (s : St) (hl : s.ws.length < 4294967296) : Meets Tryz.prog 50 [s.pv] [] (Ret (.tup [(drain s).1.pv, .d (wl (drain s).2.1), .i (drain s).2.2])) := by
  refine meets tbOk mixed Tryz.func50 pl50 rfl rfl ?_
  simp [Tryz.ntmps50]
  refine (check_m s hl).mono ?_
  rintro _ rfl
  by_cases hc : chk s = 0
  case neg =>
    simp [hc]
    refine vcRet_of [] ?_ rfl
    simp [drain, hc]
  simp [hc]
  refine (divide_0 98 (fun _ => false) s.ws hl (fun x _ => drain1_m x)).mono ?_
  rintro _ rfl
  simp
  refine vcRet_of [] ?_ rfl
  simp [drain, hc]
  rw [List.filter_eq_self.2 (by simp)]
set_option maxHeartbeats 2000000 in
theorem join_m (s : St) (n now dead : Int) (hl : s.ws.length < 4294967296) : Meets Tryz.prog 74 [s.pv, .i n, .i now, .i dead] [] (Ret (.tup [(join s n now dead).1.pv, .i (join s n now dead).2])) := by
  refine meets tbOk mixed Tryz.func74 pl74 rfl rfl ?_
  simp [Tryz.ntmps74]
  refine (ready_m s now hl).mono ?_
  rintro _ rfl
  by_cases hc : rdy s now = 0
  case neg =>
    simp [hc, St.box]
    refine vcRet_of [] ?_ rfl
    simp [join, hc]
  have hlm := chk_len (rdy_chk hc)
  simp [hc, St.box]
  refine (call_m n).mono ?_
  rintro _ rfl
  simp
  refine (all_m [callOk n, decide (0 ≤ dead), decide (dead ≤ 1000000000001)] (by simp)).mono ?_
  rintro _ rfl
  cases h1 : callOk n
  · simp
    refine vcRet_of [] ?_ rfl
    simp [join, hc, h1]
  by_cases h2 : 0 ≤ dead
  case neg =>
    simp [h2]
    refine vcRet_of [] ?_ rfl
    simp [join, hc, h1, h2]
  by_cases h3 : dead ≤ 1000000000001
  case neg =>
    simp [h2, h3]
    refine vcRet_of [] ?_ rfl
    simp [join, hc, h1, h2, h3]
  simp [h2, h3]
  refine (find_m s.ws n hl).mono ?_
  rintro _ rfl
  by_cases hp : 0 ≤ place s.ws n
  · simp [hp]
    refine vcRet_of [] ?_ rfl
    simp [join, hc, h1, h2, h3, hp]
  by_cases hd : dead ≤ now
  · simp [hp, hd]
    refine vcRet_of [] ?_ rfl
    simp [join, hc, h1, h2, h3, hp, hd]
  by_cases hm : (s.ws.length : Int) = s.most
  · simp [hp, hd, hm]
    refine vcRet_of [] ?_ rfl
    simp [join, hc, h1, h2, h3, hp, hd, hm]
  simp [hp, hd, hm]
  have hj : join s n now dead = (⟨s.most, s.ws ++ [⟨n, now, dead⟩]⟩, 0) := by simp [join, hc, h1, h2, h3, hp, hd, hm]
  refine (clone_m s.ws hl).mono ?_
  rintro _ (⟨h0, rfl⟩ | rfl)
  · simp
    refine vcRet_of [] ?_ rfl
    simp [hj, h0]
  · simp
    refine ⟨by omega, vcRet_of [] ?_ rfl⟩
    simp [hj]
    exact List.take_of_length_le (by simp)
end Go.Proofs.YtajjmhpdiikjhaaGreat.Wa
namespace Go.Proofs.YtajjmhpdiikjhaaGreat.Wa
set_option maxRecDepth 100000
open Go.RowKit

set_option maxHeartbeats 1000000 in
theorem delete_m (xs : List Wt) (i : Nat) (hi : i < xs.length) (hl : xs.length < 4294967296) : Meets Tryz.prog 151 [.rw 1000000 xs.length, .i i, .i ((i : Int) + 1)] [.row 130 3 (xs.map Wt.cs) false]
    (fun r => r = ⟨.rw 1000000 (xs.length - 1), [.row 130 3 ((xs.eraseIdx i).map Wt.cs ++ [[.v (.int .i64 0), .v (.int .i64 0), .v (.int .i64 0)]]) false], []⟩) := by
  refine meets tbOk mixed Tryz.func151 pl151 rfl rfl ?_
  have h1 : ¬ ((i : Int) = i + 1) := by omega
  have h2 : ¬ (i = xs.length) := by omega
  have e3 : i + (xs.length - (i + 1)) = xs.length - 1 := by omega
  simp [Tryz.ntmps151, h1, h2, e3]
  refine ⟨⟨by omega, by omega⟩, by omega, ⟨by omega, by omega⟩, by omega, by kernel_rfl, ?_⟩
  refine ⟨by omega, by omega, vcRet_of [] ?_ rfl⟩
  have e4 : List.take (xs.length - (i + 1)) (List.drop (i + 1) (List.map Wt.cs xs)) = List.drop (i + 1) (List.map Wt.cs xs) := List.take_of_length_le (by simp)
  have e5 : xs.length - (xs.length - 1) = 1 := by omega
  have e6 : List.map Wt.cs (xs.eraseIdx i) = List.take i (List.map Wt.cs xs) ++ List.drop (i + 1) (List.map Wt.cs xs) := by rw [List.eraseIdx_eq_take_drop_succ, List.map_append, List.map_take, List.map_drop]
  have e7 : List.take (xs.length - 1) (List.take i (List.map Wt.cs xs) ++ (List.drop (i + 1) (List.map Wt.cs xs) ++ List.drop (xs.length - 1) (List.map Wt.cs xs))) = List.take i (List.map Wt.cs xs) ++ List.drop (i + 1) (List.map Wt.cs xs) := by
    rw [← List.append_assoc]
    exact List.take_left' (by simp; omega)
  have e8 : List.drop xs.length (List.take i (List.map Wt.cs xs) ++ (List.drop (i + 1) (List.map Wt.cs xs) ++ List.drop (xs.length - 1) (List.map Wt.cs xs))) = [] := List.drop_of_length_le (by simp; omega)
  rw [e4, e5, e6]
  simp [e7, e8]
end Go.Proofs.YtajjmhpdiikjhaaGreat.Wa
namespace Go.Proofs.YtajjmhpdiikjhaaGreat.Wa
set_option maxRecDepth 100000
open Go.RowKit

set_option maxHeartbeats 1000000 in
theorem out_m (s : St) (i : Nat) (hi : i < s.ws.length) (hl : s.ws.length < 4294967296) {x : Wt} (hx : s.ws[i]? = some x) : Meets Tryz.prog 130 [s.pv, .i i] [] (Ret (.tup [(outAt s i).1.pv, (outAt s i).2.1.pv, .i 0])) := by
  refine meets tbOk mixed Tryz.func130 pl130 rfl rfl ?_
  have h0 : ¬ (i : Int) < 0 := by omega
  obtain ⟨x', hx', e⟩ := at_lt hi
  cases hx.symm.trans hx'
  simp [Tryz.ntmps130, h0, hi, e]
  refine (clone_m s.ws hl).mono ?_
  rintro _ (⟨hn, rfl⟩ | rfl)
  · simp [hn] at hi
  simp [wrap_succ hi hl]
  refine (delete_m s.ws i hi hl).mono ?_
  rintro _ rfl
  simp
  refine ⟨by kernel_rfl, vcRet_of [] ?_ rfl⟩
  simp [outAt, h0, e, List.length_eraseIdx, hi]
theorem outNone_m (s : St) (i : Int) (hi : i < 0) : Meets Tryz.prog 130 [s.pv, .i i] [] (Ret (.tup [(outAt s i).1.pv, (outAt s i).2.1.pv, .i 4])) := by
  refine meets tbOk mixed Tryz.func130 pl130 rfl rfl ?_
  simp [Tryz.ntmps130, hi]
  refine vcRet_of [] ?_ rfl
  simp [outAt, hi]
theorem outAny_m (s : St) (p : Wt → Bool) (hl : s.ws.length < 4294967296) : Meets Tryz.prog 130 [s.pv, .i (idx p s.ws 0)] [] (Ret (.tup [(outAt s (idx p s.ws 0)).1.pv, (outAt s (idx p s.ws 0)).2.1.pv, .i (outAt s (idx p s.ws 0)).2.2])) := by
  rcases idx_range p s.ws 0 with h | h
  · rw [h]
    have e : (outAt s (-1)).2.2 = 4 := by simp [outAt]
    rw [e]
    exact outNone_m s (-1) (by omega)
  · obtain ⟨k, hk⟩ : ∃ k : Nat, idx p s.ws 0 = k := ⟨_, (Int.toNat_of_nonneg h.1).symm⟩
    rw [hk] at h ⊢
    have hlt : k < s.ws.length := by omega
    obtain ⟨x, hx, _⟩ := at_lt hlt
    have e : (outAt s (k : Int)).2.2 = 0 := by rw [outAt, if_neg (by omega)]
    rw [e]
    exact out_m s k hlt hl hx
set_option maxHeartbeats 1000000 in
theorem serve_m (s : St) (now : Int) (hl : s.ws.length < 4294967296) : Meets Tryz.prog 138 [s.pv, .i now] [] (Ret (.tup [(serve s now).1.pv, (serve s now).2.1.pv, .i (serve s now).2.2])) := by
  refine meets tbOk mixed Tryz.func138 pl138 rfl rfl ?_
  simp [Tryz.ntmps138]
  refine (ready_m s now hl).mono ?_
  rintro _ rfl
  by_cases hc : rdy s now = 0
  case neg =>
    simp [hc, St.box]
    refine vcRet_of [] ?_ rfl
    simp [serve, hc]
  simp [hc, St.box]
  refine effCall (indexFunc_1 152 2 (.v (.int .i64 now)) (fun x => decide (now < x.dead)) s.ws hl (fun x _ => serve1_m x now)) ?_
  simp
  refine effCall (outAny_m s _ hl) ?_
  simp
  refine ⟨by kernel_rfl, vcRet_of [] ?_ rfl⟩
  simp [serve, hc]
set_option maxHeartbeats 1000000 in
theorem cancel_m (s : St) (n : Int) (hl : s.ws.length < 4294967296) : Meets Tryz.prog 82 [s.pv, .i n] [] (Ret (.tup [(cancel s n).1.pv, (cancel s n).2.1.pv, .i (cancel s n).2.2])) := by
  refine meets tbOk mixed Tryz.func82 pl82 rfl rfl ?_
  simp [Tryz.ntmps82]
  refine (check_m s hl).mono ?_
  rintro _ rfl
  by_cases hc : chk s = 0
  case neg =>
    simp [hc]
    refine vcRet_of [] ?_ rfl
    simp [cancel, hc]
  simp [hc]
  refine effCall (find_m s.ws n hl) ?_
  simp
  refine effCall (outAny_m s _ hl) ?_
  simp
  refine ⟨by kernel_rfl, vcRet_of [] ?_ rfl⟩
  simp [cancel, hc, place]
end Go.Proofs.YtajjmhpdiikjhaaGreat.Wa
namespace Go.Proofs.YtajjmhpdiikjhaaGreat.Wa
set_option maxRecDepth 100000

theorem place_any_eq (ws : List Wt) (n : Int) : decide (0 ≤ place ws n) = ws.any (fun x => x.call == n) := idx_any _ ws 0 (by omega)

theorem dupTo_iff {ws : List Wt} : ∀ {k : Nat}, k ≤ ws.length → (dupTo ws k = false ↔ (ws.take k).Pairwise fun a b => a.call ≠ b.call)
  | 0, _ => by simp [dupTo]
  | k + 1, h => by
    obtain ⟨x, hx⟩ := some_lt (show k < ws.length by omega)
    have ih := dupTo_iff (ws := ws) (k := k) (by omega)
    rw [dupTo_succ hx, Bool.or_eq_false_iff, ih, place_any_eq, List.take_add_one, hx, List.pairwise_append]
    simp only [Option.toList_some, List.pairwise_singleton, true_and, List.mem_singleton, List.any_eq_false, beq_iff_eq]
    constructor
    · rintro ⟨h1, h2⟩
      exact ⟨h1, fun a ha b hb => by subst hb; exact h2 a ha⟩
    · rintro ⟨h1, h2⟩
      exact ⟨h1, fun a ha => h2 a ha x rfl⟩

theorem sortTo_iff {ws : List Wt} : ∀ {k : Nat}, k ≤ ws.length → (sortTo ws k = true ↔ (ws.take k).Pairwise fun a b => a.since ≤ b.since)
  | 0, _ => by simp [sortTo]
  | k + 1, h => by
    obtain ⟨x, hx⟩ := some_lt (show k < ws.length by omega)
    have ih := sortTo_iff (ws := ws) (k := k) (by omega)
    rw [sortTo_succ hx, Bool.and_eq_true, ih, List.take_add_one, hx, List.pairwise_append]
    simp only [Option.toList_some, List.pairwise_singleton, true_and, List.mem_singleton, Bool.or_eq_true, beq_iff_eq, decide_eq_true_eq]
    rcases Nat.eq_zero_or_pos k with rfl | hk
    · simp
    · obtain ⟨y, hy⟩ := some_lt (show k - 1 < ws.length by omega)
      rw [getD_some hy]
      constructor
      · rintro ⟨h1, h2⟩
        have h2' : y.since ≤ x.since := by
          rcases h2 with h2 | h2
          · omega
          · exact h2
        refine ⟨h1, fun a ha b hb => ?_⟩
        subst hb
        obtain ⟨j, hj, rfl⟩ := List.mem_iff_getElem.1 ha
        have hjl : j < k := by rw [List.length_take] at hj; omega
        have hyk : k - 1 < (ws.take k).length := by rw [List.length_take]; omega
        have hye : (ws.take k)[k - 1] = y := by
          rw [List.getElem_take]
          rw [List.getElem?_eq_getElem (by omega)] at hy
          exact Option.some.inj hy
        by_cases hjk : j = k - 1
        · subst hjk; rw [hye]; exact h2'
        · have := List.pairwise_iff_getElem.1 h1 j (k - 1) hj hyk (by omega)
          rw [hye] at this
          exact Int.le_trans this h2'
      · rintro ⟨h1, h2⟩
        refine ⟨h1, .inr (h2 y ?_ x rfl)⟩
        exact List.mem_of_getElem? (i := k - 1) (by rw [List.getElem?_take, if_pos (by omega)]; exact hy)

/-- A state that is one. -/
structure Good (s : St) : Prop where
  room : room s.most = true
  odd : s.ws.any oddW = false
  long : (s.ws.length : Int) ≤ s.most
  calls : s.ws.Pairwise fun a b => a.call ≠ b.call
  sorted : s.ws.Pairwise fun a b => a.since ≤ b.since

theorem chk_good {s : St} : chk s = 0 ↔ Good s := by
  have hd := dupTo_iff (ws := s.ws) (Nat.le_refl _)
  have hs := sortTo_iff (ws := s.ws) (Nat.le_refl _)
  rw [List.take_length] at hd hs
  unfold chk
  constructor
  · intro h
    split at h
    · omega
    rename_i h1
    split at h
    · omega
    rename_i h2
    split at h
    · omega
    rename_i h3
    split at h
    · rename_i h4
      simp only [Bool.not_eq_true, Bool.or_eq_false_iff, Bool.not_eq_false'] at h1 h3
      exact ⟨h1.1, h1.2, by omega, hd.1 h3, hs.1 h4⟩
    · omega
  · rintro ⟨h1, h2, h3, h4, h5⟩
    rw [h1, h2, hd.2 h4, hs.2 h5]
    simp; omega

theorem Good.erase {s : St} (h : Good s) (i : Nat) : Good ⟨s.most, s.ws.eraseIdx i⟩ := by
  have hsub := List.eraseIdx_sublist s.ws i
  refine ⟨h.room, ?_, ?_, h.calls.sublist hsub, h.sorted.sublist hsub⟩
  · have := h.odd
    rw [List.any_eq_false] at this ⊢
    exact fun x hx => this x (hsub.subset hx)
  · have := hsub.length_le
    have := h.long
    show ((s.ws.eraseIdx i).length : Int) ≤ s.most
    omega
theorem Good.filter {s : St} (h : Good s) (p : Wt → Bool) : Good ⟨s.most, s.ws.filter p⟩ := by
  have hsub := List.filter_sublist (l := s.ws) (p := p)
  refine ⟨h.room, ?_, ?_, h.calls.sublist hsub, h.sorted.sublist hsub⟩
  · have := h.odd
    rw [List.any_eq_false] at this ⊢
    exact fun x hx => this x (hsub.subset hx)
  · have := hsub.length_le
    have := h.long
    show ((s.ws.filter p).length : Int) ≤ s.most
    omega
theorem Good.short {s : St} (h : Good s) : s.ws.length ≤ 64 := by
  have := h.long
  have := h.room
  simp [Go.Proofs.YtajjmhpdiikjhaaGreat.Wa.room] at this
  omega
/-- What idx finds holds. -/
theorem idx_holds' {α : Type} (p : α → Bool) : ∀ (ws : List α) (k : Int) (j : Nat) (x : α), ws[j]? = some x → idx p ws k = k + (j : Int) → 0 ≤ k → p x = true
  | [], _, _, _, h, _, _ => by simp at h
  | y :: ys, k, j, x, h, hi, hk => by
    unfold idx at hi
    split at hi
    · obtain rfl : j = 0 := by omega
      simp at h
      subst h
      assumption
    · cases j with
      | zero =>
        exfalso
        rcases idx_range p ys (k + 1) with h1 | h1 <;> omega
      | succ j =>
        exact idx_holds' p ys (k + 1) j x (by simpa using h) (by omega) (by omega)
theorem idx_holds {now : Int} (ws : List Wt) (j : Nat) (x : Wt) (hx : ws[j]? = some x) (h : idx (fun x => decide (now < x.dead)) ws 0 = (j : Int)) : now < x.dead := by
  have := idx_holds' (fun x => decide (now < x.dead)) ws 0 j x hx (by omega) (by omega)
  simpa using this
end Go.Proofs.YtajjmhpdiikjhaaGreat.Wa
namespace Go.Proofs.YtajjmhpdiikjhaaGreat.Wa
set_option maxRecDepth 100000

/-- A state at a time that none of its waiters came after. -/
structure At (s : St) (now : Int) : Prop where
  good : Good s
  lo : 0 ≤ now
  hi : now ≤ 1000000000000
  since : ∀ x ∈ s.ws, x.since ≤ now

theorem At.rdy {s : St} {now : Int} (h : At s now) : rdy s now = 0 := by
  have hc := chk_good.2 h.good
  have := h.lo
  have := h.hi
  rcases Nat.eq_zero_or_pos s.ws.length with h0 | h0
  · exact rdy_ok0 hc h0 (by omega)
  · obtain ⟨y, hy⟩ := some_lt (show s.ws.length - 1 < s.ws.length by omega)
    have := h.since y (List.mem_of_getElem? hy)
    exact rdy_ok hc h0 hy (by omega)
theorem At.later {s : St} {now now' : Int} (h : At s now) (h1 : now ≤ now') (h2 : now' ≤ 1000000000000) : At s now' :=
  ⟨h.good, by have := h.lo; omega, h2, fun x hx => Int.le_trans (h.since x hx) h1⟩
theorem At.filter {s : St} {now : Int} (h : At s now) (p : Wt → Bool) : At ⟨s.most, s.ws.filter p⟩ now :=
  ⟨h.good.filter p, h.lo, h.hi, fun x hx => h.since x (List.filter_sublist.subset hx)⟩
theorem At.start0 {s : St} (h : Good s) (h0 : s.ws.length = 0) : At s 0 :=
  ⟨h, by omega, by omega, fun x hx => by rw [List.eq_nil_of_length_eq_zero h0] at hx; cases hx⟩
theorem At.start {s : St} (h : Good s) {y : Wt} (hy : s.ws[s.ws.length - 1]? = some y) : At s y.since := by
  have ho := List.any_eq_false.1 h.odd y (List.mem_of_getElem? hy)
  simp [oddW] at ho
  refine ⟨h, by omega, by omega, fun x hx => ?_⟩
  obtain ⟨j, hj, rfl⟩ := List.mem_iff_getElem.1 hx
  have hl := lt_some hy
  have hye : s.ws[s.ws.length - 1] = y := by rw [List.getElem?_eq_getElem hl] at hy; exact Option.some.inj hy
  by_cases hjk : j = s.ws.length - 1
  · subst hjk; rw [hye]; exact Int.le_refl _
  · have := List.pairwise_iff_getElem.1 h.sorted j (s.ws.length - 1) hj hl (by omega)
    rw [hye] at this
    exact this

theorem fold_le (now : Int) : ∀ (ws : List Wt) (m : Int), (ws.foldl (fun m x => min m x.dead) m ≤ now ↔ (m ≤ now ∨ ∃ x ∈ ws, x.dead ≤ now))
  | [], m => by simp
  | x :: xs, m => by
    rw [List.foldl_cons, fold_le now xs]
    simp only [List.mem_cons, exists_eq_or_imp]
    rw [show (min m x.dead ≤ now) = (m ≤ now ∨ x.dead ≤ now) from by rw [eq_iff_iff]; omega, or_assoc]

theorem gone_iff (now : Int) (ws : List Wt) : 0 < (ws.filter fun x => !decide (now < x.dead)).length ↔ ∃ x ∈ ws, x.dead ≤ now := by
  rw [List.length_pos_iff_exists_mem]
  constructor
  · rintro ⟨x, hx⟩
    obtain ⟨h1, h2⟩ := List.mem_filter.1 hx
    exact ⟨x, h1, by simpa using h2⟩
  · rintro ⟨x, h1, h2⟩
    exact ⟨x, List.mem_filter.2 ⟨h1, by simpa using h2⟩⟩

/-- What Next says at a time agrees with what Expire takes. -/
theorem At.next {s : St} {now : Int} (h : At s now) : ∃ r e, next s = (r, e) ∧ ((e = 4 ∧ (s.ws.filter fun x => !decide (now < x.dead)).length = 0) ∨ (e = 0 ∧ r ≤ now ∧ 0 < (s.ws.filter fun x => !decide (now < x.dead)).length) ∨
    (e = 0 ∧ now < r ∧ (s.ws.filter fun x => !decide (now < x.dead)).length = 0)) := by
  have hc := chk_good.2 h.good
  have hg := gone_iff now s.ws
  have hf : least s.ws ≤ now ↔ _ := fold_le now s.ws 1000000000001
  have hi := h.hi
  unfold Go.Proofs.YtajjmhpdiikjhaaGreat.Wa.next
  rw [if_neg (by omega)]
  by_cases hl : least s.ws = 1000000000001
  · rw [if_pos hl]
    refine ⟨_, _, rfl, .inl ⟨rfl, ?_⟩⟩
    rw [← hg] at hf
    omega
  · rw [if_neg hl]
    refine ⟨_, _, rfl, .inr ?_⟩
    rw [← hg] at hf
    by_cases hn : least s.ws ≤ now
    · exact .inl ⟨rfl, hn, by omega⟩
    · exact .inr ⟨rfl, by omega, by omega⟩

theorem filter_len (p : Wt → Bool) : ∀ ws : List Wt, (ws.filter fun x => !p x).length + (ws.filter p).length = ws.length
  | [] => rfl
  | x :: xs => by
    have := filter_len p xs
    cases hp : p x <;> simp [hp] <;> omega
theorem filter_later {now now' : Int} (h : now ≤ now') (ws : List Wt) : (ws.filter fun x => decide (now < x.dead)).filter (fun x => decide (now' < x.dead)) = ws.filter fun x => decide (now' < x.dead) := by
  rw [List.filter_filter]
  congr 1
  funext x
  by_cases hx : now' < x.dead
  · simp [hx]; omega
  · simp [hx]
theorem gone_dead {now : Int} {ws : List Wt} {j : Nat} {x : Wt} (h : (ws.filter fun x => !decide (now < x.dead))[j]? = some x) : ¬ now < x.dead := by
  have := (List.mem_filter.1 (List.mem_of_getElem? h)).2
  simpa using this
theorem At.expire {s : St} {now : Int} (h : At s now) : expire s now = (⟨s.most, s.ws.filter fun x => decide (now < x.dead)⟩, s.ws.filter (fun x => !decide (now < x.dead)), 0) := by
  simp [Go.Proofs.YtajjmhpdiikjhaaGreat.Wa.expire, h.rdy]
theorem Good.sub {s : St} (h : Good s) {ws : List Wt} {m : Int} (hsub : ws.Sublist s.ws) (hm : Go.Proofs.YtajjmhpdiikjhaaGreat.Wa.room m = true) (hl : (ws.length : Int) ≤ m) : Good ⟨m, ws⟩ := by
  refine ⟨hm, ?_, hl, h.calls.sublist hsub, h.sorted.sublist hsub⟩
  have := h.odd
  rw [List.any_eq_false] at this ⊢
  exact fun x hx => this x (hsub.subset hx)
end Go.Proofs.YtajjmhpdiikjhaaGreat.Wa
namespace Go.Proofs.YtajjmhpdiikjhaaGreat.Wa
set_option maxRecDepth 100000

theorem rdy_good {s : St} {now : Int} (h : rdy s now = 0) : Good s := by
  refine chk_good.1 ?_
  unfold rdy at h
  split at h
  · rename_i hc; exact absurd h hc
  · rename_i hc; simpa using hc
theorem rdy_at {s : St} {now : Int} (h : rdy s now = 0) : At s now := by
  have hg := rdy_good h
  have hc := chk_good.2 hg
  unfold rdy at h
  rw [if_neg (by omega)] at h
  split at h
  · omega
  rename_i hb
  simp only [badTime, Bool.not_eq_true, Bool.or_eq_false_iff, decide_eq_false_iff_not, Bool.and_eq_false_iff] at hb
  refine ⟨hg, by omega, by omega, fun x hx => ?_⟩
  obtain ⟨j, hj, rfl⟩ := List.mem_iff_getElem.1 hx
  have hl : s.ws.length - 1 < s.ws.length := by omega
  obtain ⟨y, hy⟩ := some_lt hl
  have hye : s.ws[s.ws.length - 1] = y := by rw [List.getElem?_eq_getElem hl] at hy; exact Option.some.inj hy
  have hb2 := hb.2
  rw [getD_some hy] at hb2
  have hyn : y.since ≤ now := by
    rcases hb2 with hb2 | hb2 <;> omega
  by_cases hjk : j = s.ws.length - 1
  · subst hjk; rw [hye]; exact hyn
  · have := List.pairwise_iff_getElem.1 hg.sorted j (s.ws.length - 1) hj hl (by omega)
    rw [hye] at this
    exact Int.le_trans this hyn
theorem place_neg {ws : List Wt} {n : Int} (h : ¬ 0 ≤ place ws n) : ∀ x ∈ ws, x.call ≠ n := by
  have := place_any_eq ws n
  rw [decide_eq_false h] at this
  have := List.any_eq_false.1 this.symm
  intro x hx e
  exact this x hx (by simp [e])
theorem Good.push {s : St} {n now dead : Int} (h : At s now) (hn : callOk n = true) (h1 : now < dead) (h2 : dead ≤ 1000000000001) (hp : ∀ x ∈ s.ws, x.call ≠ n) (hl : (s.ws.length : Int) < s.most) : Good ⟨s.most, s.ws ++ [⟨n, now, dead⟩]⟩ := by
  have hg := h.good
  refine ⟨hg.room, ?_, ?_, ?_, ?_⟩
  · show (s.ws ++ [(⟨n, now, dead⟩ : Wt)]).any oddW = false
    have h3 := h.lo
    have h4 := h.hi
    rw [List.any_append, hg.odd]
    simp [oddW, hn, h3, h4, h1, h2]
  · show (((s.ws ++ [(⟨n, now, dead⟩ : Wt)]).length : Nat) : Int) ≤ s.most
    rw [List.length_append]
    simp; omega
  · show (s.ws ++ [(⟨n, now, dead⟩ : Wt)]).Pairwise _
    rw [List.pairwise_append]
    exact ⟨hg.calls, by simp, fun a ha b hb => by simp at hb; subst hb; exact hp a ha⟩
  · show (s.ws ++ [(⟨n, now, dead⟩ : Wt)]).Pairwise _
    rw [List.pairwise_append]
    exact ⟨hg.sorted, by simp, fun a ha b hb => by simp at hb; subst hb; exact h.since a ha⟩
theorem Good.outAt {s : St} (h : Good s) (i : Int) : Good (outAt s i).1 := by
  unfold Go.Proofs.YtajjmhpdiikjhaaGreat.Wa.outAt
  split
  · exact h
  · exact h.erase _
theorem Good.serve {s : St} (h : Good s) (now : Int) : Good (serve s now).1 := by
  unfold Go.Proofs.YtajjmhpdiikjhaaGreat.Wa.serve
  split
  · exact h
  · exact h.outAt _
theorem Good.cancel {s : St} (h : Good s) (n : Int) : Good (cancel s n).1 := by
  unfold Go.Proofs.YtajjmhpdiikjhaaGreat.Wa.cancel
  split
  · exact h
  · exact h.outAt _
theorem Good.expire {s : St} (h : Good s) (now : Int) : Good (expire s now).1 := by
  unfold Go.Proofs.YtajjmhpdiikjhaaGreat.Wa.expire
  split
  · exact h
  · exact h.filter _
theorem Good.resize {s : St} (h : Good s) (m : Int) : Good (resize s m).1 := by
  unfold Go.Proofs.YtajjmhpdiikjhaaGreat.Wa.resize
  split
  · exact h
  · split
    · exact h
    · rename_i hr
      have hr : Go.Proofs.YtajjmhpdiikjhaaGreat.Wa.room m = true := by simpa using hr
      have hr' := hr
      simp [Go.Proofs.YtajjmhpdiikjhaaGreat.Wa.room] at hr'
      refine h.sub (List.take_sublist _ _) hr ?_
      rw [List.length_take]; omega
theorem Good.join {s : St} (h : Good s) (n now dead : Int) : Good (join s n now dead).1 := by
  unfold Go.Proofs.YtajjmhpdiikjhaaGreat.Wa.join
  split
  · exact h
  rename_i h1
  have h1 : rdy s now = 0 := by simpa using h1
  split
  · exact h
  rename_i h2
  split
  · exact h
  rename_i h3
  split
  · exact h
  rename_i h4
  split
  · exact h
  rename_i h5
  simp at h2
  have := h.long
  exact Good.push (rdy_at h1) h2.1 (by omega) h2.2.2 (place_neg h3) (by omega)
theorem Good.new (m : Int) : Good (new m).1 := by
  unfold Go.Proofs.YtajjmhpdiikjhaaGreat.Wa.new
  split
  · rename_i h
    have h' := h
    simp [Go.Proofs.YtajjmhpdiikjhaaGreat.Wa.room] at h'
    exact ⟨h, rfl, h'.1, List.Pairwise.nil, List.Pairwise.nil⟩
  · exact ⟨by decide, rfl, by decide, List.Pairwise.nil, List.Pairwise.nil⟩
end Go.Proofs.YtajjmhpdiikjhaaGreat.Wa
