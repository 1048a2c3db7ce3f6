/- The pool in plain terms. No condition. -/
import Derived.Test.YtajjmhpdiikjhaaGreatN1
import Derived.Test.YtajjmhpdiikjhaaGreatN2
namespace Go.Proofs.YtajjmhpdiikjhaaGreat.Po
set_option maxRecDepth 100000

structure Ls where
  call : Int
  conn : Int
  born : Int
deriving DecidableEq
instance : Inhabited Ls := ⟨⟨0, 0, 0⟩⟩
structure Dl where
  call : Int
  gone : Bool
deriving DecidableEq
instance : Inhabited Dl := ⟨⟨0, false⟩⟩
structure Po where
  back : Int
  max : Int
  now : Int
  shut : Bool
  idle : Id.St
  ls : List Ls
  ds : List Dl
  wt : Wa.St
deriving DecidableEq
structure Rs where
  kind : Int
  back : Int
  conn : Int
deriving DecidableEq
structure Ef where
  kind : Int
  back : Int
  call : Int
  conn : Int
deriving DecidableEq
instance : Inhabited Ef := ⟨⟨0, 0, 0, 0⟩⟩
def Rs.z : Rs := ⟨0, 0, 0⟩

def timeOk (t : Int) : Bool := decide (0 ≤ t) && decide (t ≤ 1000000000000)
def numOk (n : Int) : Bool := decide (1 ≤ n) && decide (n ≤ 1000000000000000)
theorem timeOk_iff {t : Int} : timeOk t = true ↔ 0 ≤ t ∧ t ≤ 1000000000000 := by simp [timeOk]
theorem numOk_iff {t : Int} : numOk t = true ↔ 1 ≤ t ∧ t ≤ 1000000000000000 := by simp [numOk]

/-- The numbers of a state. -/
structure Nums (s : Po) : Prop where
  b0 : 0 ≤ s.back
  b1 : s.back < 16
  m0 : 1 ≤ s.max
  m1 : s.max ≤ 64
  now : timeOk s.now = true
  most : s.idle.most = s.max
  idle : Id.chk s.idle = 0
  wt : Wa.chk s.wt = 0
  many : (s.idle.cs.length : Int) + s.ls.length + s.ds.length ≤ s.max
def numsB (s : Po) : Bool := decide (0 ≤ s.back) && (decide (s.back < 16) && (decide (1 ≤ s.max) && (decide (s.max ≤ 64) && (timeOk s.now && (decide (s.idle.most = s.max) && (decide (Id.chk s.idle = 0) && (decide (Wa.chk s.wt = 0) && decide ((s.idle.cs.length : Int) + s.ls.length + s.ds.length ≤ s.max))))))))
theorem numsB_iff {s : Po} : numsB s = true ↔ Nums s := by
  simp only [numsB, Bool.and_eq_true, decide_eq_true_eq]
  constructor
  · rintro ⟨h1, h2, h3, h4, h5, h6, h7, h8, h9⟩
    exact ⟨h1, h2, h3, h4, h5, h6, h7, h8, h9⟩
  · rintro ⟨h1, h2, h3, h4, h5, h6, h7, h8, h9⟩
    exact ⟨h1, h2, h3, h4, h5, h6, h7, h8, h9⟩

def lsOk (now : Int) (x : Ls) : Prop := numOk x.call = true ∧ numOk x.conn = true ∧ 0 ≤ x.born ∧ x.born ≤ now
instance {now : Int} {x : Ls} : Decidable (lsOk now x) := by unfold lsOk; infer_instance
def idOk (i a now : Int) (x : Id.Cn) : Prop := x.since ≤ now ∧ now - x.since < i ∧ now - x.born < a
instance {i a now : Int} {x : Id.Cn} : Decidable (idOk i a now x) := by unfold idOk; infer_instance
def wtOk (now : Int) (x : Wa.Wt) : Prop := x.since ≤ now ∧ now < x.dead
instance {now : Int} {x : Wa.Wt} : Decidable (wtOk now x) := by unfold wtOk; infer_instance
def Up (xs : List Int) : Prop := xs.Pairwise (· < ·)
instance {xs : List Int} : Decidable (Up xs) := by unfold Up; infer_instance
/-- All numbers and lists by themselves. -/
structure Form (s : Po) : Prop where
  n : Nums s
  ls : ∀ x ∈ s.ls, lsOk s.now x
  lu : Up (s.ls.map Ls.call)
  ds : ∀ x ∈ s.ds, numOk x.call = true
  du : Up (s.ds.map Dl.call)
  id : ∀ x ∈ s.idle.cs, idOk s.idle.idle s.idle.age s.now x
  wt : ∀ x ∈ s.wt.ws, wtOk s.now x
structure Fine (s : Po) : Prop where
  f : Form s
  wait : s.wt.ws ≠ [] → (s.ls.length : Int) + s.ds.length = s.max
  shut : s.shut = true → s.wt.ws = [] ∧ s.idle.cs = []
  cc : (s.ls.map Ls.conn).Nodup
  ci : ∀ x ∈ s.ls, ∀ y ∈ s.idle.cs, x.conn ≠ y.conn
  ld : ∀ x ∈ s.ls, ∀ y ∈ s.ds, x.call ≠ y.call
  lw : ∀ x ∈ s.ls, ∀ y ∈ s.wt.ws, x.call ≠ y.call
  dw : ∀ x ∈ s.ds, ∀ y ∈ s.wt.ws, x.call ≠ y.call
instance {s : Po} : Decidable (Nums s) := decidable_of_iff _ numsB_iff
instance {s : Po} : Decidable (Form s) := decidable_of_iff (Nums s ∧ (∀ x ∈ s.ls, lsOk s.now x) ∧ Up (s.ls.map Ls.call) ∧ (∀ x ∈ s.ds, numOk x.call = true) ∧ Up (s.ds.map Dl.call) ∧ (∀ x ∈ s.idle.cs, idOk s.idle.idle s.idle.age s.now x) ∧ ∀ x ∈ s.wt.ws, wtOk s.now x)
  ⟨fun ⟨a, b, c, d, e, f, g⟩ => ⟨a, b, c, d, e, f, g⟩, fun ⟨a, b, c, d, e, f, g⟩ => ⟨a, b, c, d, e, f, g⟩⟩
instance {s : Po} : Decidable (Fine s) := decidable_of_iff (Form s ∧ (s.wt.ws ≠ [] → (s.ls.length : Int) + s.ds.length = s.max) ∧ (s.shut = true → s.wt.ws = [] ∧ s.idle.cs = []) ∧ (s.ls.map Ls.conn).Nodup ∧ (∀ x ∈ s.ls, ∀ y ∈ s.idle.cs, x.conn ≠ y.conn) ∧ (∀ x ∈ s.ls, ∀ y ∈ s.ds, x.call ≠ y.call) ∧ (∀ x ∈ s.ls, ∀ y ∈ s.wt.ws, x.call ≠ y.call) ∧ ∀ x ∈ s.ds, ∀ y ∈ s.wt.ws, x.call ≠ y.call)
  ⟨fun ⟨a, b, c, d, e, f, g, h⟩ => ⟨a, b, c, d, e, f, g, h⟩, fun ⟨a, b, c, d, e, f, g, h⟩ => ⟨a, b, c, d, e, f, g, h⟩⟩
def chk (s : Po) : Int := if Fine s then 0 else 6

def role (s : Po) (c : Int) : Int :=
  if s.ls.any (fun x => x.call == c) then 1 else if s.ds.any (fun x => x.call == c) then 2 else if s.wt.ws.any (fun x => x.call == c) then 3 else 0
def there (s : Po) (c : Int) : Bool := s.ls.any (fun x => x.conn == c) || s.idle.cs.any (fun x => x.conn == c)
/-- How many come before a number. -/
def below {α : Type} (key : α → Int) (l : List α) (k : Int) : Nat := (l.takeWhile fun x => decide (key x < k)).length
def insBy {α : Type} (key : α → Int) (l : List α) (x : α) : List α := l.take (below key l (key x)) ++ x :: l.drop (below key l (key x))
def insL (l : List Ls) (x : Ls) : List Ls := insBy Ls.call l x
def insD (l : List Dl) (x : Dl) : List Dl := insBy Dl.call l x
def dropL (l : List Ls) (c : Int) : List Ls := l.filter fun x => x.call != c
def dropD (l : List Dl) (c : Int) : List Dl := l.filter fun x => x.call != c
def findL (l : List Ls) (c : Int) : Ls := (l.find? fun x => x.call == c).getD default
def findD (l : List Dl) (c : Int) : Dl := (l.find? fun x => x.call == c).getD default

def rs (s : Po) (k c : Int) : Rs := if k = 7 then ⟨7, 0, c⟩ else ⟨k, s.back, c⟩
def ef (s : Po) (k a c : Int) : Ef := ⟨k, s.back, a, c⟩
def passS (s : Po) : Po × List Ef := match s.wt.ws with
  | [] => (s, [])
  | w :: ws => ({ s with wt := ⟨s.wt.most, ws⟩, ds := insD s.ds ⟨w.call, false⟩ }, [ef s 2 w.call 0])
def giveS (s : Po) (c b : Int) (re : Bool) : Po × List Ef :=
  if s.shut = true ∨ s.idle.age ≤ s.now - b ∨ re = false then ((passS s).1, ef s 11 0 c :: (passS s).2)
  else match s.wt.ws with
    | w :: ws => ({ s with wt := ⟨s.wt.most, ws⟩, ls := insL s.ls ⟨w.call, c, b⟩ }, [ef s 1 w.call c])
    | [] => ({ s with idle := ⟨s.idle.most, s.idle.idle, s.idle.age, s.idle.cs ++ [⟨c, b, s.now⟩]⟩ }, [])

abbrev Out := Po × Rs × List Ef × Int
def bad (s : Po) (e : Int) : Out := (s, Rs.z, [], e)
def askK (s : Po) (c d : Int) : Out :=
  if numOk c = false ∨ timeOk d = false then bad s 2
  else if role s c ≠ 0 then bad s 8
  else if s.shut = true then (s, rs s 6 0, [], 0)
  else if d ≤ s.now then (s, rs s 5 0, [], 0)
  else if 0 < s.idle.cs.length then
    ({ s with idle := ⟨s.idle.most, s.idle.idle, s.idle.age, s.idle.cs.take (s.idle.cs.length - 1)⟩, ls := insL s.ls ⟨c, (s.idle.cs.getD (s.idle.cs.length - 1) default).conn, (s.idle.cs.getD (s.idle.cs.length - 1) default).born⟩ }, rs s 1 (s.idle.cs.getD (s.idle.cs.length - 1) default).conn, [], 0)
  else if (s.ls.length : Int) + s.ds.length < s.max then ({ s with ds := insD s.ds ⟨c, false⟩ }, rs s 2 0, [], 0)
  else if (s.wt.ws.length : Int) < s.wt.most then ({ s with wt := ⟨s.wt.most, s.wt.ws ++ [⟨c, s.now, d⟩]⟩ }, rs s 3 0, [], 0)
  else (s, rs s 4 0, [], 0)
def dialledT (s : Po) (c n : Int) (ok : Bool) : Out :=
  let t : Po := { s with ds := dropD s.ds c }
  let g := (findD s.ds c).gone
  if ok = false then ((passS t).1, rs s (if g = true then 7 else 10) 0, (passS t).2, 0)
  else if g = true then ((giveS t n s.now true).1, rs s 7 0, (giveS t n s.now true).2, 0)
  else if s.shut = true then (t, rs s 6 0, [ef s 11 0 n], 0)
  else ({ t with ls := insL s.ls ⟨c, n, s.now⟩ }, rs s 1 n, [], 0)
def dialledK (s : Po) (c n : Int) (ok : Bool) : Out :=
  if numOk c = false ∨ (ok = true ∧ numOk n = false) then bad s 2
  else if s.ds.any (fun x => x.call == c) = false then bad s 4
  else if ok = true ∧ there s n = true then bad s 8
  else dialledT s c n ok
def freeK (s : Po) (c : Int) (re : Bool) : Out :=
  if numOk c = false then bad s 2
  else if s.ls.any (fun x => x.call == c) = false then bad s 4
  else
    let t : Po := { s with ls := dropL s.ls c }
    let x := findL s.ls c
    ((giveS t x.conn x.born re).1, rs s 7 0, (giveS t x.conn x.born re).2, 0)
def cancelK (s : Po) (c : Int) : Out :=
  if numOk c = false then bad s 2
  else if s.wt.ws.any (fun x => x.call == c) then ({ s with wt := ⟨s.wt.most, s.wt.ws.filter fun x => x.call != c⟩ }, rs s 7 0, [], 0)
  else if s.ds.any (fun x => x.call == c) then
    if (findD s.ds c).gone = true then bad s 9 else ({ s with ds := s.ds.map fun x => if x.call = c then ⟨c, true⟩ else x }, rs s 7 0, [], 0)
  else if s.ls.any (fun x => x.call == c) then bad s 9 else bad s 4
def lateE (s : Po) (k : Int) (ws : List Wa.Wt) (cs : List Int) : List Ef := (ws.map fun w => ef s k w.call 0) ++ cs.map fun c => ef s 11 0 c
def tickK (s : Po) (n : Int) : Out :=
  if timeOk n = false then bad s 2
  else if n < s.now then bad s 7
  else ({ s with now := n, wt := ⟨s.wt.most, s.wt.ws.filter fun x => decide (n < x.dead)⟩, idle := ⟨s.idle.most, s.idle.idle, s.idle.age, Id.left s.idle n⟩ }, rs s 7 0, lateE s 5 (s.wt.ws.filter fun x => !decide (n < x.dead)) (Id.shut s.idle n), 0)
def shutK (s : Po) : Out :=
  ({ s with shut := true, wt := ⟨s.wt.most, []⟩, idle := ⟨s.idle.most, s.idle.idle, s.idle.age, []⟩ }, rs s 7 0, lateE s 6 s.wt.ws (s.idle.cs.map Id.Cn.conn), 0)
def guarded (s : Po) (o : Out) : Out := if Fine s then o else bad s 6
def ask (s : Po) (c d : Int) : Out := guarded s (askK s c d)
def dialled (s : Po) (c n : Int) (ok : Bool) : Out := guarded s (dialledK s c n ok)
def free (s : Po) (c : Int) (re : Bool) : Out := guarded s (freeK s c re)
def cancel (s : Po) (c : Int) : Out := guarded s (cancelK s c)
def tick (s : Po) (n : Int) : Out := guarded s (tickK s n)
def shut (s : Po) : Out := guarded s (shutK s)
def where_ (s : Po) (c : Int) : Int × Int :=
  if Fine s then if numOk c = false then (0, 2) else if role s c = 0 then (0, 4) else (role s c, 0) else (0, 6)
def Po.z : Po := ⟨0, 0, 0, false, ⟨0, 0, 0, []⟩, [], [], ⟨0, []⟩⟩
def new (b m q i a : Int) : Po × Int :=
  if 0 ≤ b ∧ b < 16 ∧ 1 ≤ m ∧ m ≤ 64 ∧ 0 ≤ q ∧ q ≤ 64 ∧ 1 ≤ i ∧ i ≤ 1000000000000 ∧ 1 ≤ a ∧ a ≤ 1000000000000 then (⟨b, m, 0, false, ⟨m, i, a, []⟩, [], [], ⟨q, []⟩⟩, 0) else (Po.z, 7)
end Go.Proofs.YtajjmhpdiikjhaaGreat.Po
namespace Go.Proofs.YtajjmhpdiikjhaaGreat.Po
set_option maxRecDepth 100000

section
variable {α : Type} {key : α → Int}
theorem below_le (key : α → Int) (l : List α) (k : Int) : below key l k ≤ l.length := by
  unfold below
  exact (List.takeWhile_sublist _).length_le
theorem below_cons {x : α} {l : List α} {k : Int} : below key (x :: l) k = if key x < k then below key l k + 1 else 0 := by
  unfold below
  rw [List.takeWhile_cons]
  by_cases h : key x < k <;> simp [h]
theorem up_cons {x : α} {l : List α} : Up ((x :: l).map key) ↔ (∀ y ∈ l, key x < key y) ∧ Up (l.map key) := by
  simp [Up]
theorem below_spec {k : Int} : ∀ {l : List α}, Up (l.map key) → ∀ {i : Nat} {x : α}, l[i]? = some x → (i < below key l k ↔ key x < k)
  | [], _, _, _, h => by simp at h
  | y :: l, hu, 0, x, h => by
    simp at h; subst h
    rw [below_cons]
    split <;> simp_all
  | y :: l, hu, i + 1, x, h => by
    simp at h
    rw [below_cons]
    have h2 := up_cons.1 hu
    have ih := below_spec (k := k) h2.2 h
    have := h2.1 x (List.mem_of_getElem? h)
    split
    · omega
    · simp; omega
theorem up_inj {l : List α} (hu : Up (l.map key)) {i j : Nat} {x y : α} (hi : l[i]? = some x) (hj : l[j]? = some y) (e : key x = key y) : i = j := by
  have h1 := below_spec (k := key x) hu hi
  have h2 := below_spec (k := key x) hu hj
  have h3 := below_spec (k := key x + 1) hu hi
  have h4 := below_spec (k := key x + 1) hu hj
  by_cases hij : i < j
  · exfalso
    obtain ⟨hi', e1⟩ := List.getElem?_eq_some_iff.1 hi
    obtain ⟨hj', e2⟩ := List.getElem?_eq_some_iff.1 hj
    have := List.pairwise_iff_getElem.1 hu i j (by simpa using hi') (by simpa using hj') hij
    simp [e1, e2] at this
    omega
  · by_cases hji : j < i
    · exfalso
      obtain ⟨hi', e1⟩ := List.getElem?_eq_some_iff.1 hi
      obtain ⟨hj', e2⟩ := List.getElem?_eq_some_iff.1 hj
      have := List.pairwise_iff_getElem.1 hu j i (by simpa using hj') (by simpa using hi') hji
      simp [e1, e2] at this
      omega
    · omega
theorem up_mem {l : List α} (hu : Up (l.map key)) {x y : α} (hi : x ∈ l) (hj : y ∈ l) (e : key x = key y) : x = y := by
  obtain ⟨i, hi⟩ := List.getElem?_of_mem hi
  obtain ⟨j, hj⟩ := List.getElem?_of_mem hj
  obtain rfl := up_inj hu hi hj e
  rw [hi] at hj
  exact Option.some.inj hj
theorem filter_all {l : List α} {p : α → Bool} (h : ∀ x ∈ l, p x = true) : l.filter p = l := List.filter_eq_self.2 h
theorem filter_erase : ∀ {l : List α}, Up (l.map key) → ∀ {i : Nat} {x : α}, l[i]? = some x → l.filter (fun y => key y != key x) = l.eraseIdx i
  | [], _, _, _, h => by simp at h
  | y :: l, hu, 0, x, h => by
    simp at h; subst h
    have h2 := up_cons.1 hu
    simp
    exact fun z hz e => by have := h2.1 z hz; omega
  | y :: l, hu, i + 1, x, h => by
    simp at h
    have h2 := up_cons.1 hu
    have := h2.1 x (List.mem_of_getElem? h)
    rw [List.filter_cons, if_pos (by simp; omega), filter_erase h2.2 h]
    rfl
theorem filter_none {l : List α} {c : Int} (h : l.any (fun y => key y == c) = false) : l.filter (fun y => key y != c) = l := by
  rw [List.any_eq_false] at h
  exact filter_all fun x hx => by simpa using h x hx
theorem find_at : ∀ {l : List α}, Up (l.map key) → ∀ {i : Nat} {x : α}, l[i]? = some x → l.find? (fun y => key y == key x) = some x
  | [], _, _, _, h => by simp at h
  | y :: l, hu, 0, x, h => by
    simp at h; subst h
    simp
  | y :: l, hu, i + 1, x, h => by
    simp at h
    have h2 := up_cons.1 hu
    have := h2.1 x (List.mem_of_getElem? h)
    rw [List.find?_cons, show (key y == key x) = false by simp; omega]
    exact find_at h2.2 h
theorem mem_ins {l : List α} {x y : α} : y ∈ insBy key l x ↔ y = x ∨ y ∈ l := by
  unfold insBy
  have e := List.take_append_drop (below key l (key x)) l
  constructor
  · intro h
    rw [List.mem_append, List.mem_cons] at h
    rcases h with h | h | h
    · exact .inr (List.mem_of_mem_take h)
    · exact .inl h
    · exact .inr (List.mem_of_mem_drop h)
  · intro h
    rw [List.mem_append, List.mem_cons]
    rcases h with h | h
    · exact .inr (.inl h)
    · rw [← e, List.mem_append] at h
      rcases h with h | h
      · exact .inl h
      · exact .inr (.inr h)
theorem ins_len {l : List α} {x : α} : (insBy key l x).length = l.length + 1 := by
  have := below_le key l (key x)
  simp [insBy]; omega
theorem ins_cons {l : List α} {x y : α} : insBy key (y :: l) x = if key y < key x then y :: insBy key l x else x :: y :: l := by
  unfold insBy
  rw [below_cons]
  split <;> simp
theorem up_ins {x : α} : ∀ {l : List α}, Up (l.map key) → (∀ y ∈ l, key y ≠ key x) → Up ((insBy key l x).map key)
  | [], _, _ => by simp [insBy, Up]
  | y :: l, hu, hn => by
    have h2 := up_cons.1 hu
    have h3 := hn y (by simp)
    rw [ins_cons]
    split
    · rename_i h
      refine up_cons.2 ⟨fun z hz => ?_, up_ins h2.2 fun z hz => hn z (by simp [hz])⟩
      rcases mem_ins.1 hz with rfl | hz
      · exact h
      · exact h2.1 z hz
    · rename_i h
      refine up_cons.2 ⟨fun z hz => ?_, hu⟩
      rcases List.mem_cons.1 hz with rfl | hz
      · omega
      · have := h2.1 z hz; omega
theorem up_filter {l : List α} {p : α → Bool} (hu : Up (l.map key)) : Up ((l.filter p).map key) := hu.sublist (List.filter_sublist.map key)
/-- Taken out, and put in again. -/
theorem ins_filter {x y : α} : ∀ {l : List α}, Up (l.map key) → ∀ {i : Nat}, l[i]? = some x → key y = key x → insBy key (l.filter fun z => key z != key x) y = l.set i y
  | [], _, _, h, _ => by simp at h
  | z :: l, hu, 0, h, e => by
    simp at h; subst h
    have h2 := up_cons.1 hu
    have : (z :: l).filter (fun a => key a != key z) = l := by
      simp
      exact fun a ha e => by have := h2.1 a ha; omega
    rw [this]
    cases l with
    | nil => rfl
    | cons a l =>
      have := h2.1 a (by simp)
      rw [ins_cons, if_neg (by omega)]; rfl
  | z :: l, hu, i + 1, h, e => by
    simp at h
    have h2 := up_cons.1 hu
    have := h2.1 x (List.mem_of_getElem? h)
    rw [List.filter_cons, if_pos (by simp; omega), ins_cons, if_pos (by omega), ins_filter h2.2 h e]
    rfl
theorem map_set {y : α} : ∀ {l : List α}, Up (l.map key) → ∀ {i : Nat} {x : α}, l[i]? = some x → l.map (fun z => if key z = key x then y else z) = l.set i y
  | [], _, _, _, h => by simp at h
  | z :: l, hu, 0, x, h => by
    simp at h; subst h
    have h2 := up_cons.1 hu
    simp
    refine (List.map_congr_left fun a ha => ?_).trans (List.map_id _)
    have := h2.1 a ha
    rw [if_neg (by omega)]; rfl
  | z :: l, hu, i + 1, x, h => by
    simp at h
    have h2 := up_cons.1 hu
    have := h2.1 x (List.mem_of_getElem? h)
    rw [List.map_cons, if_neg (by omega), map_set h2.2 h]
    rfl
/-- The list as the reference makes it: the new one lies ahead of the first greater one. -/
def refIns (key : α → Int) (x : α) : List α → List α
  | [] => [x]
  | y :: l => if key x < key y then x :: y :: l else y :: refIns key x l
theorem refIns_eq {x : α} : ∀ {l : List α}, (∀ y ∈ l, key y ≠ key x) → refIns key x l = insBy key l x
  | [], _ => rfl
  | y :: l, hn => by
    have h3 := hn y (by simp)
    rw [refIns, ins_cons]
    by_cases h : key x < key y
    · rw [if_pos h, if_neg (by omega)]
    · rw [if_neg h, if_pos (by omega), refIns_eq fun z hz => hn z (by simp [hz])]
theorem any_mem {l : List α} {c : Int} : l.any (fun y => key y == c) = true ↔ ∃ x ∈ l, key x = c := by simp
theorem any_not {l : List α} {c : Int} : l.any (fun y => key y == c) = false ↔ ∀ x ∈ l, key x ≠ c := by simp
end
end Go.Proofs.YtajjmhpdiikjhaaGreat.Po
namespace Go.Proofs.YtajjmhpdiikjhaaGreat.Po
set_option maxRecDepth 100000

theorem Form.idAt {s : Po} (h : Form s) : Id.At s.idle s.now :=
  ⟨Id.chk_good.1 h.n.idle, (timeOk_iff.1 h.n.now).1, (timeOk_iff.1 h.n.now).2, fun x hx => (h.id x hx).1⟩
theorem Form.wtAt {s : Po} (h : Form s) : Wa.At s.wt s.now :=
  ⟨Wa.chk_good.1 h.n.wt, (timeOk_iff.1 h.n.now).1, (timeOk_iff.1 h.n.now).2, fun x hx => (h.wt x hx).1⟩
theorem Form.ilen {s : Po} (h : Form s) : s.idle.cs.length ≤ 64 := by have := h.n.many; have := h.n.m1; omega
theorem Form.llen {s : Po} (h : Form s) : s.ls.length ≤ 64 := by have := h.n.many; have := h.n.m1; omega
theorem Form.dlen {s : Po} (h : Form s) : s.ds.length ≤ 64 := by have := h.n.many; have := h.n.m1; omega
theorem Form.wlen {s : Po} (h : Form s) : s.wt.ws.length ≤ 64 := h.wtAt.good.short

theorem outAt_zero {s : Wa.St} {w : Wa.Wt} {ws : List Wa.Wt} (e : s.ws = w :: ws) : Wa.outAt s 0 = (⟨s.most, ws⟩, w, 0) := by
  simp [Wa.outAt, e]
theorem serve_cons {s : Wa.St} {now : Int} (h : Wa.At s now) (hd : ∀ x ∈ s.ws, now < x.dead) {w : Wa.Wt} {ws : List Wa.Wt} (e : s.ws = w :: ws) : Wa.serve s now = (⟨s.most, ws⟩, w, 0) := by
  have h0 : Wa.idx (fun x : Wa.Wt => decide (now < x.dead)) s.ws 0 = 0 := by
    rw [e]; simp [Wa.idx, hd w (by rw [e]; simp)]
  rw [Wa.serve, if_neg (by rw [h.rdy]; simp), h0, outAt_zero e]
theorem serve_nil {s : Wa.St} {now : Int} (h : Wa.At s now) (e : s.ws = []) : Wa.serve s now = (s, ⟨0, 0, 0⟩, 4) := by
  rw [Wa.serve, if_neg (by rw [h.rdy]; simp), e]
  simp [Wa.idx, Wa.outAt]
theorem left_all {s : Po} (h : Form s) : Id.left s.idle s.now = s.idle.cs := by
  refine filter_all fun x hx => ?_
  have := h.id x hx
  simp [Id.good, this.2.1, this.2.2]
theorem shut_none {s : Po} (h : Form s) : Id.shut s.idle s.now = [] := by
  have : s.idle.cs.filter (fun x => !Id.good s.idle.idle s.idle.age s.now x) = [] := by
    rw [List.filter_eq_nil_iff]
    intro x hx
    have := h.id x hx
    simp [Id.good, this.2.1, this.2.2]
  simp [Id.shut, this]
theorem take_some {s : Po} (h : Form s) (h0 : 0 < s.idle.cs.length) : Id.take s.idle s.now = (⟨s.idle.most, s.idle.idle, s.idle.age, s.idle.cs.take (s.idle.cs.length - 1)⟩, s.idle.cs.getD (s.idle.cs.length - 1) default, [], 0) := by
  rw [Id.take, if_neg (by rw [h.idAt.rdy]; simp), left_all h, if_neg (by intro e; rw [e] at h0; simp at h0), shut_none h]
theorem take_none {s : Po} (h : Form s) (h0 : s.idle.cs = []) : Id.take s.idle s.now = (s.idle, ⟨0, 0, 0⟩, [], 4) := by
  rw [Id.take, if_neg (by rw [h.idAt.rdy]; simp), left_all h, if_pos h0, shut_none h]
  cases hs : s.idle
  rw [hs] at h0; simp at h0; subst h0; rfl
theorem id_place {cs : List Id.Cn} {c : Int} (h : ∀ x ∈ cs, x.conn ≠ c) : ¬ 0 ≤ Id.place cs c := fun hc => by
  have := Id.place_any_eq cs c
  rw [decide_eq_true hc] at this
  have h2 := this.symm
  rw [List.any_eq_true] at h2
  obtain ⟨x, hx, e⟩ := h2
  exact h x hx (by simpa using e)
theorem put_push {s : Id.St} {now c b : Int} (h : Id.At s now) (hc : numOk c = true) (hb : 0 ≤ b ∧ b ≤ now) (hn : ∀ x ∈ s.cs, x.conn ≠ c) (ha : now - b < s.age) (hl : (s.cs.length : Int) + 1 ≤ s.most) :
    Id.put s c b now = (⟨s.most, s.idle, s.age, s.cs ++ [⟨c, b, now⟩]⟩, [], 0) := by
  have ho : Id.oddC ⟨c, b, now⟩ = false := by
    have := numOk_iff.1 hc
    have := h.lo
    have := h.hi
    simp [Id.oddC, Id.inB]; omega
  rw [Id.put, if_neg (by rw [h.rdy]; simp), ho]
  simp only [Bool.false_eq_true, if_false]
  rw [if_neg (id_place hn), if_neg (by omega), if_pos hl]
theorem wa_place {ws : List Wa.Wt} {c : Int} : 0 ≤ Wa.place ws c ↔ ws.any (fun x => x.call == c) = true := by
  rw [← Wa.place_any_eq]; simp
theorem join_ok {s : Wa.St} {now c d : Int} (h : Wa.At s now) (hc : numOk c = true) (hd : timeOk d = true) (hn : s.ws.any (fun x => x.call == c) = false) (hl : now < d) :
    Wa.join s c now d = if (s.ws.length : Int) < s.most then (⟨s.most, s.ws ++ [⟨c, now, d⟩]⟩, 0) else (s, 5) := by
  have h1 : Wa.callOk c = true := hc
  have h2 := timeOk_iff.1 hd
  have h3 := h.good.long
  rw [Wa.join, if_neg (by rw [h.rdy]; simp), if_neg (by simp [h1]; omega), if_neg (by rw [wa_place, hn]; simp), if_neg (by omega)]
  by_cases h4 : (s.ws.length : Int) = s.most
  · rw [if_pos h4, if_neg (by omega)]
  · rw [if_neg h4, if_pos (by omega)]

/-- A state from which a lease or a dial was taken. -/
structure Hole (s : Po) : Prop where
  f : Form s
  room : (s.idle.cs.length : Int) + s.ls.length + s.ds.length + 1 ≤ s.max
  wait : s.wt.ws ≠ [] → (s.ls.length : Int) + s.ds.length + 1 = s.max
  shut : s.shut = true → s.wt.ws = [] ∧ s.idle.cs = []
  cc : (s.ls.map Ls.conn).Nodup
  ci : ∀ x ∈ s.ls, ∀ y ∈ s.idle.cs, x.conn ≠ y.conn
  ld : ∀ x ∈ s.ls, ∀ y ∈ s.ds, x.call ≠ y.call
  lw : ∀ x ∈ s.ls, ∀ y ∈ s.wt.ws, x.call ≠ y.call
  dw : ∀ x ∈ s.ds, ∀ y ∈ s.wt.ws, x.call ≠ y.call
theorem len_erase {α : Type} {l : List α} {i : Nat} {x : α} (h : l[i]? = some x) : (l.eraseIdx i).length + 1 = l.length := by
  have := (List.getElem?_eq_some_iff.1 h).1
  rw [List.length_eraseIdx, if_pos this]; omega
theorem mem_keyed {α : Type} {key : α → Int} {l : List α} {c : Int} (h : l.any (fun x => key x == c) = true) : ∃ (i : Nat) (x : α), l[i]? = some x ∧ key x = c := by
  obtain ⟨x, hx, e⟩ := List.any_eq_true.1 h
  obtain ⟨i, hi⟩ := List.getElem?_of_mem hx
  exact ⟨i, x, hi, by simpa using e⟩
theorem dropL_at {l : List Ls} (hu : Up (l.map Ls.call)) {i : Nat} {x : Ls} (h : l[i]? = some x) : dropL l x.call = l.eraseIdx i := filter_erase hu h
theorem dropD_at {l : List Dl} (hu : Up (l.map Dl.call)) {i : Nat} {x : Dl} (h : l[i]? = some x) : dropD l x.call = l.eraseIdx i := filter_erase hu h
theorem findL_at {l : List Ls} (hu : Up (l.map Ls.call)) {i : Nat} {x : Ls} (h : l[i]? = some x) : findL l x.call = x := by rw [findL, find_at hu h]; rfl
theorem findD_at {l : List Dl} (hu : Up (l.map Dl.call)) {i : Nat} {x : Dl} (h : l[i]? = some x) : findD l x.call = x := by rw [findD, find_at hu h]; rfl
theorem mem_dropL {l : List Ls} {c : Int} {x : Ls} : x ∈ dropL l c ↔ x ∈ l ∧ x.call ≠ c := by simp [dropL]
theorem mem_dropD {l : List Dl} {c : Int} {x : Dl} : x ∈ dropD l c ↔ x ∈ l ∧ x.call ≠ c := by simp [dropD]
theorem Fine.holeL {s : Po} (h : Fine s) {i : Nat} {x : Ls} (hx : s.ls[i]? = some x) : Hole { s with ls := dropL s.ls x.call } := by
  have hl := len_erase hx
  have e := dropL_at h.f.lu hx
  have hs : (dropL s.ls x.call).Sublist s.ls := List.filter_sublist
  have hm := h.f.n.many
  refine ⟨⟨⟨h.f.n.b0, h.f.n.b1, h.f.n.m0, h.f.n.m1, h.f.n.now, h.f.n.most, h.f.n.idle, h.f.n.wt, ?_⟩, fun y hy => h.f.ls y (hs.subset hy), up_filter h.f.lu, h.f.ds, h.f.du, h.f.id, h.f.wt⟩, ?_, fun hw => ?_, h.shut, h.cc.sublist (hs.map _), fun y hy => h.ci y (hs.subset hy), fun y hy => h.ld y (hs.subset hy), fun y hy => h.lw y (hs.subset hy), h.dw⟩
  · simp only [e]; omega
  · simp only [e]; omega
  · have := h.wait hw
    simp only [e]; omega
theorem Fine.holeD {s : Po} (h : Fine s) {i : Nat} {x : Dl} (hx : s.ds[i]? = some x) : Hole { s with ds := dropD s.ds x.call } := by
  have hl := len_erase hx
  have e := dropD_at h.f.du hx
  have hs : (dropD s.ds x.call).Sublist s.ds := List.filter_sublist
  have hm := h.f.n.many
  refine ⟨⟨⟨h.f.n.b0, h.f.n.b1, h.f.n.m0, h.f.n.m1, h.f.n.now, h.f.n.most, h.f.n.idle, h.f.n.wt, ?_⟩, h.f.ls, h.f.lu, fun y hy => h.f.ds y (hs.subset hy), up_filter h.f.du, h.f.id, h.f.wt⟩, ?_, fun hw => ?_, h.shut, h.cc, h.ci, fun y hy z hz => h.ld y hy z (hs.subset hz), h.lw, fun y hy => h.dw y (hs.subset hy)⟩
  · simp only [e]; omega
  · simp only [e]; omega
  · have := h.wait hw
    simp only [e]; omega
theorem wt_head {s : Po} (h : Form s) {w : Wa.Wt} {ws : List Wa.Wt} (e : s.wt.ws = w :: ws) : numOk w.call = true ∧ (∀ x ∈ ws, x.call ≠ w.call) ∧ Wa.chk ⟨s.wt.most, ws⟩ = 0 := by
  have hg := h.wtAt.good
  have ho : Wa.oddW w = false := by
    have := List.any_eq_false.1 hg.odd w (by rw [e]; simp)
    simpa using this
  have hc := hg.calls
  rw [e, List.pairwise_cons] at hc
  refine ⟨?_, fun x hx => (hc.1 x hx).symm, Wa.chk_good.2 (hg.sub (ws := ws) (m := s.wt.most) (by rw [e]; exact List.sublist_cons_self _ _) hg.room (by have := hg.long; rw [e] at this; simp at this; omega))⟩
  show Wa.callOk w.call = true
  simp [Wa.oddW] at ho
  exact ho.1
theorem pass_fine {s : Po} (h : Hole s) : Fine (passS s).1 := by
  unfold passS
  split
  · rename_i e
    have hn := h.f.n
    exact ⟨h.f, fun hw => absurd e hw, h.shut, h.cc, h.ci, h.ld, h.lw, h.dw⟩
  · rename_i w ws e
    obtain ⟨k1, k2, k3⟩ := wt_head h.f e
    have hd : ∀ y ∈ s.ds, y.call ≠ w.call := fun y hy => h.dw y hy w (by rw [e]; simp)
    have hr := h.room
    have hw := h.wait (by rw [e]; simp)
    have hsub : ∀ x ∈ ws, x ∈ s.wt.ws := fun x hx => by rw [e]; exact List.mem_cons_of_mem _ hx
    refine ⟨⟨⟨h.f.n.b0, h.f.n.b1, h.f.n.m0, h.f.n.m1, h.f.n.now, h.f.n.most, h.f.n.idle, k3, ?_⟩, h.f.ls, h.f.lu, fun x hx => ?_, up_ins h.f.du hd, h.f.id, fun x hx => h.f.wt x (hsub x hx)⟩, fun _ => ?_, fun hs => ?_, h.cc, h.ci, fun x hx y hy => ?_, fun x hx y hy => h.lw x hx y (hsub y hy), fun x hx y hy => ?_⟩
    · simp only [insD, ins_len]; omega
    · rcases mem_ins.1 hx with rfl | hx
      · exact k1
      · exact h.f.ds x hx
    · simp only [insD, ins_len]; omega
    · have := (h.shut hs).1
      rw [e] at this; cases this
    · rcases mem_ins.1 hy with rfl | hy
      · exact h.lw x hx w (by rw [e]; simp)
      · exact h.ld x hx y hy
    · rcases mem_ins.1 hx with rfl | hx
      · exact (k2 y hy).symm
      · exact h.dw x hx y (hsub y hy)
theorem give_fine {s : Po} (h : Hole s) {c b : Int} (re : Bool) (hc : numOk c = true) (hb : 0 ≤ b ∧ b ≤ s.now) (hl : ∀ x ∈ s.ls, x.conn ≠ c) (hi : ∀ x ∈ s.idle.cs, x.conn ≠ c) : Fine (giveS s c b re).1 := by
  unfold giveS
  split
  · exact pass_fine h
  · rename_i hg
    simp only [not_or, Int.not_le] at hg
    obtain ⟨g1, g2, g3⟩ := hg
    split
    · rename_i w ws e
      obtain ⟨k1, k2, k3⟩ := wt_head h.f e
      have hd : ∀ y ∈ s.ls, y.call ≠ w.call := fun y hy => h.lw y hy w (by rw [e]; simp)
      have hr := h.room
      have hw := h.wait (by rw [e]; simp)
      have hsub : ∀ x ∈ ws, x ∈ s.wt.ws := fun x hx => by rw [e]; exact List.mem_cons_of_mem _ hx
      refine ⟨⟨⟨h.f.n.b0, h.f.n.b1, h.f.n.m0, h.f.n.m1, h.f.n.now, h.f.n.most, h.f.n.idle, k3, ?_⟩, fun x hx => ?_, up_ins h.f.lu hd, h.f.ds, h.f.du, h.f.id, fun x hx => h.f.wt x (hsub x hx)⟩, fun _ => ?_, fun hs => absurd hs g1, ?_, fun x hx y hy => ?_, fun x hx y hy => ?_, fun x hx y hy => ?_, fun x hx y hy => h.dw x hx y (hsub y hy)⟩
      · simp only [insL, ins_len]; omega
      · rcases mem_ins.1 hx with rfl | hx
        · exact ⟨k1, hc, hb.1, hb.2⟩
        · exact h.f.ls x hx
      · simp only [insL, ins_len]; omega
      · have hp : (insL s.ls ⟨w.call, c, b⟩).Perm (⟨w.call, c, b⟩ :: s.ls) := by
          unfold insL insBy
          refine List.perm_middle.trans ?_
          rw [List.take_append_drop]
        rw [(hp.map _).nodup_iff, List.map_cons, List.nodup_cons]
        exact ⟨fun hm => by obtain ⟨x, hx, e⟩ := List.mem_map.1 hm; exact hl x hx e, h.cc⟩
      · rcases mem_ins.1 hx with rfl | hx
        · exact (hi y hy).symm
        · exact h.ci x hx y hy
      · rcases mem_ins.1 hx with rfl | hx
        · exact (h.dw y hy w (by rw [e]; simp)).symm
        · exact h.ld x hx y hy
      · rcases mem_ins.1 hx with rfl | hx
        · exact (k2 y hy).symm
        · exact h.lw x hx y (hsub y hy)
    · rename_i e
      have hat := h.f.idAt
      have hr := h.room
      have hmost := h.f.n.most
      have h64 := h.f.n.m1
      have ho : Id.oddC ⟨c, b, s.now⟩ = false := by
        have := numOk_iff.1 hc
        have := hat.lo
        have := hat.hi
        simp [Id.oddC, Id.inB]; omega
      have hgd : Id.Good ⟨s.idle.most, s.idle.idle, s.idle.age, s.idle.cs ++ [⟨c, b, s.now⟩]⟩ := Id.Good.push (xs := s.idle.cs) hat.toGood (by omega) ho hi hat.since
      have hnums := hat.nums
      simp [Id.nums, Id.inB] at hnums
      refine ⟨⟨⟨h.f.n.b0, h.f.n.b1, h.f.n.m0, h.f.n.m1, h.f.n.now, h.f.n.most, Id.chk_good.2 hgd, h.f.n.wt, ?_⟩, h.f.ls, h.f.lu, h.f.ds, h.f.du, fun x hx => ?_, h.f.wt⟩, fun hw => absurd e hw, fun hs => absurd hs g1, h.cc, fun x hx y hy => ?_, h.ld, h.lw, h.dw⟩
      · simp; omega
      · rcases List.mem_append.1 hx with hx | hx
        · exact h.f.id x hx
        · rw [List.mem_singleton.1 hx]
          exact ⟨Int.le_refl _, by simp; omega, g2 |> fun g2 => by simp; omega⟩
      · rcases List.mem_append.1 hy with hy | hy
        · exact h.ci x hx y hy
        · rw [List.mem_singleton.1 hy]
          exact hl x hx
end Go.Proofs.YtajjmhpdiikjhaaGreat.Po
namespace Go.Proofs.YtajjmhpdiikjhaaGreat.Po
set_option maxRecDepth 100000

theorem role_zero {s : Po} {c : Int} : role s c = 0 ↔ (∀ x ∈ s.ls, x.call ≠ c) ∧ (∀ x ∈ s.ds, x.call ≠ c) ∧ ∀ x ∈ s.wt.ws, x.call ≠ c := by
  unfold role
  cases h1 : s.ls.any (fun x => x.call == c)
  · cases h2 : s.ds.any (fun x => x.call == c)
    · cases h3 : s.wt.ws.any (fun x => x.call == c)
      · simp at h1 h2 h3 ⊢
        exact ⟨h1, h2, h3⟩
      · simp at h3 ⊢
        intro _ _
        exact h3
    · simp at h2 ⊢
      intro _ h
      obtain ⟨x, hx, e⟩ := h2
      exact absurd e (h x hx)
  · simp at h1 ⊢
    intro h
    obtain ⟨x, hx, e⟩ := h1
    exact absurd e (h x hx)
theorem perm_insL (l : List Ls) (x : Ls) : (insL l x).Perm (x :: l) := by
  unfold insL insBy
  refine List.perm_middle.trans ?_
  rw [List.take_append_drop]
theorem lease_conns {l : List Ls} {x : Ls} (h : (l.map Ls.conn).Nodup) (hn : ∀ y ∈ l, y.conn ≠ x.conn) : ((insL l x).map Ls.conn).Nodup := by
  rw [((perm_insL l x).map _).nodup_iff, List.map_cons, List.nodup_cons]
  exact ⟨fun hm => by obtain ⟨y, hy, e⟩ := List.mem_map.1 hm; exact hn y hy e, h⟩
/-- Nobody waits, and there is room: a lease more. -/
theorem lease_fine {s : Po} (h : Form s) (hr : (s.idle.cs.length : Int) + s.ls.length + s.ds.length + 1 ≤ s.max) (hw : s.wt.ws ≠ [] → (s.ls.length : Int) + s.ds.length + 1 = s.max) (hs : s.shut = true → s.wt.ws = [] ∧ s.idle.cs = []) (hcc : (s.ls.map Ls.conn).Nodup)
    (hci : ∀ x ∈ s.ls, ∀ y ∈ s.idle.cs, x.conn ≠ y.conn) (hld : ∀ x ∈ s.ls, ∀ y ∈ s.ds, x.call ≠ y.call) (hlw : ∀ x ∈ s.ls, ∀ y ∈ s.wt.ws, x.call ≠ y.call) (hdw : ∀ x ∈ s.ds, ∀ y ∈ s.wt.ws, x.call ≠ y.call)
    {x : Ls} (hx : lsOk s.now x) (h1 : ∀ y ∈ s.ls, y.call ≠ x.call) (h2 : ∀ y ∈ s.ds, y.call ≠ x.call) (h3 : ∀ y ∈ s.wt.ws, y.call ≠ x.call) (h4 : ∀ y ∈ s.ls, y.conn ≠ x.conn) (h5 : ∀ y ∈ s.idle.cs, y.conn ≠ x.conn) : Fine { s with ls := insL s.ls x } := by
  refine ⟨⟨⟨h.n.b0, h.n.b1, h.n.m0, h.n.m1, h.n.now, h.n.most, h.n.idle, h.n.wt, ?_⟩, fun y hy => ?_, up_ins h.lu h1, h.ds, h.du, h.id, h.wt⟩, fun hw' => ?_, hs, lease_conns hcc h4, fun y hy z hz => ?_, fun y hy z hz => ?_, fun y hy z hz => ?_, hdw⟩
  · simp only [insL, ins_len]; omega
  · rcases mem_ins.1 hy with rfl | hy
    · exact hx
    · exact h.ls y hy
  · have := hw hw'
    simp only [insL, ins_len]; omega
  · rcases mem_ins.1 hy with rfl | hy
    · exact (h5 z hz).symm
    · exact hci y hy z hz
  · rcases mem_ins.1 hy with rfl | hy
    · exact (h2 z hz).symm
    · exact hld y hy z hz
  · rcases mem_ins.1 hy with rfl | hy
    · exact (h3 z hz).symm
    · exact hlw y hy z hz
theorem Hole.lease {s : Po} (h : Hole s) {x : Ls} (hx : lsOk s.now x) (h1 : ∀ y ∈ s.ls, y.call ≠ x.call) (h2 : ∀ y ∈ s.ds, y.call ≠ x.call) (h3 : ∀ y ∈ s.wt.ws, y.call ≠ x.call) (h4 : ∀ y ∈ s.ls, y.conn ≠ x.conn) (h5 : ∀ y ∈ s.idle.cs, y.conn ≠ x.conn) : Fine { s with ls := insL s.ls x } :=
  lease_fine h.f h.room h.wait h.shut h.cc h.ci h.ld h.lw h.dw hx h1 h2 h3 h4 h5
theorem getLast_split {α : Type} {l : List α} [Inhabited α] (h : 0 < l.length) : ∃ x, l[l.length - 1]? = some x ∧ l.getD (l.length - 1) default = x ∧ l = l.take (l.length - 1) ++ [x] := by
  obtain ⟨x, hx⟩ : ∃ x, l[l.length - 1]? = some x := ⟨_, List.getElem?_eq_getElem (by omega)⟩
  refine ⟨x, hx, by simp [List.getD, hx], ?_⟩
  have h1 : l.take (l.length - 1 + 1) = l.take (l.length - 1) ++ [x] := by rw [List.take_add_one, hx]; rfl
  rw [← h1, List.take_of_length_le (by omega)]
theorem ask_fine {s : Po} (h : Fine s) (c d : Int) : Fine (askK s c d).1 := by
  have hm := h.f.n.many
  unfold askK
  split
  · exact h
  rename_i g0
  simp only [not_or, Bool.not_eq_false] at g0
  split
  · exact h
  rename_i g1
  simp only [ne_eq, Decidable.not_not] at g1
  obtain ⟨r1, r2, r3⟩ := role_zero.1 g1
  split
  · exact h
  rename_i g2
  split
  · exact h
  rename_i g3
  split
  · rename_i g4
    obtain ⟨x, hx, e, es⟩ := getLast_split g4
    rw [e]
    have hxm := List.mem_of_getElem? hx
    have hw : s.wt.ws = [] := by
      cases hw : s.wt.ws with
      | nil => rfl
      | cons w ws =>
        have := h.wait (by rw [hw]; simp)
        omega
    have hsub : (s.idle.cs.take (s.idle.cs.length - 1)).Sublist s.idle.cs := List.take_sublist _ _
    have hgd := h.f.idAt.toGood.sub hsub
    have hpw := h.f.idAt.calls
    rw [es, List.pairwise_append] at hpw
    have ho : Id.oddC x = false := by
      have := List.any_eq_false.1 h.f.idAt.odd x hxm
      simpa using this
    have hnum : (1 ≤ x.conn ∧ x.conn ≤ 1000000000000000) ∧ 0 ≤ x.born ∧ x.born ≤ x.since := by
      simp [Id.oddC, Id.inB] at ho; omega
    have hid := h.f.id x hxm
    have hlen : (s.idle.cs.take (s.idle.cs.length - 1)).length = s.idle.cs.length - 1 := by rw [List.length_take]; omega
    refine lease_fine (s := { s with idle := ⟨s.idle.most, s.idle.idle, s.idle.age, s.idle.cs.take (s.idle.cs.length - 1)⟩ }) ⟨⟨h.f.n.b0, h.f.n.b1, h.f.n.m0, h.f.n.m1, h.f.n.now, h.f.n.most, Id.chk_good.2 hgd, h.f.n.wt, ?_⟩, h.f.ls, h.f.lu, h.f.ds, h.f.du, fun y hy => h.f.id y (hsub.subset hy), h.f.wt⟩ ?_ (fun h' => absurd hw h') (fun hs => absurd hs g2) h.cc (fun y hy z hz => h.ci y hy z (hsub.subset hz)) h.ld h.lw h.dw ?_ r1 r2 r3 (fun y hy => h.ci y hy x hxm) (fun y hy => hpw.2.2 y hy x (by simp))
    · simp only [hlen]; omega
    · simp only [hlen]; omega
    · exact ⟨g0.1, numOk_iff.2 hnum.1, hnum.2.1, by have h9 : x.since ≤ s.now := hid.1; show x.born ≤ s.now; omega⟩
  rename_i g4
  have hcs : s.idle.cs = [] := List.length_eq_zero_iff.1 (by omega)
  split
  · rename_i g5
    have hw : s.wt.ws = [] := by
      cases hw : s.wt.ws with
      | nil => rfl
      | cons w ws =>
        have := h.wait (by rw [hw]; simp)
        omega
    refine ⟨⟨⟨h.f.n.b0, h.f.n.b1, h.f.n.m0, h.f.n.m1, h.f.n.now, h.f.n.most, h.f.n.idle, h.f.n.wt, ?_⟩, h.f.ls, h.f.lu, fun y hy => ?_, up_ins h.f.du r2, h.f.id, h.f.wt⟩, fun h' => absurd hw h', h.shut, h.cc, h.ci, fun y hy z hz => ?_, h.lw, fun y hy z hz => ?_⟩
    · simp only [insD, ins_len, hcs]; simp; omega
    · rcases mem_ins.1 hy with rfl | hy
      · exact g0.1
      · exact h.f.ds y hy
    · rcases mem_ins.1 hz with rfl | hz
      · exact r1 y hy
      · exact h.ld y hy z hz
    · rw [hw] at hz; cases hz
  rename_i g5
  split
  · rename_i g6
    have hd := timeOk_iff.1 g0.2
    have hat := h.f.wtAt
    have hg : Wa.Good ⟨s.wt.most, s.wt.ws ++ [⟨c, s.now, d⟩]⟩ := Wa.Good.push hat (show Wa.callOk c = true from g0.1) (by omega) (by omega) r3 g6
    refine ⟨⟨⟨h.f.n.b0, h.f.n.b1, h.f.n.m0, h.f.n.m1, h.f.n.now, h.f.n.most, h.f.n.idle, Wa.chk_good.2 hg, hm⟩, h.f.ls, h.f.lu, h.f.ds, h.f.du, h.f.id, fun y hy => ?_⟩, fun _ => ?_, fun hs => absurd hs g2, h.cc, h.ci, h.ld, fun y hy z hz => ?_, fun y hy z hz => ?_⟩
    · rcases List.mem_append.1 hy with hy | hy
      · exact h.f.wt y hy
      · rw [List.mem_singleton.1 hy]; exact ⟨Int.le_refl _, by show s.now < d; omega⟩
    · show (s.ls.length : Int) + s.ds.length = s.max
      omega
    · rcases List.mem_append.1 hz with hz | hz
      · exact h.lw y hy z hz
      · rw [List.mem_singleton.1 hz]; exact r1 y hy
    · rcases List.mem_append.1 hz with hz | hz
      · exact h.dw y hy z hz
      · rw [List.mem_singleton.1 hz]; exact r2 y hy
  · exact h
theorem Hole.fine {s : Po} (h : Hole s) (hw : s.wt.ws = []) : Fine s := ⟨h.f, fun h' => absurd hw h', h.shut, h.cc, h.ci, h.ld, h.lw, h.dw⟩
theorem there_not {s : Po} {c : Int} (h : there s c = false) : (∀ x ∈ s.ls, x.conn ≠ c) ∧ ∀ x ∈ s.idle.cs, x.conn ≠ c := by
  unfold there at h
  rw [Bool.or_eq_false_iff] at h
  simpa using h
theorem dialled_fine {s : Po} (h : Fine s) (c n : Int) (ok : Bool) : Fine (dialledK s c n ok).1 := by
  unfold dialledK
  split
  · exact h
  rename_i g0
  split
  · exact h
  rename_i g1
  split
  · exact h
  rename_i g2
  simp only [Bool.not_eq_false] at g1
  obtain ⟨i, x, hx, rfl⟩ := mem_keyed g1
  have hh := h.holeD hx
  unfold dialledT
  simp only
  rw [findD_at h.f.du hx]
  split
  · exact pass_fine hh
  rename_i g3
  simp only [Bool.not_eq_false] at g3
  subst g3
  simp only [not_or, not_and, Bool.not_eq_false] at g0
  have hn := g0.2 trivial
  obtain ⟨t1, t2⟩ := there_not (by simpa using g2)
  have hnow := (timeOk_iff.1 h.f.n.now).1
  split
  · exact give_fine hh true hn ⟨hnow, Int.le_refl _⟩ t1 t2
  split
  · rename_i g5
    exact hh.fine (h.shut g5).1
  · have hxm := List.mem_of_getElem? hx
    exact hh.lease (x := ⟨x.call, n, s.now⟩) ⟨g0.1, hn, hnow, Int.le_refl _⟩ (fun y hy => h.ld y hy x hxm) (fun y hy => (mem_dropD.1 hy).2) (fun y hy => (h.dw x hxm y hy).symm) t1 t2
theorem free_fine {s : Po} (h : Fine s) (c : Int) (re : Bool) : Fine (freeK s c re).1 := by
  unfold freeK
  split
  · exact h
  split
  · exact h
  rename_i g1
  simp only [Bool.not_eq_false] at g1
  obtain ⟨i, x, hx, rfl⟩ := mem_keyed g1
  have hh := h.holeL hx
  simp only
  rw [findL_at h.f.lu hx]
  have hxm := List.mem_of_getElem? hx
  obtain ⟨_, k2, k3, k4⟩ := h.f.ls x hxm
  refine give_fine hh re k2 ⟨k3, k4⟩ (fun y hy e => ?_) fun y hy => (h.ci x hxm y hy).symm
  have hy := mem_dropL.1 hy
  obtain ⟨j, hj⟩ := List.getElem?_of_mem hy.1
  have hij : j = i := by
    have hcc := List.pairwise_iff_getElem.1 h.cc
    have hj' := (List.getElem?_eq_some_iff.1 hj)
    have hi' := (List.getElem?_eq_some_iff.1 hx)
    obtain ⟨hj1, hj2⟩ := hj'
    obtain ⟨hi1, hi2⟩ := hi'
    by_cases h1 : j < i
    · have := hcc j i (by simpa using hj1) (by simpa using hi1) h1
      simp [hj2, hi2, e] at this
    · by_cases h2 : i < j
      · have := hcc i j (by simpa using hi1) (by simpa using hj1) h2
        simp [hj2, hi2, e] at this
      · omega
  subst hij
  rw [hx] at hj
  cases hj
  exact hy.2 rfl
theorem cancel_fine {s : Po} (h : Fine s) (c : Int) : Fine (cancelK s c).1 := by
  unfold cancelK
  split
  · exact h
  split
  · have hs : (s.wt.ws.filter fun x => x.call != c).Sublist s.wt.ws := List.filter_sublist
    refine ⟨⟨⟨h.f.n.b0, h.f.n.b1, h.f.n.m0, h.f.n.m1, h.f.n.now, h.f.n.most, h.f.n.idle, Wa.chk_good.2 (h.f.wtAt.good.filter _), h.f.n.many⟩, h.f.ls, h.f.lu, h.f.ds, h.f.du, h.f.id, fun y hy => h.f.wt y (hs.subset hy)⟩, fun hw => h.wait fun e => hw ?_, fun hsh => ⟨?_, (h.shut hsh).2⟩, h.cc, h.ci, h.ld, fun y hy z hz => h.lw y hy z (hs.subset hz), fun y hy z hz => h.dw y hy z (hs.subset hz)⟩
    · simp [e]
    · simp [(h.shut hsh).1]
  split
  · rename_i g1
    obtain ⟨i, x, hx, rfl⟩ := mem_keyed g1
    split
    · exact h
    have hcalls : (s.ds.map fun y => if y.call = x.call then (⟨x.call, true⟩ : Dl) else y).map Dl.call = s.ds.map Dl.call := by
      rw [List.map_map]
      refine List.map_congr_left fun y _ => ?_
      simp only [Function.comp_apply]
      split
      · rename_i e; exact e.symm
      · rfl
    have hmem : ∀ y, y ∈ (s.ds.map fun y => if y.call = x.call then (⟨x.call, true⟩ : Dl) else y) → ∃ z ∈ s.ds, z.call = y.call := fun y hy => by
      obtain ⟨z, hz, rfl⟩ := List.mem_map.1 hy
      refine ⟨z, hz, ?_⟩
      split
      · rename_i e; exact e
      · rfl
    refine ⟨⟨⟨h.f.n.b0, h.f.n.b1, h.f.n.m0, h.f.n.m1, h.f.n.now, h.f.n.most, h.f.n.idle, h.f.n.wt, by simpa using h.f.n.many⟩, h.f.ls, h.f.lu, fun y hy => ?_, by rw [hcalls]; exact h.f.du, h.f.id, h.f.wt⟩, fun hw => by simpa using h.wait hw, h.shut, h.cc, h.ci, fun y hy z hz => ?_, h.lw, fun y hy z hz => ?_⟩
    · obtain ⟨z, hz, e⟩ := hmem y hy
      rw [← e]; exact h.f.ds z hz
    · obtain ⟨z', hz', e⟩ := hmem z hz
      rw [← e]; exact h.ld y hy z' hz'
    · obtain ⟨y', hy', e⟩ := hmem y hy
      rw [← e]; exact h.dw y' hy' z hz
  · split <;> exact h
theorem tick_fine {s : Po} (h : Fine s) (n : Int) : Fine (tickK s n).1 := by
  unfold tickK
  split
  · exact h
  rename_i g0
  split
  · exact h
  rename_i g1
  simp only [Bool.not_eq_false] at g0
  have hs : (s.wt.ws.filter fun x => decide (n < x.dead)).Sublist s.wt.ws := List.filter_sublist
  have hi : (Id.left s.idle n).Sublist s.idle.cs := Id.left_sub _ _
  have hl := hi.length_le
  have hm := h.f.n.many
  refine ⟨⟨⟨h.f.n.b0, h.f.n.b1, h.f.n.m0, h.f.n.m1, g0, h.f.n.most, Id.chk_good.2 (h.f.idAt.toGood.sub hi), Wa.chk_good.2 (h.f.wtAt.good.filter _), ?_⟩, fun x hx => ?_, h.f.lu, h.f.ds, h.f.du, fun x hx => ?_, fun x hx => ?_⟩, fun hw => h.wait fun e => hw ?_, fun hsh => ⟨?_, ?_⟩, h.cc, fun y hy z hz => h.ci y hy z (hi.subset hz), h.ld, fun y hy z hz => h.lw y hy z (hs.subset hz), fun y hy z hz => h.dw y hy z (hs.subset hz)⟩
  · simp only; omega
  · obtain ⟨k1, k2, k3, k4⟩ := h.f.ls x hx
    exact ⟨k1, k2, k3, by show x.born ≤ n; omega⟩
  · have h1 := h.f.id x (hi.subset hx)
    have h2 := (List.mem_filter.1 hx).2
    simp [Id.good] at h2
    exact ⟨by have := h1.1; show x.since ≤ n; omega, h2.1, h2.2⟩
  · have h1 := h.f.wt x (hs.subset hx)
    have h2 := (List.mem_filter.1 hx).2
    exact ⟨by have := h1.1; show x.since ≤ n; omega, by simpa using h2⟩
  · simp [e]
  · simp [(h.shut hsh).1]
  · simp [Id.left, (h.shut hsh).2]
theorem shut_fine {s : Po} (h : Fine s) : Fine (shutK s).1 := by
  have hm := h.f.n.many
  refine ⟨⟨⟨h.f.n.b0, h.f.n.b1, h.f.n.m0, h.f.n.m1, h.f.n.now, h.f.n.most, Id.chk_good.2 (h.f.idAt.toGood.sub (List.nil_sublist _)), Wa.chk_good.2 (h.f.wtAt.good.sub (List.nil_sublist _) h.f.wtAt.good.room (by have := h.f.wtAt.good.long; simp; omega)), ?_⟩, h.f.ls, h.f.lu, h.f.ds, h.f.du, fun x hx => (nomatch hx), fun x hx => (nomatch hx)⟩, fun hw => absurd rfl hw, fun _ => ⟨rfl, rfl⟩, h.cc, fun y hy z hz => (nomatch hz), h.ld, fun y hy z hz => (nomatch hz), fun y hy z hz => (nomatch hz)⟩
  show (([] : List Id.Cn).length : Int) + s.ls.length + s.ds.length ≤ s.max
  simp; omega
end Go.Proofs.YtajjmhpdiikjhaaGreat.Po
namespace Go.Proofs.YtajjmhpdiikjhaaGreat.Po
set_option maxRecDepth 100000

section
variable {α : Type} {key : α → Int}
theorem up_snoc {l : List α} {x : α} : Up ((l ++ [x]).map key) ↔ Up (l.map key) ∧ ∀ y ∈ l, key y < key x := by
  simp [Up, List.pairwise_append]
theorem take_succ {l : List α} {k : Nat} {x : α} (hx : l[k]? = some x) : l.take (k + 1) = l.take k ++ [x] := by rw [List.take_add_one, hx]; rfl
theorem up_prev {l : List α} {k : Nat} (hu : Up ((l.take (k + 1)).map key)) {y : α} (hy : l[k]? = some y) : ∀ z ∈ l.take (k + 1), key z ≤ key y := by
  rw [take_succ hy] at hu ⊢
  intro z hz
  rcases List.mem_append.1 hz with hz | hz
  · exact Int.le_of_lt ((up_snoc.1 hu).2 z hz)
  · rw [List.mem_singleton.1 hz]; exact Int.le_refl _
theorem up_step0 {l : List α} {x : α} (hx : l[0]? = some x) : Up ((l.take 1).map key) := by
  rw [take_succ hx]; simp [Up]
theorem up_step {l : List α} {k : Nat} {x y : α} (hx : l[k + 1]? = some x) (hy : l[k]? = some y) (hu : Up ((l.take (k + 1)).map key)) : Up ((l.take (k + 1 + 1)).map key) ↔ key y < key x := by
  rw [take_succ hx, up_snoc]
  constructor
  · exact fun h => h.2 y (by rw [take_succ hy]; simp)
  · exact fun h => ⟨hu, fun z hz => Int.lt_of_le_of_lt (up_prev hu hy z hz) h⟩
def lastK (key : α → Int) (l : List α) : Nat → Int
  | 0 => 0
  | k + 1 => match l[k]? with
    | some x => key x
    | none => 0
theorem lastK_succ {l : List α} {k : Nat} {x : α} (hx : l[k]? = some x) : lastK key l (k + 1) = key x := by simp [lastK, hx]
theorem up_last {l : List α} {k : Nat} {x : α} (hx : l[k]? = some x) (hu : Up ((l.take k).map key)) (h1 : 1 ≤ key x) : Up ((l.take (k + 1)).map key) ↔ lastK key l k < key x := by
  cases k with
  | zero =>
    exact ⟨fun _ => by simp [lastK]; omega, fun _ => up_step0 hx⟩
  | succ k =>
    have hl := (List.getElem?_eq_some_iff.1 hx).1
    obtain ⟨y, hy⟩ : ∃ y, l[k]? = some y := ⟨_, List.getElem?_eq_getElem (by omega)⟩
    rw [up_step hx hy hu, lastK_succ hy]
theorem up_of_take {l : List α} {k : Nat} (hu : Up ((l.take (k + 1)).map key)) : Up ((l.take k).map key) := by
  refine List.Pairwise.sublist ?_ hu
  refine List.Sublist.map _ ?_
  rw [show l.take k = (l.take (k + 1)).take k by rw [List.take_take]; congr 1; omega]
  exact List.take_sublist _ _
end
theorem nodup_snoc {l : List Int} {a : Int} : (l ++ [a]).Nodup ↔ l.Nodup ∧ a ∉ l := by
  rw [List.nodup_append]
  simp
  intro _
  constructor
  · intro h hm; exact h a hm rfl
  · intro h b hb e; subst e; exact h hb

/-! The program's Check. -/
def lsTo (now : Int) (l : List Ls) : Nat → Bool
  | 0 => true
  | k + 1 => lsTo now l k && (match l[k]? with
    | some x => decide (lastK Ls.call l k < x.call) && (numOk x.call && (numOk x.conn && (decide (0 ≤ x.born) && (decide (x.born ≤ now) && !decide (x.conn ∈ (l.take k).map Ls.conn)))))
    | none => true)
theorem lsTo_succ {now : Int} {l : List Ls} {k : Nat} {x : Ls} (hx : l[k]? = some x) : lsTo now l (k + 1) = (lsTo now l k && (decide (lastK Ls.call l k < x.call) && (numOk x.call && (numOk x.conn && (decide (0 ≤ x.born) && (decide (x.born ≤ now) && !decide (x.conn ∈ (l.take k).map Ls.conn))))))) := by
  rw [lsTo, hx]
theorem lsTo_iff {now : Int} {l : List Ls} : ∀ {k : Nat}, k ≤ l.length → (lsTo now l k = true ↔ (∀ x ∈ l.take k, lsOk now x) ∧ Up ((l.take k).map Ls.call) ∧ ((l.take k).map Ls.conn).Nodup)
  | 0, _ => by simp [lsTo, Up]
  | k + 1, h => by
    obtain ⟨x, hx⟩ : ∃ x, l[k]? = some x := ⟨_, List.getElem?_eq_getElem (by omega)⟩
    have ih := lsTo_iff (now := now) (l := l) (k := k) (by omega)
    rw [lsTo_succ hx, Bool.and_eq_true, ih]
    simp only [Bool.and_eq_true, decide_eq_true_eq, Bool.not_eq_true', decide_eq_false_iff_not]
    constructor
    · rintro ⟨⟨h1, h2, h3⟩, h4, h5, h6, h7, h8, h9⟩
      refine ⟨fun y hy => ?_, (up_last hx h2 (numOk_iff.1 h5).1).2 h4, ?_⟩
      · rw [take_succ hx] at hy
        rcases List.mem_append.1 hy with hy | hy
        · exact h1 y hy
        · rw [List.mem_singleton.1 hy]; exact ⟨h5, h6, h7, h8⟩
      · rw [take_succ hx, List.map_append]
        exact nodup_snoc.2 ⟨h3, h9⟩
    · rintro ⟨h1, h2, h3⟩
      obtain ⟨h5, h6, h7, h8⟩ := h1 x (by rw [take_succ hx]; simp)
      have hu := up_of_take h2
      rw [take_succ hx, List.map_append] at h3
      obtain ⟨h3, h9⟩ := nodup_snoc.1 h3
      exact ⟨⟨fun y hy => h1 y (by rw [take_succ hx]; simp [hy]), hu, h3⟩, (up_last hx hu (numOk_iff.1 h5).1).1 h2, h5, h6, h7, h8, h9⟩
def dsTo (cs : List Int) (l : List Dl) : Nat → Bool
  | 0 => true
  | k + 1 => dsTo cs l k && (match l[k]? with
    | some x => decide (lastK Dl.call l k < x.call) && (numOk x.call && !decide (x.call ∈ cs ++ (l.take k).map Dl.call))
    | none => true)
theorem dsTo_succ {cs : List Int} {l : List Dl} {k : Nat} {x : Dl} (hx : l[k]? = some x) : dsTo cs l (k + 1) = (dsTo cs l k && (decide (lastK Dl.call l k < x.call) && (numOk x.call && !decide (x.call ∈ cs ++ (l.take k).map Dl.call)))) := by
  rw [dsTo, hx]
theorem dsTo_iff {cs : List Int} {l : List Dl} : ∀ {k : Nat}, k ≤ l.length → (dsTo cs l k = true ↔ (∀ x ∈ l.take k, numOk x.call = true ∧ x.call ∉ cs) ∧ Up ((l.take k).map Dl.call))
  | 0, _ => by simp [dsTo, Up]
  | k + 1, h => by
    obtain ⟨x, hx⟩ : ∃ x, l[k]? = some x := ⟨_, List.getElem?_eq_getElem (by omega)⟩
    have ih := dsTo_iff (cs := cs) (l := l) (k := k) (by omega)
    rw [dsTo_succ hx, Bool.and_eq_true, ih]
    simp only [Bool.and_eq_true, decide_eq_true_eq, Bool.not_eq_true', decide_eq_false_iff_not, List.mem_append, not_or]
    constructor
    · rintro ⟨⟨h1, h2⟩, h4, h5, h6, h7⟩
      refine ⟨fun y hy => ?_, (up_last hx h2 (numOk_iff.1 h5).1).2 h4⟩
      rw [take_succ hx] at hy
      rcases List.mem_append.1 hy with hy | hy
      · exact h1 y hy
      · rw [List.mem_singleton.1 hy]; exact ⟨h5, h6⟩
    · rintro ⟨h1, h2⟩
      obtain ⟨h5, h6⟩ := h1 x (by rw [take_succ hx]; simp)
      have hu := up_of_take h2
      refine ⟨⟨fun y hy => h1 y (by rw [take_succ hx]; simp [hy]), hu⟩, (up_last hx hu (numOk_iff.1 h5).1).1 h2, h5, h6, fun hm => ?_⟩
      obtain ⟨y, hy, e⟩ := List.mem_map.1 hm
      rw [take_succ hx] at h2
      have := (up_snoc.1 h2).2 y hy
      omega
def idB (i a now : Int) (cs : List Int) (x : Id.Cn) : Bool := decide (x.since ≤ now) && (decide (now - x.since < i) && (decide (now - x.born < a) && !decide (x.conn ∈ cs)))
def wtB (now : Int) (cs : List Int) (x : Wa.Wt) : Bool := decide (x.since ≤ now) && (decide (now < x.dead) && !decide (x.call ∈ cs))
def lcs (s : Po) : List Int := s.ls.map Ls.call
def lns (s : Po) : List Int := s.ls.map Ls.conn
def dcs (s : Po) : List Int := s.ds.map Dl.call
def progB (s : Po) : Bool := lsTo s.now s.ls s.ls.length && (dsTo (lcs s) s.ds s.ds.length && (s.idle.cs.all (idB s.idle.idle s.idle.age s.now (lns s)) && s.wt.ws.all (wtB s.now (lcs s ++ dcs s))))
def endB (s : Po) : Bool := !((decide (0 < s.wt.ws.length) && !decide ((s.ls.length : Int) + s.ds.length = s.max)) || (s.shut && (decide (0 < s.wt.ws.length) || decide (0 < s.idle.cs.length))))
theorem ne_nil_iff {α : Type} {l : List α} : l ≠ [] ↔ 0 < l.length := by cases l <;> simp
theorem endB_iff {s : Po} : endB s = true ↔ (s.wt.ws ≠ [] → (s.ls.length : Int) + s.ds.length = s.max) ∧ (s.shut = true → s.wt.ws = [] ∧ s.idle.cs = []) := by
  simp only [endB, Bool.not_eq_true', Bool.or_eq_false_iff, Bool.and_eq_false_iff, decide_eq_false_iff_not, Bool.not_eq_false', decide_eq_true_eq, ne_nil_iff]
  constructor
  · rintro ⟨h1, h2⟩
    refine ⟨fun h => by omega, fun h => ?_⟩
    rcases h2 with h2 | ⟨h2, h3⟩
    · rw [h] at h2; cases h2
    · exact ⟨List.length_eq_zero_iff.1 (by omega), List.length_eq_zero_iff.1 (by omega)⟩
  · rintro ⟨h1, h2⟩
    refine ⟨by omega, ?_⟩
    cases hs : s.shut
    · exact .inl rfl
    · right
      obtain ⟨h3, h4⟩ := h2 hs
      simp [h3, h4]
theorem prog_fine {s : Po} (h : Nums s) : (progB s && endB s) = true ↔ Fine s := by
  rw [Bool.and_eq_true, endB_iff]
  simp only [progB, Bool.and_eq_true, lsTo_iff (Nat.le_refl _), dsTo_iff (Nat.le_refl _), List.take_length, List.all_eq_true, idB, wtB, decide_eq_true_eq, Bool.not_eq_true', decide_eq_false_iff_not, List.mem_append, not_or]
  constructor
  · rintro ⟨⟨⟨a1, a2, a3⟩, ⟨b1, b2⟩, c, d⟩, e, f⟩
    refine ⟨⟨h, a1, a2, fun x hx => (b1 x hx).1, b2, fun x hx => ⟨(c x hx).1, (c x hx).2.1, (c x hx).2.2.1⟩, fun x hx => ⟨(d x hx).1, (d x hx).2.1⟩⟩, e, f, a3, fun x hx y hy e => ?_, fun x hx y hy e => ?_, fun x hx y hy e => ?_, fun x hx y hy e => ?_⟩
    · exact (c y hy).2.2.2 (List.mem_map.2 ⟨x, hx, e⟩)
    · exact (b1 y hy).2 (List.mem_map.2 ⟨x, hx, e⟩)
    · exact (d y hy).2.2.1 (List.mem_map.2 ⟨x, hx, e⟩)
    · exact (d y hy).2.2.2 (List.mem_map.2 ⟨x, hx, e⟩)
  · intro g
    refine ⟨⟨⟨g.f.ls, g.f.lu, g.cc⟩, ⟨fun x hx => ⟨g.f.ds x hx, fun hm => ?_⟩, g.f.du⟩, fun x hx => ⟨(g.f.id x hx).1, (g.f.id x hx).2.1, (g.f.id x hx).2.2, fun hm => ?_⟩, fun x hx => ⟨(g.f.wt x hx).1, (g.f.wt x hx).2, fun hm => ?_, fun hm => ?_⟩⟩, g.wait, g.shut⟩
    · obtain ⟨y, hy, e⟩ := List.mem_map.1 hm
      exact g.ld y hy x hx e
    · obtain ⟨y, hy, e⟩ := List.mem_map.1 hm
      exact g.ci y hy x hx e
    · obtain ⟨y, hy, e⟩ := List.mem_map.1 hm
      exact g.lw y hy x hx e
    · obtain ⟨y, hy, e⟩ := List.mem_map.1 hm
      exact g.dw y hy x hx e

/-! The reference's Check. -/
/-- Lease i has its call and its connection alone. -/
def alone (s : Po) (i : Nat) (x : Ls) : Prop := role { s with ls := s.ls.eraseIdx i } x.call = 0 ∧ there { s with ls := s.ls.eraseIdx i } x.conn = false
theorem mem_erase {α : Type} {l : List α} {i : Nat} {y : α} : y ∈ l.eraseIdx i ↔ ∃ j, j ≠ i ∧ l[j]? = some y := by
  constructor
  · intro h
    obtain ⟨j, hj⟩ := List.getElem?_of_mem h
    rw [List.getElem?_eraseIdx] at hj
    split at hj
    · exact ⟨j, by omega, hj⟩
    · exact ⟨j + 1, by omega, hj⟩
  · rintro ⟨j, hj, h⟩
    by_cases hji : j < i
    · exact List.mem_of_getElem? (i := j) (by rw [List.getElem?_eraseIdx, if_pos hji]; exact h)
    · exact List.mem_of_getElem? (i := j - 1) (by rw [List.getElem?_eraseIdx, if_neg (by omega), show j - 1 + 1 = j by omega]; exact h)
theorem ref_fine {s : Po} (h : Form s) : (endB s = true ∧ (∀ i x, s.ls[i]? = some x → alone s i x) ∧ ∀ x ∈ s.ds, role { s with ds := [] } x.call = 0) ↔ Fine s := by
  rw [endB_iff]
  constructor
  · rintro ⟨⟨e, f⟩, a, d⟩
    have ha : ∀ x ∈ s.ls, ∃ i, s.ls[i]? = some x ∧ alone s i x := fun x hx => by
      obtain ⟨i, hi⟩ := List.getElem?_of_mem hx
      exact ⟨i, hi, a i x hi⟩
    refine ⟨h, e, f, ?_, fun x hx y hy => ?_, fun x hx y hy => ?_, fun x hx y hy => ?_, fun x hx y hy => ?_⟩
    · rw [List.nodup_iff_pairwise_ne, List.pairwise_iff_getElem]
      intro i j hi hj hij e
      simp at hi hj e
      have hx : s.ls[i]? = some s.ls[i] := List.getElem?_eq_getElem hi
      have hy : s.ls[j]? = some s.ls[j] := List.getElem?_eq_getElem hj
      have h2 := (there_not (a i _ hx).2).1 s.ls[j] (mem_erase.2 ⟨j, by omega, hy⟩)
      exact h2 e.symm
    · obtain ⟨i, hi, h1, h2⟩ := ha x hx
      exact fun e => (there_not h2).2 y hy e.symm
    · obtain ⟨i, hi, h1, h2⟩ := ha x hx
      exact fun e => (role_zero.1 h1).2.1 y hy e.symm
    · obtain ⟨i, hi, h1, h2⟩ := ha x hx
      exact fun e => (role_zero.1 h1).2.2 y hy e.symm
    · exact fun e => (role_zero.1 (d x hx)).2.2 y hy e.symm
  · intro g
    refine ⟨⟨g.wait, g.shut⟩, fun i x hx => ⟨role_zero.2 ⟨fun y hy => ?_, fun y hy => (g.ld x (List.mem_of_getElem? hx) y hy).symm, fun y hy => (g.lw x (List.mem_of_getElem? hx) y hy).symm⟩, ?_⟩, fun x hx => role_zero.2 ⟨fun y hy => g.ld y hy x hx, fun y hy => (nomatch hy), fun y hy => (g.dw x hx y hy).symm⟩⟩
    · obtain ⟨j, hj, hy⟩ := mem_erase.1 hy
      exact fun e => hj (up_inj g.f.lu hy hx e)
    · unfold there
      rw [Bool.or_eq_false_iff]
      constructor
      · rw [List.any_eq_false]
        intro y hy
        obtain ⟨j, hj, hy⟩ := mem_erase.1 hy
        simp
        intro e
        have hcc := List.pairwise_iff_getElem.1 g.cc
        obtain ⟨hj1, hj2⟩ := List.getElem?_eq_some_iff.1 hy
        obtain ⟨hi1, hi2⟩ := List.getElem?_eq_some_iff.1 hx
        by_cases h1 : j < i
        · have := hcc j i (by simpa using hj1) (by simpa using hi1) h1
          simp [hj2, hi2, e] at this
        · have := hcc i j (by simpa using hi1) (by simpa using hj1) (by omega)
          simp [hj2, hi2, e] at this
      · rw [List.any_eq_false]
        intro y hy
        simpa using (g.ci x (List.mem_of_getElem? hx) y hy).symm
end Go.Proofs.YtajjmhpdiikjhaaGreat.Po
