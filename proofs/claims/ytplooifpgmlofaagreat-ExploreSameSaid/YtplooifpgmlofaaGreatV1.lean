/- A world seen through plain values: what a value stands for (data, a pointer to an object of the call's own, a slice of a row of the call's own), and that it goes on standing for it. No condition. -/
import Derived.Test.YtplooifpgmlofaaGreatLib
namespace Go.Proofs.YtplooifpgmlofaaGreat
open Go.RowKit

inductive D where
  | v (x : Value)
  | sl (sz : Nat) (xs : List (List D))
instance : Inhabited D := ⟨.v (.bool false)⟩

abbrev Cells := Nat → Nat → Prop

inductive RepD (w : World) (S : Cells) : Value → D → Prop where
  | v (x : Value) : RepD w S x (.v x)
  | sl (A : Option Addr) (n c sz : Nat) (xs : List (List D)) (u : Nat → Nat → Value) (hn : n = xs.length)
      (hlen : n ≤ c) (hmax : c ≤ maxLen) (hnil : A = none → c = 0) (hsz : 0 < sz) (hrow : ∀ x ∈ xs, x.length = sz)
      (hat : 0 < xs.length → ∃ b o, A = some ⟨b, o, none⟩ ∧ ∀ i j, i < xs.length → j < sz → S b (o + i * sz + j) ∧ w.cell? ⟨b, o + i * sz + j, none⟩ = some (u i j))
      (hone : ∀ i j, i < xs.length → j < sz → (u i j).oneCell' = true) (hrep : ∀ i x j p, xs[i]? = some x → x[j]? = some p → RepD w S (u i j) p) : RepD w S (.slice A n c) (.sl sz xs)

theorem RepD.keep {w w' : World} {S S' : Cells} (hS : ∀ b o, S b o → S' b o) (hc : ∀ b o, S b o → w'.cell? ⟨b, o, none⟩ = w.cell? ⟨b, o, none⟩) {v : Value} {x : D} (h : RepD w S v x) : RepD w' S' v x := by
  induction h with
  | v x => exact .v x
  | sl A n c sz xs u hn hlen hmax hnil hsz hrow hat hone hrep ih =>
    refine .sl A n c sz xs u hn hlen hmax hnil hsz hrow (fun h0 => ?_) hone ih
    obtain ⟨b, o, e, h⟩ := hat h0
    exact ⟨b, o, e, fun i j hi hj => ⟨hS _ _ (h i j hi hj).1, (hc _ _ (h i j hi hj).1).trans (h i j hi hj).2⟩⟩

inductive PV where
  | d (x : D)
  | agg (cs : List PV)
  | tup (cs : List PV)
  | rw (k n : Nat)
  | ptr (k off : Nat)
  | rp (k sz i off : Nat)
  | rs (k sz off n fl : Nat)
  | ep (row : List D) (off : Nat)
  | mp (k : Nat)
  | ifc (t k : Nat)
  | fd (sz : Nat) (xs : List (List D))
  | clo (f : Nat) (caps : List PV)
  | any
instance : Inhabited PV := ⟨.any⟩

def objCells : Obj → Bool
  | .cells .. => true
  | .map .. => true
  | .mapIter .. => true
  | _ => false
def ofSys (b : Nat) (sub : Nat → Nat → Option Nat) (b' : Nat) : Prop := b' = b ∨ ∃ i c, sub i c = some b'
structure Hid where
  R : Nat → (Nat → Nat → Option Nat) → World → Cells → Prop
  keep : ∀ {b : Nat} {sub : Nat → Nat → Option Nat} {w w' : World} {S S' : Cells}, (∀ b o, S b o → S' b o) → (∀ b o, S b o → w'.cell? ⟨b, o, none⟩ = w.cell? ⟨b, o, none⟩) → (∀ b', ofSys b sub b' → w'.heap[b']? = w.heap[b']? ∧ ∀ o, S' b' o → S b' o) → R b sub w S → R b sub w' S'
  held : ∀ {b : Nat} {sub : Nat → Nat → Option Nat} {w : World} {S : Cells}, R b sub w S → ∀ b', ofSys b sub b' → ∃ ob, w.heap[b']? = some ob ∧ objCells ob = true

inductive MObj where
  | box (t : TypeId) (cells : List PV)
  | row (t : TypeId) (sz : Nat) (xs : List (List D)) (leaked : Bool)
  | map (es : List (Value × Value))
  | grown (t : TypeId) (sz : Nat) (xs : List (List D))
  | nest (t : TypeId) (sz : Nat) (xs : List (List D)) (pr : Nat → Bool) (cs : List (Nat × Nat)) (foc : Option (Nat × List PV))
  | sys (H : Hid)

structure Loc where
  blk : Option Nat
  cap : Nat

def All2 {α β : Type} (R : α → β → Prop) : List α → List β → Prop
  | [], [] => True
  | a :: as, b :: bs => R a b ∧ All2 R as bs
  | _, _ => False
theorem All2.imp {α β : Type} {R R' : α → β → Prop} : ∀ {as : List α} {bs : List β}, (∀ a b, b ∈ bs → R a b → R' a b) → All2 R as bs → All2 R' as bs
  | [], [], _, _ => trivial
  | _ :: _, _ :: _, h, ⟨h1, h2⟩ => ⟨h _ _ (by simp) h1, h2.imp fun a b hb => h a b (by simp [hb])⟩
theorem All2.len {α β : Type} {R : α → β → Prop} : ∀ {as : List α} {bs : List β}, All2 R as bs → as.length = bs.length
  | [], [], _ => rfl
  | _ :: _, _ :: _, ⟨_, h2⟩ => by simp [h2.len]
theorem All2.get {α β : Type} {R : α → β → Prop} : ∀ {as : List α} {bs : List β} {i : Nat} {b : β}, All2 R as bs → bs[i]? = some b → ∃ a, as[i]? = some a ∧ R a b
  | a :: _, _ :: _, 0, _, ⟨h1, _⟩, hb => by simp at hb; subst hb; exact ⟨a, rfl, h1⟩
  | _ :: _, _ :: _, _ + 1, _, ⟨_, h2⟩, hb => by simpa using h2.get (by simpa using hb)
  | [], [], _, _, _, hb => by simp at hb
  | [], _ :: _, _, _, h, _ => h.elim
  | _ :: _, [], _, _, h, _ => h.elim
theorem All2.set {α β : Type} {R : α → β → Prop} {a : α} {b : β} (h : R a b) : ∀ {as : List α} {bs : List β} {i : Nat}, All2 R as bs → All2 R (as.set i a) (bs.set i b)
  | [], [], _, _ => trivial
  | _ :: _, _ :: _, 0, ⟨_, h2⟩ => ⟨h, h2⟩
  | _ :: _, _ :: _, _ + 1, ⟨h1, h2⟩ => ⟨h1, h2.set h⟩
  | [], _ :: _, _, h' => h'.elim
  | _ :: _, [], _, h' => h'.elim
theorem All2.app {α β : Type} {R : α → β → Prop} : ∀ {as : List α} {bs : List β} {as' : List α} {bs' : List β}, All2 R as bs → All2 R as' bs' → All2 R (as ++ as') (bs ++ bs')
  | [], [], _, _, _, h => h
  | _ :: _, _ :: _, _, _, ⟨h1, h2⟩, h => ⟨h1, h2.app h⟩
  | [], _ :: _, _, _, h, _ => h.elim
  | _ :: _, [], _, _, h, _ => h.elim
theorem All2.drop {α β : Type} {R : α → β → Prop} : ∀ {as : List α} {bs : List β} (i : Nat), All2 R as bs → All2 R (as.drop i) (bs.drop i)
  | [], [], _, _ => by simp [All2]
  | _ :: _, _ :: _, 0, h => h
  | _ :: _, _ :: _, i + 1, ⟨_, h2⟩ => by simpa using h2.drop i
  | [], _ :: _, _, h => h.elim
  | _ :: _, [], _, h => h.elim
theorem All2.take {α β : Type} {R : α → β → Prop} : ∀ {as : List α} {bs : List β} (i : Nat), All2 R as bs → All2 R (as.take i) (bs.take i)
  | [], [], _, _ => by simp [All2]
  | _ :: _, _ :: _, 0, _ => by simp [All2]
  | _ :: _, _ :: _, i + 1, ⟨h1, h2⟩ => ⟨h1, h2.take i⟩
  | [], _ :: _, _, h => h.elim
  | _ :: _, [], _, h => h.elim
def RowAt (w : World) (S : Cells) (b o : Nat) (row : List D) : Prop := ∃ us : List Value, All2 (RepD w S) us row ∧ ∀ (j : Nat) (v : Value), us[j]? = some v → S b (o + j) ∧ w.cell? ⟨b, o + j, none⟩ = some v

structure Map where
  locs : Nat → Option Loc
  sub : Nat → Nat → Nat → Option Nat
instance : CoeFun Map fun _ => Nat → Option Loc := ⟨Map.locs⟩
def noMap : Map := ⟨fun _ => none, fun _ _ _ => none⟩
def Map.has (m : Map) (k b : Nat) : Prop := (∃ c, m k = some ⟨some b, c⟩) ∨ ∃ i c, m.sub k i c = some b
theorem noMap_has {k b : Nat} (h : noMap.has k b) : False := by
  rcases h with ⟨c, h⟩ | ⟨i, c, h⟩ <;> cases h
section
variable (m : Map) (w : World) (S : Cells)
def Rep0 (v : Value) : PV → Prop
  | .d x => RepD w S v x
  | .rw k n => ∃ l, m k = some l ∧ ((l.blk = none ∧ v = .slice none 0 0 ∧ n = 0) ∨ ∃ b, l.blk = some b ∧ v = .slice (some ⟨b, 0, none⟩) n l.cap ∧ n ≤ l.cap)
  | .ptr k off => ∃ b c, m k = some ⟨some b, c⟩ ∧ v = .pointer (some ⟨b, off, none⟩)
  | .rp k sz i off => ∃ b c, m k = some ⟨some b, c⟩ ∧ v = .pointer (some ⟨b, i * sz + off, none⟩)
  | .rs k sz off n fl => ∃ l, m k = some l ∧ ((l.blk = none ∧ v = .slice none 0 0 ∧ n = 0 ∧ ¬ fl = 2) ∨ ∃ b ad cp, l.blk = some b ∧ v = .slice (some ad) n cp ∧ (n ≤ cp ∧ cp ≤ l.cap) ∧ off + cp ≤ l.cap ∧ (0 < cp → ad = ⟨b, off * sz, none⟩) ∧ (fl = 1 → cp = n) ∧ (fl = 2 → n < cp))
  | .ep row off => ∃ b o, v = .pointer (some ⟨b, o + off, none⟩) ∧ RowAt w S b o row
  | .mp k => ∃ b c, m k = some ⟨some b, c⟩ ∧ v = .map (some b)
  | .ifc t k => ∃ b c, m k = some ⟨some b, c⟩ ∧ v = .iface t (.pointer (some ⟨b, 0, none⟩))
  | .fd sz xs => RepD w S v (.sl sz xs) ∧ ∃ A n, v = .slice A n n
  | .any => True
  | _ => False
def Rep1 (v : Value) : PV → Prop
  | .clo f caps => ∃ vs : List Value, v = .func (.func f) #[] vs.toArray ∧ All2 (Rep0 m w S) vs caps
  | p => Rep0 m w S v p
def Rep2 (v : Value) : PV → Prop
  | .agg cs => ∃ vs : List Value, v = .agg vs.toArray ∧ All2 (Rep1 m w S) vs cs
  | p => Rep1 m w S v p
def Rep (v : Value) : PV → Prop
  | .tup cs => ∃ vs : List Value, v = .tuple vs.toArray ∧ All2 (Rep2 m w S) vs cs
  | p => Rep2 m w S v p
end

def PV.keys0 : PV → List Nat
  | .rw k _ | .ptr k _ | .rp k _ _ _ | .rs k _ _ _ _ | .mp k | .ifc _ k => [k]
  | _ => []
def PV.keys1 : PV → List Nat
  | .clo _ caps => caps.flatMap PV.keys0
  | p => p.keys0
def PV.keys2 : PV → List Nat
  | .agg cs => cs.flatMap PV.keys1
  | p => p.keys1
def PV.keys : PV → List Nat
  | .tup cs => cs.flatMap PV.keys2
  | p => p.keys2

section
variable {m m' : Map} {w w' : World} {S S' : Cells}
theorem RowAt.keep {b o : Nat} {row : List D} (hS : ∀ b o, S b o → S' b o) (hc : ∀ b o, S b o → w'.cell? ⟨b, o, none⟩ = w.cell? ⟨b, o, none⟩) (h : RowAt w S b o row) : RowAt w' S' b o row := by
  obtain ⟨us, ha, hu⟩ := h
  exact ⟨us, ha.imp fun _ _ _ h => h.keep hS hc, fun j v hv => let ⟨h1, h2⟩ := hu j v hv; ⟨hS _ _ h1, (hc _ _ h1).trans h2⟩⟩
theorem Rep0.keep (hS : ∀ b o, S b o → S' b o) (hc : ∀ b o, S b o → w'.cell? ⟨b, o, none⟩ = w.cell? ⟨b, o, none⟩) {v : Value} {p : PV} (hm : ∀ k ∈ p.keys0, ∀ l, m k = some l → m' k = some l) (h : Rep0 m w S v p) : Rep0 m' w' S' v p := by
  cases p with
  | d x => exact RepD.keep hS hc h
  | rw k n => obtain ⟨l, h1, h2⟩ := h; exact ⟨l, hm k (by simp [PV.keys0]) _ h1, h2⟩
  | ptr k off => obtain ⟨b, c, h1, h2⟩ := h; exact ⟨b, c, hm k (by simp [PV.keys0]) _ h1, h2⟩
  | rp k sz i off => obtain ⟨b, c, h1, h2⟩ := h; exact ⟨b, c, hm k (by simp [PV.keys0]) _ h1, h2⟩
  | rs k sz off n fl => obtain ⟨l, h1, h2⟩ := h; exact ⟨l, hm k (by simp [PV.keys0]) _ h1, h2⟩
  | ep row off => obtain ⟨b, o, e, hr⟩ := h; exact ⟨b, o, e, hr.keep hS hc⟩
  | mp k => obtain ⟨b, c, h1, h2⟩ := h; exact ⟨b, c, hm k (by simp [PV.keys0]) _ h1, h2⟩
  | ifc t k => obtain ⟨b, c, h1, h2⟩ := h; exact ⟨b, c, hm k (by simp [PV.keys0]) _ h1, h2⟩
  | fd sz xs => exact ⟨RepD.keep hS hc h.1, h.2⟩
  | any => trivial
  | agg cs => exact h
  | tup cs => exact h
  | clo f cs => exact h
theorem Rep1.keep (hS : ∀ b o, S b o → S' b o) (hc : ∀ b o, S b o → w'.cell? ⟨b, o, none⟩ = w.cell? ⟨b, o, none⟩) {v : Value} {p : PV} (hm : ∀ k ∈ p.keys1, ∀ l, m k = some l → m' k = some l) (h : Rep1 m w S v p) : Rep1 m' w' S' v p := by
  cases p with
  | clo f caps =>
    obtain ⟨vs, e, ha⟩ := h
    exact ⟨vs, e, ha.imp fun a b hb hab => Rep0.keep hS hc (fun k hk => hm k (by simp only [PV.keys1, List.mem_flatMap]; exact ⟨b, hb, hk⟩)) hab⟩
  | d x => exact Rep0.keep (v := v) (p := .d x) hS hc hm h
  | agg cs => exact Rep0.keep (v := v) (p := .agg cs) hS hc hm h
  | tup cs => exact Rep0.keep (v := v) (p := .tup cs) hS hc hm h
  | rw k n => exact Rep0.keep (v := v) (p := .rw k n) hS hc hm h
  | ptr k off => exact Rep0.keep (v := v) (p := .ptr k off) hS hc hm h
  | rp k sz i off => exact Rep0.keep (v := v) (p := .rp k sz i off) hS hc hm h
  | rs k sz off n fl => exact Rep0.keep (v := v) (p := .rs k sz off n fl) hS hc hm h
  | ep row off => exact Rep0.keep (v := v) (p := .ep row off) hS hc hm h
  | mp k => exact Rep0.keep (v := v) (p := .mp k) hS hc hm h
  | ifc t k => exact Rep0.keep (v := v) (p := .ifc t k) hS hc hm h
  | fd sz xs => exact Rep0.keep (v := v) (p := .fd sz xs) hS hc hm h
  | any => exact Rep0.keep (v := v) (p := .any) hS hc hm h
theorem Rep2.keep (hS : ∀ b o, S b o → S' b o) (hc : ∀ b o, S b o → w'.cell? ⟨b, o, none⟩ = w.cell? ⟨b, o, none⟩) {v : Value} {p : PV} (hm : ∀ k ∈ p.keys2, ∀ l, m k = some l → m' k = some l) (h : Rep2 m w S v p) : Rep2 m' w' S' v p := by
  cases p with
  | agg cs =>
    obtain ⟨vs, e, ha⟩ := h
    exact ⟨vs, e, ha.imp fun a b hb hab => Rep1.keep hS hc (fun k hk => hm k (by simp only [PV.keys2, List.mem_flatMap]; exact ⟨b, hb, hk⟩)) hab⟩
  | d x => exact Rep1.keep (v := v) (p := .d x) hS hc hm h
  | tup cs => exact Rep1.keep (v := v) (p := .tup cs) hS hc hm h
  | rw k n => exact Rep1.keep (v := v) (p := .rw k n) hS hc hm h
  | ptr k off => exact Rep1.keep (v := v) (p := .ptr k off) hS hc hm h
  | rp k sz i off => exact Rep1.keep (v := v) (p := .rp k sz i off) hS hc hm h
  | rs k sz off n fl => exact Rep1.keep (v := v) (p := .rs k sz off n fl) hS hc hm h
  | ep row off => exact Rep1.keep (v := v) (p := .ep row off) hS hc hm h
  | mp k => exact Rep1.keep (v := v) (p := .mp k) hS hc hm h
  | ifc t k => exact Rep1.keep (v := v) (p := .ifc t k) hS hc hm h
  | fd sz xs => exact Rep1.keep (v := v) (p := .fd sz xs) hS hc hm h
  | clo f cs => exact Rep1.keep (v := v) (p := .clo f cs) hS hc hm h
  | any => exact Rep1.keep (v := v) (p := .any) hS hc hm h
theorem Rep.keep (hS : ∀ b o, S b o → S' b o) (hc : ∀ b o, S b o → w'.cell? ⟨b, o, none⟩ = w.cell? ⟨b, o, none⟩) {v : Value} {p : PV} (hm : ∀ k ∈ p.keys, ∀ l, m k = some l → m' k = some l) (h : Rep m w S v p) : Rep m' w' S' v p := by
  cases p with
  | tup cs =>
    obtain ⟨vs, e, ha⟩ := h
    exact ⟨vs, e, ha.imp fun a b hb hab => Rep2.keep hS hc (fun k hk => hm k (by simp only [PV.keys, List.mem_flatMap]; exact ⟨b, hb, hk⟩)) hab⟩
  | d x => exact Rep2.keep (v := v) (p := .d x) hS hc hm h
  | agg cs => exact Rep2.keep (v := v) (p := .agg cs) hS hc hm h
  | rw k n => exact Rep2.keep (v := v) (p := .rw k n) hS hc hm h
  | ptr k off => exact Rep2.keep (v := v) (p := .ptr k off) hS hc hm h
  | rp k sz i off => exact Rep2.keep (v := v) (p := .rp k sz i off) hS hc hm h
  | rs k sz off n fl => exact Rep2.keep (v := v) (p := .rs k sz off n fl) hS hc hm h
  | ep row off => exact Rep2.keep (v := v) (p := .ep row off) hS hc hm h
  | mp k => exact Rep2.keep (v := v) (p := .mp k) hS hc hm h
  | ifc t k => exact Rep2.keep (v := v) (p := .ifc t k) hS hc hm h
  | fd sz xs => exact Rep2.keep (v := v) (p := .fd sz xs) hS hc hm h
  | clo f cs => exact Rep2.keep (v := v) (p := .clo f cs) hS hc hm h
  | any => exact Rep2.keep (v := v) (p := .any) hS hc hm h
end

def RowIn (w : World) (S : Cells) (l : Loc) (t sz : Nat) (xs : List (List D)) : Prop :=
  (l.blk = none ∧ xs = []) ∨ ∃ (b : Nat) (arr : Array Value) (us : List Value), l.blk = some b ∧ w.heap[b]? = some (.cells arr t (0, 0)) ∧ xs.length ≤ l.cap ∧ l.cap ≤ maxLen ∧ arr.size = l.cap * sz ∧
      All2 (RepD w S) us xs.flatten ∧ (∀ u ∈ us, u.oneCell' = true) ∧ (∀ (j : Nat) (v : Value), us[j]? = some v → arr[j]? = some v) ∧
      (∀ o, S b o → false = true ∧ o < xs.length * sz) ∧ (false = true → ∀ o, o < xs.length * sz → S b o)
def Priv (m : Map) (w : World) (S : Cells) (k i c e : Nat) (u : Value) (p : D) : Prop :=
  ∃ sz xs cap, p = .sl sz xs ∧ 0 < sz ∧ (∀ x ∈ xs, x.length = sz) ∧ RowIn w S ⟨m.sub k i c, cap⟩ e sz xs ∧
    ((m.sub k i c = none ∧ u = .slice none 0 0 ∧ xs = []) ∨ ∃ b, m.sub k i c = some b ∧ u = .slice (some ⟨b, 0, none⟩) xs.length cap)
def focAt (foc : Option (Nat × List PV)) (i : Nat) : Option (List PV) := match foc with
  | some (j, ps) => if i = j then some ps else none
  | none => none
theorem focAt_self {j : Nat} {ps : List PV} : focAt (some (j, ps)) j = some ps := by simp [focAt]
theorem focAt_ne {i j : Nat} {ps : List PV} (h : i ≠ j) : focAt (some (j, ps)) i = none := by simp [focAt, h]
def lookN (c : Nat) : List (Nat × Nat) → Option Nat
  | [] => none
  | (d, e) :: r => if c = d then some e else lookN c r
def NCell (m : Map) (w : World) (S : Cells) (k i c : Nat) (u : Value) (p : D) (pr : Nat → Bool) (cs : List (Nat × Nat)) (foc : Option (Nat × List PV)) : Prop :=
  match focAt foc i with
  | some ps => ∃ q, ps[c]? = some q ∧ Rep1 m w S u q
  | none => match lookN c cs with
    | some e => if pr i = true then Priv m w S k i c e u p else RepD w S u p
    | none => RepD w S u p
def focKeys (foc : Option (Nat × List PV)) : List Nat := match foc with
  | some (_, ps) => ps.flatMap PV.keys1
  | none => []
def NestOk (m : Map) (w : World) (S : Cells) (k : Nat) (l : Loc) (t sz : Nat) (xs : List (List D)) (pr : Nat → Bool) (cs : List (Nat × Nat)) (foc : Option (Nat × List PV)) : Prop :=
  (l.blk = none ∧ xs = [] ∧ (∀ i c, m.sub k i c = none) ∧ foc = none) ∨ ∃ (b : Nat) (arr : Array Value) (us : List Value), l.blk = some b ∧ w.heap[b]? = some (.cells arr t (0, 0)) ∧ xs.length ≤ l.cap ∧ l.cap ≤ maxLen ∧ arr.size = l.cap * sz ∧
      us.length = xs.length * sz ∧ (∀ u ∈ us, u.oneCell' = true) ∧ (∀ (j : Nat) (v : Value), us[j]? = some v → arr[j]? = some v) ∧ (∀ o, ¬ S b o) ∧
      (∀ i x, xs[i]? = some x → ∀ c p u, x[c]? = some p → us[i * sz + c]? = some u → NCell m w S k i c u p pr cs foc) ∧
      (∀ i c b', m.sub k i c = some b' → b' ≠ b ∧ i < xs.length ∧ c < sz ∧ pr i = true ∧ (lookN c cs).isSome = true ∧ focAt foc i = none) ∧
      (∀ i c i' c' b', m.sub k i c = some b' → m.sub k i' c' = some b' → i = i' ∧ c = c') ∧ (∀ ps i, focAt foc i = some ps → ps.length = sz ∧ i < xs.length)
def MapFit (ents : Array MapEntry) (clock : Nat) : Prop := (∀ e ∈ ents.toList, e.born < clock) ∧ (ents.toList.map (·.born)).Nodup
def ObjOk (m : Map) (w : World) (S : Cells) (k : Nat) : MObj → Prop
  | .box t cells => ∃ b c arr, m k = some ⟨some b, c⟩ ∧ w.heap[b]? = some (.cells arr t (0, 0)) ∧ All2 (Rep1 m w S) arr.toList cells ∧ ∀ o, ¬ S b o
  | .row t sz xs leaked => 0 < sz ∧ (∀ x ∈ xs, x.length = sz) ∧ ∃ l, m k = some l ∧
    ((l.blk = none ∧ xs = []) ∨ ∃ (b : Nat) (arr : Array Value) (us : List Value), l.blk = some b ∧ w.heap[b]? = some (.cells arr t (0, 0)) ∧ xs.length ≤ l.cap ∧ l.cap ≤ maxLen ∧ arr.size = l.cap * sz ∧
      All2 (RepD w S) us xs.flatten ∧ (∀ u ∈ us, u.oneCell' = true) ∧ (∀ (j : Nat) (v : Value), us[j]? = some v → arr[j]? = some v) ∧
      (∀ o, S b o → leaked = true ∧ o < xs.length * sz) ∧ (leaked = true → ∀ o, o < xs.length * sz → S b o))
  | .map es => ∃ b c ents clock, m k = some ⟨some b, c⟩ ∧ w.heap[b]? = some (.map ents clock) ∧ ents.toList.map (fun e => (e.key, e.val)) = es ∧ (∀ o, ¬ S b o) ∧ MapFit ents clock
  | .grown t sz xs => 0 < sz ∧ (∀ x ∈ xs, x.length = sz) ∧ ∃ l, m k = some l ∧
    ((l.blk = none ∧ xs = []) ∨ ∃ (b : Nat) (arr : Array Value) (us : List Value), l.blk = some b ∧ w.heap[b]? = some (.cells arr t (0, 0)) ∧ xs.length ≤ l.cap ∧ l.cap ≤ maxLen ∧ arr.size = l.cap * sz ∧
      All2 (RepD w S) us xs.flatten ∧ (∀ u ∈ us, u.oneCell' = true) ∧ (∀ (j : Nat) (v : Value), us[j]? = some v → arr[j]? = some v) ∧
      (∀ o, S b o → false = true ∧ o < xs.length * sz) ∧ (false = true → ∀ o, o < xs.length * sz → S b o))
  | .nest t sz xs pr cs foc => 0 < sz ∧ (∀ x ∈ xs, x.length = sz) ∧ ∃ l, m k = some l ∧ NestOk m w S k l t sz xs pr cs foc
  | .sys H => ∃ b c, m k = some ⟨some b, c⟩ ∧ H.R b (m.sub k) w S
def MObj.keys : MObj → List Nat
  | .box _ cells => cells.flatMap PV.keys1
  | .nest _ _ _ _ _ foc => focKeys foc
  | _ => []
def isNest : MObj → Bool
  | .nest .. => true
  | .sys _ => true
  | _ => false

structure Grow (T : Nat → Prop) (w w' : World) : Prop where
  os : w'.os = w.os
  tape : w'.tape = w.tape
  output : w'.output = w.output
  size : w.heap.size ≤ w'.heap.size
  block : ∀ b, b < w.heap.size → ¬ T b → w'.heap[b]? = w.heap[b]?
theorem Grow.refl (T : Nat → Prop) (w : World) : Grow T w w := ⟨rfl, rfl, rfl, Nat.le_refl _, fun _ _ _ => rfl⟩
theorem Grow.step {T T' : Nat → Prop} {a b c : World} (h : Grow T a b) (k : Grow T' b c) (hT : ∀ i, i < a.heap.size → T' i → T i) : Grow T a c :=
  ⟨k.os.trans h.os, k.tape.trans h.tape, k.output.trans h.output, Nat.le_trans h.size k.size, fun i hi ht => (k.block i (by have := h.size; omega) (fun h => ht (hT i hi h))).trans (h.block i hi ht)⟩
theorem Grow.mono {T T' : Nat → Prop} {a b : World} (h : Grow T a b) (hT : ∀ i, i < a.heap.size → T i → T' i) : Grow T' a b :=
  ⟨h.os, h.tape, h.output, h.size, fun i hi ht => h.block i hi (fun h => ht (hT i hi h))⟩
theorem Grow.drewn (T : Nat → Prop) (w : World) : Grow T w w.drew := ⟨rfl, rfl, rfl, Nat.le_refl _, fun _ _ _ => rfl⟩
theorem Grow.alloc (T : Nat → Prop) (w : World) (o : Obj) : Grow T w (w.alloc o) := ⟨rfl, rfl, rfl, by simp, fun b hb _ => Below.heap_alloc w o b hb⟩
theorem Grow.setCell (w : World) (p : Addr) (u : Value) : Grow (· = p.block) w (w.setCell p u) := ⟨rfl, rfl, rfl, by simp, fun b _ ht => Below.heap_setCell w p u b ht⟩
theorem cell_of_heap {w w' : World} {b : Nat} (h : w'.heap[b]? = w.heap[b]?) (o : Nat) : w'.cell? ⟨b, o, none⟩ = w.cell? ⟨b, o, none⟩ := World.cell?_of_block (w := w) h
theorem Grow.cells {T : Nat → Prop} {w w' : World} (h : Grow T w w') {S : Cells} (hin : ∀ b o, S b o → b < w.heap.size) (hT : ∀ b o, S b o → ¬ T b) : ∀ b o, S b o → w'.cell? ⟨b, o, none⟩ = w.cell? ⟨b, o, none⟩ :=
  fun b o hs => cell_of_heap (h.block b (hin b o hs) (hT b o hs)) o

section
variable {m m' : Map} {w w' : World} {S S' : Cells}
theorem ObjOk.loc {k : Nat} {o : MObj} (h : ObjOk m w S k o) : ∃ l, m k = some l := by
  cases o with
  | box t cells => obtain ⟨b, c, _, h, _⟩ := h; exact ⟨_, h⟩
  | row t sz xs l => obtain ⟨_, _, l, h, _⟩ := h; exact ⟨_, h⟩
  | map es => obtain ⟨b, c, _, _, h, _⟩ := h; exact ⟨_, h⟩
  | grown t sz xs => obtain ⟨_, _, l, h, _⟩ := h; exact ⟨_, h⟩
  | nest t sz xs pr cs foc => obtain ⟨_, _, l, h, _⟩ := h; exact ⟨_, h⟩
  | sys H => obtain ⟨b, c, h, _⟩ := h; exact ⟨_, h⟩
theorem RowIn.cells {l : Loc} {t sz b : Nat} {xs : List (List D)} (h : RowIn w S l t sz xs) (hb : l.blk = some b) : (∃ arr, w.heap[b]? = some (.cells arr t (0, 0))) ∧ ∀ o, ¬ S b o := by
  rcases h with ⟨h, _⟩ | ⟨b', arr, us, h1, h2, _, _, _, _, _, _, h3, _⟩
  · rw [hb] at h; cases h
  · rw [hb] at h1; cases h1
    exact ⟨⟨arr, h2⟩, fun o hs => by have := (h3 o hs).1; cases this⟩
theorem Priv.cells {k i c e b : Nat} {u : Value} {p : D} (h : Priv m w S k i c e u p) (hb : m.sub k i c = some b) : (∃ arr, w.heap[b]? = some (.cells arr e (0, 0))) ∧ ∀ o, ¬ S b o := by
  obtain ⟨sz, xs, cap, _, _, _, h1, _⟩ := h
  exact h1.cells (by exact hb)
theorem flat_lt {sz i n c : Nat} (hi : i < n) (hc : c < sz) : i * sz + c < n * sz := by
  have := Nat.mul_le_mul_right sz (show i + 1 ≤ n by omega)
  rw [Nat.add_mul] at this; omega
theorem NestOk.subs {k : Nat} {l : Loc} {t sz : Nat} {xs : List (List D)} {pr : Nat → Bool} {cs : List (Nat × Nat)} {foc : Option (Nat × List PV)} (h1 : ∀ x ∈ xs, x.length = sz) (h : NestOk m w S k l t sz xs pr cs foc) {i c b : Nat} (hb : m.sub k i c = some b) :
    (∃ arr e, w.heap[b]? = some (.cells arr e (0, 0))) ∧ (∀ o, ¬ S b o) ∧ ∃ x p u e, xs[i]? = some x ∧ x[c]? = some p ∧ lookN c cs = some e ∧ Priv m w S k i c e u p := by
  rcases h with ⟨_, _, h, _⟩ | ⟨b0, arr, us, g1, g2, g3, g4, g5, g6, g7, g8, g9, g10, g11, g12, g13⟩
  · rw [h] at hb; cases hb
  · obtain ⟨k1, k2, k3, k4, k5, k6⟩ := g11 i c b hb
    obtain ⟨x, hx⟩ : ∃ x, xs[i]? = some x := ⟨_, List.getElem?_eq_getElem k2⟩
    have hxl := h1 x (List.mem_of_getElem? hx)
    obtain ⟨p, hp⟩ : ∃ p, x[c]? = some p := ⟨_, List.getElem?_eq_getElem (by omega)⟩
    obtain ⟨u, hu⟩ : ∃ u, us[i * sz + c]? = some u := ⟨_, List.getElem?_eq_getElem (by rw [g6]; exact flat_lt k2 k3)⟩
    have hn := g10 i x hx c p u hp hu
    unfold NCell at hn
    rw [k6] at hn
    obtain ⟨e, he⟩ := Option.isSome_iff_exists.1 k5
    simp only [he, k4, if_true] at hn
    obtain ⟨⟨arr', ha⟩, hs⟩ := hn.cells hb
    exact ⟨⟨arr', e, ha⟩, hs, x, p, u, e, hx, hp, he, hn⟩
theorem ObjOk.lt {k b : Nat} {c : Nat} {o : MObj} (h : ObjOk m w S k o) (hl : m k = some ⟨some b, c⟩) : b < w.heap.size := by
  cases o with
  | box t cells =>
    obtain ⟨b', c', arr, h1, h2, _⟩ := h
    rw [hl] at h1; cases h1
    exact (Array.getElem?_eq_some_iff.1 h2).1
  | row t sz xs l =>
    obtain ⟨_, _, l, h1, h2⟩ := h
    rw [hl] at h1; cases h1
    rcases h2 with ⟨h2, _⟩ | ⟨b', arr, us, h2, h3, _⟩
    · cases h2
    · cases h2; exact (Array.getElem?_eq_some_iff.1 h3).1
  | map es =>
    obtain ⟨b', c', ents, clock, h1, h2, _⟩ := h
    rw [hl] at h1; cases h1
    exact (Array.getElem?_eq_some_iff.1 h2).1
  | grown t sz xs =>
    obtain ⟨_, _, l, h1, h2⟩ := h
    rw [hl] at h1; cases h1
    rcases h2 with ⟨h2, _⟩ | ⟨b', arr, us, h2, h3, _⟩
    · cases h2
    · cases h2; exact (Array.getElem?_eq_some_iff.1 h3).1
  | nest t sz xs pr cs foc =>
    obtain ⟨_, _, l, h1, h2⟩ := h
    rw [hl] at h1; cases h1
    rcases h2 with ⟨h2, _⟩ | ⟨b', arr, us, h2, h3, _⟩
    · cases h2
    · cases h2; exact (Array.getElem?_eq_some_iff.1 h3).1
  | sys H =>
    obtain ⟨b', c', h1, h2⟩ := h
    rw [hl] at h1; cases h1
    obtain ⟨ob, h3, _⟩ := H.held h2 b (.inl rfl)
    exact (Array.getElem?_eq_some_iff.1 h3).1
theorem RowIn.keep {l : Loc} {t sz : Nat} {xs : List (List D)} (hS : ∀ b o, S b o → S' b o) (hc : ∀ b o, S b o → w'.cell? ⟨b, o, none⟩ = w.cell? ⟨b, o, none⟩) (hb : ∀ b, l.blk = some b → w'.heap[b]? = w.heap[b]? ∧ ∀ o, S' b o → S b o) (h : RowIn w S l t sz xs) : RowIn w' S' l t sz xs := by
  rcases h with h3 | ⟨b, arr, us, e, g1, g2, g3, g4, g5, g5', g6, g7, g8⟩
  · exact .inl h3
  · obtain ⟨f1, f2⟩ := hb b e
    exact .inr ⟨b, arr, us, e, f1.trans g1, g2, g3, g4, g5.imp fun _ _ _ h => h.keep hS hc, g5', g6, fun o ho => g7 o (f2 o ho), fun hl o ho => hS _ _ (g8 hl o ho)⟩
theorem Priv.keep {k k' i c e : Nat} {u : Value} {p : D} (hS : ∀ b o, S b o → S' b o) (hc : ∀ b o, S b o → w'.cell? ⟨b, o, none⟩ = w.cell? ⟨b, o, none⟩) (hs : m'.sub k' i c = m.sub k i c) (hb : ∀ b, m.sub k i c = some b → w'.heap[b]? = w.heap[b]? ∧ ∀ o, S' b o → S b o) (h : Priv m w S k i c e u p) : Priv m' w' S' k' i c e u p := by
  obtain ⟨sz, xs, cap, h1, h2, h3, h4, h5⟩ := h
  exact ⟨sz, xs, cap, h1, h2, h3, by rw [hs]; exact h4.keep hS hc hb, by rw [hs]; exact h5⟩
theorem NestOk.keep {k k' : Nat} {l : Loc} {t sz : Nat} {xs : List (List D)} {pr : Nat → Bool} {cs : List (Nat × Nat)} {foc foc' : Option (Nat × List PV)} (hS : ∀ b o, S b o → S' b o) (hc : ∀ b o, S b o → w'.cell? ⟨b, o, none⟩ = w.cell? ⟨b, o, none⟩) (hs : m'.sub k' = m.sub k)
    (hl : ∀ b, l.blk = some b → w'.heap[b]? = w.heap[b]? ∧ ∀ o, S' b o → S b o) (hb : ∀ i c b, m.sub k i c = some b → w'.heap[b]? = w.heap[b]? ∧ ∀ o, S' b o → S b o)
    (hf : ∀ i, match focAt foc i with | some ps => ∃ ps', focAt foc' i = some ps' ∧ ps'.length = ps.length ∧ ∀ (c : Nat) (q : PV) (u : Value), ps[c]? = some q → Rep1 m w S u q → ∃ q', ps'[c]? = some q' ∧ Rep1 m' w' S' u q' | none => focAt foc' i = none)
    (h : NestOk m w S k l t sz xs pr cs foc) : NestOk m' w' S' k' l t sz xs pr cs foc' := by
  rcases h with ⟨h1, h2, h3, h4⟩ | ⟨b, arr, us, g1, g2, g3, g4, g5, g6, g7, g8, g9, g10, g11, g12, g13⟩
  · refine .inl ⟨h1, h2, by rw [hs]; exact h3, ?_⟩
    cases foc' with
    | none => rfl
    | some e =>
      obtain ⟨j, ps⟩ := e
      have hfj := hf j
      rw [h4] at hfj
      have hfj : focAt (some (j, ps)) j = none := hfj
      rw [focAt_self] at hfj
      cases hfj
  · obtain ⟨f1, f2⟩ := hl b g1
    refine .inr ⟨b, arr, us, g1, f1.trans g2, g3, g4, g5, g6, g7, g8, fun o ho => g9 o (f2 o ho), fun i x hx c p u hp hu => ?_, ?_, by rw [hs]; exact g12, fun ps i hi => ?_⟩
    · have hn := g10 i x hx c p u hp hu
      have hfi := hf i
      unfold NCell at hn ⊢
      split at hn
      · rename_i ps hps
        rw [hps] at hfi
        obtain ⟨ps', e1, _, e2⟩ := hfi
        rw [e1]
        obtain ⟨q, hq, hr⟩ := hn
        exact e2 c q u hq hr
      · rename_i hps
        rw [hps] at hfi
        rw [show focAt foc' i = none from hfi]
        dsimp only
        split at hn
        · split at hn
          · rename_i hpr
            rw [if_pos hpr]
            exact hn.keep hS hc (by rw [hs]) (hb i c)
          · rename_i hpr
            rw [if_neg hpr]
            exact RepD.keep hS hc hn
        · exact RepD.keep hS hc hn
    · rw [hs]
      intro i c b' hb'
      obtain ⟨k1, k2, k3, k4, k5, k6⟩ := g11 i c b' hb'
      refine ⟨k1, k2, k3, k4, k5, ?_⟩
      have hfi := hf i
      rw [k6] at hfi
      exact hfi
    · have hfi := hf i
      cases hq : focAt foc i with
      | none => rw [hq] at hfi; rw [show focAt foc' i = none from hfi] at hi; cases hi
      | some ps0 =>
        rw [hq] at hfi
        obtain ⟨ps', e1, e2, _⟩ := hfi
        rw [e1] at hi; cases hi
        rw [e2]; exact g13 _ _ hq
def focMap (g : PV → PV) : Option (Nat × List PV) → Option (Nat × List PV)
  | none => none
  | some (j, ps) => some (j, ps.map g)
theorem focAt_map {g : PV → PV} {foc : Option (Nat × List PV)} {i : Nat} : focAt (focMap g foc) i = (focAt foc i).map (List.map g) := by
  cases foc with
  | none => rfl
  | some e =>
    obtain ⟨j, ps⟩ := e
    simp only [focMap, focAt]
    split <;> rfl
theorem focAt_keys {foc : Option (Nat × List PV)} {i : Nat} {ps : List PV} (h : focAt foc i = some ps) {c : Nat} {q : PV} (hq : ps[c]? = some q) {j : Nat} (hj : j ∈ q.keys1) : j ∈ focKeys foc := by
  unfold focAt at h
  split at h
  · split at h
    · cases h
      unfold focKeys
      rw [List.mem_flatMap]
      exact ⟨q, List.mem_of_getElem? hq, hj⟩
    · cases h
  · cases h
theorem ObjOk.keep {k : Nat} {o : MObj} (hS : ∀ b o, S b o → S' b o) (hc : ∀ b o, S b o → w'.cell? ⟨b, o, none⟩ = w.cell? ⟨b, o, none⟩) (hm : ∀ j ∈ o.keys, ∀ l, m j = some l → m' j = some l) (hk : ∀ l, m k = some l → m' k = some l) (hs : m'.sub k = m.sub k)
    (hb : ∀ b, m.has k b → w'.heap[b]? = w.heap[b]? ∧ ∀ o, S' b o → S b o) (h : ObjOk m w S k o) : ObjOk m' w' S' k o := by
  cases o with
  | box t cells =>
    obtain ⟨b, c, arr, h1, h2, h3, h4⟩ := h
    obtain ⟨g1, g2⟩ := hb b (.inl ⟨c, h1⟩)
    exact ⟨b, c, arr, hk _ h1, g1.trans h2, h3.imp fun _ p hp hr => Rep1.keep hS hc (fun j hj => hm j (by simp only [MObj.keys, List.mem_flatMap]; exact ⟨p, hp, hj⟩)) hr, fun o ho => h4 o (g2 o ho)⟩
  | row t sz xs l =>
    obtain ⟨h0, h1, l, h2, h3⟩ := h
    refine ⟨h0, h1, l, hk _ h2, ?_⟩
    rcases h3 with h3 | ⟨b, arr, us, e, g1, g2, g3, g4, g5, g5', g6, g7, g8⟩
    · exact .inl h3
    · obtain ⟨f1, f2⟩ := hb b (.inl ⟨l.cap, by rw [h2, ← e]⟩)
      exact .inr ⟨b, arr, us, e, f1.trans g1, g2, g3, g4, g5.imp fun _ _ _ h => h.keep hS hc, g5', g6, fun o ho => g7 o (f2 o ho), fun hl o ho => hS _ _ (g8 hl o ho)⟩
  | map es =>
    obtain ⟨b, c, ents, clock, h1, h2, h3, h4, h5⟩ := h
    obtain ⟨g1, g2⟩ := hb b (.inl ⟨c, h1⟩)
    exact ⟨b, c, ents, clock, hk _ h1, g1.trans h2, h3, fun o ho => h4 o (g2 o ho), h5⟩
  | grown t sz xs =>
    obtain ⟨h0, h1, l, h2, h3⟩ := h
    exact ⟨h0, h1, l, hk _ h2, RowIn.keep hS hc (fun b e => hb b (.inl ⟨l.cap, by rw [h2, ← e]⟩)) h3⟩
  | nest t sz xs pr cs foc =>
    obtain ⟨h0, h1, l, h2, h3⟩ := h
    refine ⟨h0, h1, l, hk _ h2, h3.keep hS hc hs (fun b e => hb b (.inl ⟨l.cap, by rw [h2, ← e]⟩)) (fun i c b e => hb b (.inr ⟨i, c, e⟩)) fun i => ?_⟩
    cases hq : focAt foc i with
    | none => rfl
    | some ps => exact ⟨ps, rfl, rfl, fun c q u h4 h5 => ⟨q, h4, Rep1.keep hS hc (fun j hj => hm j (focAt_keys hq h4 hj)) h5⟩⟩
  | sys H =>
    obtain ⟨b, c, h1, h2⟩ := h
    refine ⟨b, c, hk _ h1, ?_⟩
    rw [hs]
    exact H.keep hS hc (fun b' hb' => hb b' (hb'.elim (fun e => .inl ⟨c, by rw [h1, e]⟩) .inr)) h2
end

abbrev Slots := List (Nat × PV)
abbrev Mem := List (Nat × MObj)
def look {α : Type} (i : Nat) : List (Nat × α) → Option α
  | [] => none
  | (j, p) :: r => if i = j then some p else look i r
theorem look_mem {α : Type} {i : Nat} {p : α} : ∀ {l : List (Nat × α)}, look i l = some p → (i, p) ∈ l
  | (j, q) :: r, h => by
    unfold look at h
    split at h
    · rename_i e; subst e; cases h; simp
    · exact List.mem_cons_of_mem _ (look_mem h)
theorem look_cons {α : Type} {i j : Nat} {p q : α} {l : List (Nat × α)} (h : look i ((j, q) :: l) = some p) : (i = j ∧ q = p) ∨ (i ≠ j ∧ look i l = some p) := by
  unfold look at h
  split at h
  · rename_i e; exact .inl ⟨e, Option.some.inj h⟩
  · rename_i e; exact .inr ⟨e, h⟩

theorem look_more {α : Type} {i j : Nat} {p : α} {l : List (Nat × α)} (h : (look i l).isSome = true) : (look i ((j, p) :: l)).isSome = true := by
  unfold look
  split
  · rfl
  · exact h
structure Sta where
  n : Nat
  slots : Slots
  mem : Mem

structure Base where
  w : World
  T : Nat → Prop
  S : Cells
  m : Map
  ds : List (Nat × Obj)
  df : List Deferred
  gh : Nat → Option Value
  cw : World
def wid (n : Nat) : Nat := n % 10000
def froz (n d : Nat) : Bool := if n < 10000 then false else decide (n / 10000 / 2 ^ d % 2 = 1)
theorem wid_lt (n : Nat) : wid n < 10000 := Nat.mod_lt _ (by decide)

structure MemOk (B : Base) (m : Map) (S : Cells) (mem : Mem) (w : World) : Prop where
  dom : ∀ k l, m k = some l → (look k mem).isSome
  objs : ∀ k o, look k mem = some o → ObjOk m w S k o
  subs : ∀ k i c b, m.sub k i c = some b → ∃ o, look k mem = some o ∧ isNest o = true
  subx : ∀ k, 1000000 ≤ k → k < 2000000 → ∀ i c b, m.sub k i c = some b → B.w.heap.size ≤ b ∨ B.m.has k b
  parts : ∀ k k' b, m.has k b → m.has k' b → k = k'
  young : ∀ k b, m.has k b → B.w.heap.size ≤ b ∨ (B.T b ∧ 1000000 ≤ k ∧ k < 2000000)
  grow : Grow B.T B.w w
  sold : ∀ b o, B.S b o → S b o
  snew : ∀ b o, S b o → b < B.w.heap.size → B.S b o
  sin : ∀ b o, S b o → b < w.heap.size
  scell : ∀ b o, B.S b o → w.cell? ⟨b, o, none⟩ = B.cw.cell? ⟨b, o, none⟩
  ext : ∀ k l, 1000000 ≤ k → k < 2000000 → m k = some l → B.m k = some l ∨ ((look (k + 3000000) mem).isSome = true ∧ ∀ b, l.blk = some b → B.w.heap.size ≤ b ∨ ∃ l0, B.m k = some l0 ∧ l0.blk = some b)
  marks : ∀ x ∈ B.ds, (objCells x.2 = false ∧ B.w.heap.size ≤ x.1) ∧ w.heap[x.1]? = some x.2 ∧ ∀ o, ¬ S x.1 o

theorem MemOk.fresh {B : Base} {m : Map} {S : Cells} {mem : Mem} {w : World} (h : MemOk B m S mem w) (k b c : Nat) (h1 : m k = some ⟨some b, c⟩) : B.w.heap.size ≤ b ∨ (B.T b ∧ 1000000 ≤ k ∧ k < 2000000) := h.young k b (.inl ⟨c, h1⟩)
structure Sim (B : Base) (m : Map) (S : Cells) (σ : Sta) (a : Act) (w : World) : Prop extends MemOk B m S σ.mem w where
  defers : a.defers = B.df
  size : a.tmps.size = wid σ.n
  frozen : ∀ i, froz σ.n i = true → a.tmps[i]? = B.gh i
  slots : ∀ i p, look i σ.slots = some p → ∃ v, a.tmps[i]? = some v ∧ Rep m w S v p
end Go.Proofs.YtplooifpgmlofaaGreat
