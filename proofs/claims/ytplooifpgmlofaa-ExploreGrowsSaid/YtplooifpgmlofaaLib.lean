/- Words for memory, over any program: a slice that reads as a list (Arr), a row of the call's own (Own), the laws on append in these words, a region of reads and calls in the class of later worlds (ExtW). No condition. -/
import Derived.WalkKit
import Derived.WalkLawsBesides
import Derived.WalkSpells
import Derived.Lib.Hide
import Derived.Maps.AppendAt
import Derived.Deep.QuietTactic
import Derived.Deep.RegionHeld3
import Derived.BigQuiet
namespace Go.Proofs.Ytplooifpgmlofaa
open Go.RowKit

/-- How an element lies in memory: its cells, and what may be said of them in the blocks of S. -/
class Lay (α : Type) where
  sz : Nat
  pos : 0 < sz
  rd : World → (Nat → Prop) → α → List Value → Prop
  len : ∀ {w : World} {S : Nat → Prop} {a : α} {cs : List Value}, rd w S a cs → cs.length = sz
  keep : ∀ {w w' : World} {S S' : Nat → Prop} {a : α} {cs : List Value}, rd w S a cs → (∀ p : Addr, S p.block → p.block < w.heap.size → w'.cell? p = w.cell? p) → w.heap.size ≤ w'.heap.size → (∀ b, S b → S' b) → rd w' S' a cs
  bound : ∀ {w : World} {S S' : Nat → Prop} {a : α} {cs : List Value}, rd w S a cs → (∀ b, S b → b < w.heap.size → S' b) → rd w S' a cs

/-- An element whose cells are its own: nothing is followed. -/
class Flat (α : Type) where
  sz : Nat
  pos : 0 < sz
  enc : α → List Value
  len : ∀ a, (enc a).length = sz
  one : ∀ a, ∀ u ∈ enc a, u.oneCell' = true

instance layOfFlat {α : Type} [F : Flat α] : Lay α where
  sz := F.sz
  pos := F.pos
  rd := fun _ _ a cs => cs = F.enc a
  len := fun h => by rw [h]; exact F.len _
  keep := fun h _ _ _ => h
  bound := fun h _ => h

instance flatInt : Flat Int where
  sz := 1
  pos := by omega
  enc := fun n => [.int .i64 n]
  len := fun _ => rfl
  one := fun _ u hu => by simp at hu; subst hu; rfl

instance flatBool : Flat Bool where
  sz := 1
  pos := by omega
  enc := fun b => [.bool b]
  len := fun _ => rfl
  one := fun _ u hu => by simp at hu; subst hu; rfl

instance flatByte : Flat UInt8 where
  sz := 1
  pos := by omega
  enc := fun b => [.int .u8 (b.toNat : Int)]
  len := fun _ => rfl
  one := fun _ u hu => by simp at hu; subst hu; rfl

/-- The slice at A, of capacity c, reads as xs, in a block of S. -/
def Arr {α : Type} [L : Lay α] (w : World) (S : Nat → Prop) (A : Option Addr) (c : Nat) (xs : List α) : Prop :=
  xs.length ≤ c ∧ c ≤ maxLen ∧ (A = none → c = 0) ∧ (0 < xs.length → ∃ b o : Nat, A = some ⟨b, o, none⟩ ∧ S b ∧ b < w.heap.size ∧
    ∀ i x, xs[i]? = some x → ∃ cs, L.rd w S x cs ∧ ∀ j u, cs[j]? = some u → w.cell? ⟨b, o + i * L.sz + j, none⟩ = some u)

section
variable {α : Type} [L : Lay α] {w w' : World} {S S' : Nat → Prop} {c : Nat} {A : Option Addr} {xs : List α}

theorem Arr.le (h : Arr w S A c xs) : xs.length ≤ c := h.1
theorem Arr.max (h : Arr w S A c xs) : c ≤ maxLen := h.2.1
theorem Arr.max' (h : Arr w S A c xs) : xs.length ≤ 9223372036854775807 := by have := h.1; have := h.2.1; unfold maxLen at this; omega
theorem Arr.capmax (h : Arr w S A c xs) : c ≤ 9223372036854775807 := by have := h.2.1; unfold maxLen at this; omega

theorem Arr.keep (h : Arr w S A c xs) (hk : ∀ p : Addr, S p.block → p.block < w.heap.size → w'.cell? p = w.cell? p) (hz : w.heap.size ≤ w'.heap.size) (hS : ∀ b, S b → S' b) : Arr w' S' A c xs := by
  refine ⟨h.1, h.2.1, h.2.2.1, fun hn => ?_⟩
  obtain ⟨b, o, e, hb, hlt, hc⟩ := h.2.2.2 hn
  refine ⟨b, o, e, hS b hb, by omega, fun i x hx => ?_⟩
  obtain ⟨cs, hr, hcell⟩ := hc i x hx
  exact ⟨cs, L.keep hr hk hz hS, fun j u hu => (hk _ hb hlt).trans (hcell j u hu)⟩
theorem Arr.mono (h : Arr w S A c xs) (hS : ∀ b, S b → S' b) : Arr w S' A c xs := h.keep (fun _ _ _ => rfl) (Nat.le_refl _) hS
theorem Arr.later (h : Arr w S A c xs) (hb : Below w.heap.size w w') : Arr w' S A c xs := h.keep (fun _ _ hp => hb.cell hp) hb.size fun _ h => h
theorem Arr.drewN (h : Arr w S A c xs) (n : Nat) : Arr (w.drewN n) S A c xs := h.keep (fun _ _ _ => rfl) (Nat.le_refl _) fun _ h => h
theorem Arr.drew (h : Arr w S A c xs) : Arr w.drew S A c xs := h.keep (fun _ _ _ => rfl) (Nat.le_refl _) fun _ h => h
theorem Arr.alloc (h : Arr w S A c xs) (o : Obj) : Arr (w.alloc o) S A c xs := h.later ((Below.refl _ _).alloc (Nat.le_refl _) _)
theorem Arr.setCell (h : Arr w S A c xs) {p : Addr} (hp : ¬ S p.block) (u : Value) : Arr (w.setCell p u) S A c xs :=
  h.keep (fun q hq _ => World.cell?_setCell_other w p q u (fun e => by subst e; exact hp hq)) (by simp [World.setCell]) fun _ h => h
theorem Arr.nil : Arr w S (none : Option Addr) 0 ([] : List α) := ⟨by simp, by unfold maxLen; omega, fun _ => rfl, fun h => absurd h (by simp)⟩

theorem Arr.at_ {k : Nat} {x : α} (h : Arr w S A c xs) (hk : xs[k]? = some x) : ∃ b o : Nat, A = some ⟨b, o, none⟩ ∧ b < w.heap.size ∧ S b ∧ ∃ cs, L.rd w S x cs ∧ ∀ j u, cs[j]? = some u → w.cell? ⟨b, o + k * L.sz + j, none⟩ = some u := by
  obtain ⟨b, o, e, hb, hlt, hc⟩ := h.2.2.2 (by have := (List.getElem?_eq_some_iff.1 hk).1; omega)
  exact ⟨b, o, e, hlt, hb, hc k x hk⟩

theorem Arr.take (h : Arr w S A c xs) (k : Nat) : Arr w S A c (xs.take k) := by
  refine ⟨by have := h.1; rw [List.length_take]; omega, h.2.1, h.2.2.1, fun hn => ?_⟩
  obtain ⟨b, o, e, hb, hlt, hc⟩ := h.2.2.2 (by rw [List.length_take] at hn; omega)
  exact ⟨b, o, e, hb, hlt, fun i x hx => hc i x (by rw [List.getElem?_take] at hx; split at hx; exact hx; cases hx)⟩

theorem Arr.drop (h : Arr w S A c xs) {k : Nat} (hk : k ≤ xs.length) : Arr w S (if c = k then A else A.map (·.add (k * L.sz))) (c - k) (xs.drop k) := by
  have h1 := h.1
  refine ⟨by rw [List.length_drop]; omega, by have := h.2.1; omega, fun hn => ?_, fun hn => ?_⟩
  · split at hn
    · omega
    · have := h.2.2.1 (by simpa using hn); omega
  · rw [List.length_drop] at hn
    obtain ⟨b, o, e, hb, hlt, hc⟩ := h.2.2.2 (by omega)
    refine ⟨b, o + k * L.sz, ?_, hb, hlt, fun i x hx => ?_⟩
    · rw [if_neg (by omega), e]
      simp only [Option.map_some, Addr.add]
      split
      · rename_i h0
        have : k * L.sz = 0 := h0
        simp [this]
      · rfl
    · rw [List.getElem?_drop] at hx
      obtain ⟨cs, hr, hcell⟩ := hc (k + i) x hx
      refine ⟨cs, hr, fun j u hu => ?_⟩
      have := hcell j u hu
      rw [show o + k * L.sz + i * L.sz + j = o + (k + i) * L.sz + j from by rw [Nat.add_mul]; omega]
      exact this
end

/-- A row of the call's own, from block 'base' on, whose cells are those of xs. -/
def Own {α : Type} [F : Flat α] (w : World) (base : Nat) (e : TypeId) (v : Value) (xs : List α) : Prop := w.ownsRow base e F.sz v xs.length (xs.flatMap F.enc)

theorem flat_at {α : Type} [F : Flat α] : ∀ (xs : List α) (i : Nat) (x : α), xs[i]? = some x → ∀ j u, (F.enc x)[j]? = some u → (xs.flatMap F.enc)[i * F.sz + j]? = some u
  | [], i, x, h, _, _, _ => by simp at h
  | y :: ys, 0, x, h, j, u, hu => by
    simp at h
    subst h
    rw [List.flatMap_cons, Nat.zero_mul, Nat.zero_add, List.getElem?_append_left (List.getElem?_eq_some_iff.1 hu).1]
    exact hu
  | y :: ys, i + 1, x, h, j, u, hu => by
    have := flat_at ys i x (by simpa using h) j u hu
    rw [List.flatMap_cons, List.getElem?_append_right (by rw [F.len, Nat.add_mul]; omega), F.len]
    rw [show (i + 1) * F.sz + j - F.sz = i * F.sz + j from by rw [Nat.add_mul]; omega]
    exact this
theorem flat_len {α : Type} [F : Flat α] (xs : List α) : (xs.flatMap F.enc).length = xs.length * F.sz := by
  induction xs with
  | nil => simp
  | cons x xs ih => rw [List.flatMap_cons, List.length_append, ih, F.len, List.length_cons, Nat.add_mul]; omega
theorem flat_one {α : Type} [F : Flat α] (xs : List α) : ∀ u ∈ xs.flatMap F.enc, u.oneCell' = true := fun u hu => by
  obtain ⟨x, _, h⟩ := List.mem_flatMap.1 hu
  exact F.one x u h

section
variable {α : Type} [F : Flat α] {w w' : World} {base : Nat} {e : TypeId} {v : Value} {xs : List α}

theorem Own.nil (w : World) (base : Nat) (e : TypeId) : Own w base e (.slice none 0 0) ([] : List α) := World.ownsRow_nil _ _ _ _
theorem Own.new0 (w : World) (e : TypeId) : Own (w.alloc (.cells #[] e)) w.heap.size e (.slice (some ⟨w.heap.size, 0, none⟩) 0 0) ([] : List α) :=
  World.ownsRow_lit w #[] 0 (Nat.le_refl _) (by unfold maxLen; omega) (by simp)
theorem Own.kept {row : Option Nat} (h : Own w base e v xs) (hg : w.grownBy w' row) (hne : v.ownBlock = none ∨ v.ownBlock ≠ row) : Own w' base e v xs := World.ownsRow.kept h hg hne
theorem Own.alloc (h : Own w base e v xs) (o : Obj) : Own (w.alloc o) base e v xs := World.ownsRow.alloc h o
theorem Own.lt (h : Own w base e v xs) : ∀ k, v.ownBlock = some k → base ≤ k ∧ k < w.heap.size := World.ownsRow.lt h
theorem Own.drew (h : Own w base e v xs) : Own w.drew base e v xs := h
theorem Own.drewN (h : Own w base e v xs) (n : Nat) : Own (w.drewN n) base e v xs := h
theorem Own.below {B : Nat} (h : Own w base e v xs) (hb : Below B w w') (hB : ∀ k, v.ownBlock = some k → k < B) : Own w' base e v xs := by
  refine ⟨h.1, ?_⟩
  rcases h.2 with hn | ⟨g, cap, cur, rfl, h1, h2, r⟩
  · exact .inl hn
  · exact .inr ⟨g, cap, cur, rfl, h1, (hb.block g (hB g rfl)).trans h2, r⟩
theorem Own.later (h : Own w base e v xs) (hb : Below w.heap.size w w') : Own w' base e v xs := h.below hb fun k hk => (h.lt k hk).2
theorem Own.mono {base' : Nat} (h : Own w base e v xs) (hb : base' ≤ base) : Own w base' e v xs := by
  refine ⟨h.1, ?_⟩
  rcases h.2 with hn | ⟨g, cap, cur, hv, h1, r⟩
  · exact .inl hn
  · exact .inr ⟨g, cap, cur, hv, by omega, r⟩

/-- The value's form, and how it reads. -/
theorem Own.arr (h : Own w base e v xs) : ∃ (A : Option Addr) (c : Nat), v = .slice A xs.length c ∧ Arr w (base ≤ ·) A c xs := by
  rcases h.2 with ⟨hv, hn⟩ | ⟨g, cap, cur, hv, h1, h2, h3, h4, h5, h6⟩
  · have : xs = [] := List.eq_nil_of_length_eq_zero hn
    subst this
    exact ⟨none, 0, hv, Arr.nil⟩
  · refine ⟨some ⟨g, 0, none⟩, cap, hv, h3, h4, (fun h => by cases h), fun _ => ⟨g, 0, rfl, h1, (Array.getElem?_eq_some_iff.1 h2).1, fun i x hx => ⟨F.enc x, rfl, fun j u hu => ?_⟩⟩⟩
    have hf := flat_at xs i x hx j u hu
    have hc := World.ownsRow.cells h (g := g) (by rw [hv]; rfl) _ u hf
    rw [Addr.add_lit, Nat.zero_add] at hc
    show w.cell? ⟨g, 0 + i * F.sz + j, none⟩ = some u
    rw [Nat.zero_add]
    exact hc
theorem Own.arr' {A : Option Addr} {n c : Nat} (h : Own w base e (.slice A n c) xs) : Arr w (base ≤ ·) A c xs := by
  obtain ⟨A', c', hv, ha⟩ := h.arr
  injection hv with e1 e2 e3
  subst e1 e3
  exact ha
theorem Own.set_ (h : Own w base e v xs) {p : Addr} (hp : p.block < base) (u : Value) : Own (w.setCell p u) base e v xs := ownsRow_setCell_below h hp u
end

/-- What a slice type's elements are, in the program's table. -/
structure Elt (P : Program) (α : Type) [F : Flat α] (t e : TypeId) : Prop where
  ht : P.underlying t = some (.slice e)
  hi : ∃ i z, P.info? e = some i ∧ i.zero = some z ∧ i.size = F.sz ∧ i.bytes ≤ 4096 ∧ z.cells.size = F.sz
theorem Elt.of {P : Program} {α : Type} [F : Flat α] {t e : TypeId} {z : Value} {n b : Nat} (ht : P.underlying t = some (.slice e)) (h : (P.info? e).map (fun i => (i.zero, i.size, i.bytes)) = some (some z, n, b))
    (hn : n = F.sz) (hb : b ≤ 4096) (hz : z.cells.size = F.sz) : Elt P α t e := by
  obtain ⟨i, h1, h2, h3, h4⟩ := info_parts h
  exact ⟨ht, i, z, h1, h2, h3.trans hn, by omega, hz⟩

section
variable {α : Type} [F : Flat α] {P : Program} {ops : Array Oper} {rest : List Oper} {o : Oper} {a : Act} {Q : Exit → Act → World → Prop} {w : World}

/-- append(out, y): out the call's own. -/
theorem wpList_push (hgd : o.guard = none) (s x : Operand) {t e : TypeId} (E : Elt P α t e)
    (ho : o.op = .call { callee := .builtin .append, args := #[s, x], argTypes := #[t, t] })
    (base : Nat) (v : Value) (xs : List α) (y : α) (hs : a.eval s = v) (hown : Own w base e v xs)
    (ad : Addr) (c : Nat) (hx : a.eval x = .slice (some ad) 1 c) (hnew : ∀ j u, (F.enc y)[j]? = some u → w.cell? (ad.add j) = some u)
    (hlen : xs.length < 4294967296) (hbase : base ≤ w.heap.size)
    (h : ∀ v' w', Own w' base e v' (xs ++ [y]) → w.grownBy w' v.ownBlock → (v'.ownBlock = v.ownBlock ∨ v'.ownBlock = some w.heap.size) → wpList P ops Q rest (a.put o.dst v') w') : wpList P ops Q (o :: rest) a w := by
  obtain ⟨i, z, hi, hz, hsz, hby, hzs⟩ := E.hi
  refine wpList_append_own_at (P := P) w hgd s x t ho base e i z F.sz i.bytes E.ht hi hz hsz rfl hzs F.pos v xs.length (xs.flatMap F.enc) hs hown ad 1 c (F.enc y) hx (by rw [F.len]; omega) hnew (F.one y)
    (by unfold maxLen; omega) ?_ hbase fun v' w' h1 h2 _ h4 => h v' w' ?_ h2 h4
  · have := Nat.mul_le_mul (show xs.length + 1 ≤ 4294967296 by omega) hby; omega
  · unfold Own; rw [List.length_append, List.flatMap_append]; simpa using h1

theorem run_append_nil_any (base : Nat) (t ty e : TypeId) (i : TypeInfo) (size : Nat) (ht : P.underlying t = some (.slice e)) (hi : P.info? e = some i)
    (v : Value) (n : Nat) (xs : List Value) (hown : w.ownsRow base e size v n xs) (c : Nat) : (Builtin.append_ #[t, t] ty #[v, .slice none 0 c]).run P w = .ok v w := by
  rcases hown.2 with ⟨rfl, rfl⟩ | ⟨g, cap, cur, rfl, _, _, hnc, _⟩
  · simp [Builtin.append_, run_underlying ht, sizeOf, typeInfo, hi, Builtin.lenOf, Builtin.firstCells]
  · simp [Builtin.append_, run_underlying ht, sizeOf, typeInfo, hi, Builtin.lenOf, Builtin.firstCells, hnc, storeCells]

/-- append(out, ys...): out the call's own, ys whatever, nil too. -/
theorem wpList_more (hgd : o.guard = none) (s x : Operand) {t e : TypeId} (E : Elt P α t e)
    (ho : o.op = .call { callee := .builtin .append, args := #[s, x], argTypes := #[t, t] })
    (base : Nat) (v : Value) (xs ys : List α) (hs : a.eval s = v) (hown : Own w base e v xs)
    (S : Nat → Prop) (A : Option Addr) (c : Nat) (hx : a.eval x = .slice A ys.length c) (hr : Arr w S A c ys)
    (hlen : xs.length + ys.length < 4294967296) (hbase : base ≤ w.heap.size)
    (h : ∀ v' w', Own w' base e v' (xs ++ ys) → w.grownBy w' v.ownBlock → (v'.ownBlock = v.ownBlock ∨ v'.ownBlock = some w.heap.size) → wpList P ops Q rest (a.put o.dst v') w') : wpList P ops Q (o :: rest) a w := by
  obtain ⟨i, z, hi, hz, hsz, hby, hzs⟩ := E.hi
  rcases A with _ | ad
  · have hc := hr.2.2.1 rfl
    have hl : ys.length = 0 := by have := hr.1; omega
    have hy : ys = [] := List.eq_nil_of_length_eq_zero hl
    subst hy
    refine wpList_plain hgd fun K hK => ?_
    have hrun := run_append_nil_any (P := P) (w := w) base t o.type e i F.sz E.ht hi v _ _ hown c
    unfold Oper.wp execOp
    simp only [ho, resolve, invoke, builtin, Sem.run_bind, Sem.run_pure, Result.andThen_ok, List.map_toArray, List.map_cons, List.map_nil, hs, hx, List.length_nil, hrun]
    exact hK _ _ (h v w (by simpa using hown) (World.grownBy.refl _ _) (.inl rfl))
  · refine wpList_append_own_at (P := P) w hgd s x t ho base e i z F.sz i.bytes E.ht hi hz hsz rfl hzs F.pos v xs.length (xs.flatMap F.enc) hs hown ad ys.length c (ys.flatMap F.enc) hx (flat_len ys) ?_ (flat_one ys)
      (by unfold maxLen; omega) ?_ hbase fun v' w' h1 h2 _ h4 => h v' w' ?_ h2 h4
    · intro j u hu
      have hj : j < ys.length * F.sz := by rw [← flat_len]; exact (List.getElem?_eq_some_iff.1 hu).1
      have hp := F.pos
      have hq : j / F.sz < ys.length := (Nat.div_lt_iff_lt_mul hp).2 hj
      obtain ⟨b, o', he, hb, _, hcell⟩ := hr.2.2.2 (Nat.lt_of_le_of_lt (Nat.zero_le _) hq)
      obtain rfl := Option.some.inj he
      have hy := List.getElem?_eq_getElem hq
      have hm : j % F.sz < (F.enc ys[j / F.sz]).length := by rw [F.len]; exact Nat.mod_lt _ hp
      have hf := flat_at ys _ _ hy (j % F.sz) _ (List.getElem?_eq_getElem hm)
      have hdiv : j / F.sz * F.sz + j % F.sz = j := by rw [Nat.mul_comm]; exact Nat.div_add_mod _ _
      rw [hdiv, hu] at hf
      obtain ⟨cs, hrd, hcs⟩ := hcell _ _ hy
      obtain rfl : cs = F.enc ys[j / F.sz] := hrd
      have := hcs (j % F.sz) _ (List.getElem?_eq_getElem hm)
      rw [Addr.add_lit]
      rw [show o' + j / F.sz * (layOfFlat (α := α)).sz + j % F.sz = o' + j from by show o' + j / F.sz * F.sz + j % F.sz = _; omega] at this
      rw [this]
      exact hf.symm ▸ rfl
    · have := Nat.mul_le_mul (show xs.length + ys.length ≤ 4294967296 by omega) hby; omega
    · unfold Own; rw [List.length_append, List.flatMap_append]; exact h1
end

section
variable {α : Type} [F : Flat α] {P : Program} {ops : Array Oper} {rest : List Oper} {o : Oper} {a : Act} {Q : Exit → Act → World → Prop} {w : World}

theorem eraseIdx_cut {α : Type} (xs : List α) (i : Nat) : xs.take i ++ xs.drop (i + 1) = xs.eraseIdx i := by rw [List.eraseIdx_eq_take_drop_succ]

theorem Own.form {base : Nat} {e : TypeId} {v : Value} {xs : List α} (h : Own w base e v xs) (hn : 0 < xs.length) : ∃ g cap : Nat, v = .slice (some ⟨g, 0, none⟩) xs.length cap ∧ base ≤ g ∧ g < w.heap.size ∧ xs.length ≤ cap ∧ cap ≤ maxLen := by
  rcases h.2 with ⟨_, h0⟩ | ⟨g, cap, cur, hv, hg, h2, h3, h4, _⟩
  · omega
  · exact ⟨g, cap, hv, hg, (Array.getElem?_eq_some_iff.1 h2).1, h3, h4⟩

theorem Own.short {base g cap n : Nat} {e : TypeId} {xs : List α} (h : Own w base e (.slice (some ⟨g, 0, none⟩) n cap) xs) (k : Nat) (hk : k ≤ xs.length) : Own w base e (.slice (some ⟨g, 0, none⟩) k cap) (xs.take k) := by
  have hl : (xs.take k).length = k := by rw [List.length_take]; omega
  have hf : (xs.take k).flatMap F.enc = (xs.flatMap F.enc).take (k * F.sz) := by
    have h1 : xs.flatMap F.enc = (xs.take k).flatMap F.enc ++ (xs.drop k).flatMap F.enc := by rw [← List.flatMap_append, List.take_append_drop]
    have h2 : ((xs.take k).flatMap F.enc).length = k * F.sz := by rw [flat_len, hl]
    rw [h1, ← h2, List.take_left]
  rcases h.2 with ⟨hv, _⟩ | ⟨g', cap', cur, hv, h1, h2, h3, h4, h5, h6⟩
  · cases hv
  · injection hv with e1 e2 e3
    injection e1 with e1
    injection e1 with e1
    subst e1 e3
    refine ⟨by rw [flat_len], .inr ⟨g, cap, cur, by rw [hl], h1, h2, by omega, h4, h5, ?_⟩⟩
    rw [hl, hf, ← h6, List.take_take]
    congr 1
    have := Nat.mul_le_mul_right F.sz hk
    omega

/-- append(s[:i], s[i+1:]...), s the call's own: the element i goes, in place. -/
theorem wpList_cutout (hgd : o.guard = none) (s x : Operand) {t e : TypeId} (E : Elt P α t e)
    (ho : o.op = .call { callee := .builtin .append, args := #[s, x], argTypes := #[t, t] })
    (base g cap i m c : Nat) (xs : List α) (hown : Own w base e (.slice (some ⟨g, 0, none⟩) xs.length cap) xs) (hi : i < xs.length)
    (hs : a.eval s = .slice (some ⟨g, 0, none⟩) i cap) (A : Option Addr) (hx : a.eval x = .slice A m c) (hm : m = xs.length - (i + 1)) (hA : 0 < m → A = some ⟨g, (i + 1) * F.sz, none⟩) (hA0 : A ≠ none)
    (h : ∀ w', Own w' base e (.slice (some ⟨g, 0, none⟩) (xs.length - 1) cap) (xs.eraseIdx i) → w.grownBy w' (some g) → wpList P ops Q rest (a.put o.dst (.slice (some ⟨g, 0, none⟩) (xs.length - 1) cap)) w') : wpList P ops Q (o :: rest) a w := by
  obtain ⟨inf, z, hinf, hz, hsz, hby, hzs⟩ := E.hi
  obtain ⟨g', cap', hv, _, _, hnc, hcm⟩ := hown.form (by omega)
  injection hv with e1 e2 e3
  injection e1 with e1
  injection e1 with e1
  subst e1 e3 hm
  have hpre := hown.short i (by omega)
  have hl : (xs.take i).length = i := by rw [List.length_take]; omega
  unfold Own at hpre
  rw [hl] at hpre
  obtain ⟨ad, rfl⟩ : ∃ ad, A = some ad := by
    cases A with
    | none => exact absurd rfl hA0
    | some ad => exact ⟨ad, rfl⟩
  refine wpList_append_fits (P := P) w hgd s x t ho base e inf F.sz E.ht hinf hsz g i cap ((xs.take i).flatMap F.enc) hs hpre ad (xs.length - (i + 1)) c ((xs.drop (i + 1)).flatMap F.enc) hx (by rw [flat_len, List.length_drop]) ?_ (flat_one _) (by omega) ?_
  · intro j u hu
    have hj : j < ((xs.drop (i + 1)).flatMap F.enc).length := (List.getElem?_eq_some_iff.1 hu).1
    rw [flat_len, List.length_drop] at hj
    have h0 : 0 < xs.length - (i + 1) := Nat.pos_of_ne_zero fun e => by rw [e, Nat.zero_mul] at hj; omega
    have had := hA h0
    injection had with had
    subst had
    have hcell := World.ownsRow.cells hown (g := g) rfl ((i + 1) * F.sz + j) u ?_
    · rw [Addr.add_lit, Nat.zero_add] at hcell
      rw [Addr.add_lit]
      exact hcell
    · have h1 : xs.flatMap F.enc = (xs.take (i + 1)).flatMap F.enc ++ (xs.drop (i + 1)).flatMap F.enc := by rw [← List.flatMap_append, List.take_append_drop]
      have h2 : ((xs.take (i + 1)).flatMap F.enc).length = (i + 1) * F.sz := by rw [flat_len, List.length_take, Nat.min_eq_left (by omega)]
      rw [h1, List.getElem?_append_right (by rw [h2]; omega), h2, Nat.add_sub_cancel_left]
      exact hu
  · intro w' h1 h2
    rw [show i + (xs.length - (i + 1)) = xs.length - 1 from by omega] at h1 ⊢
    refine h w' ?_ h2
    unfold Own
    rw [← List.flatMap_append, eraseIdx_cut] at h1
    rw [List.length_eraseIdx, if_pos hi]
    exact h1

/-- clear(s[n:m]), s the call's own of length n: what lies behind its length is struck; s stays. -/
theorem wpList_clear (hgd : o.guard = none) (s : Operand) {t e : TypeId} (E : Elt P α t e) (hz1 : ∀ z : Value, (∃ i, P.info? e = some i ∧ i.zero = some z) → (zeroValue e).run P w = .ok z w ∧ ∀ u ∈ z.cells, u.oneCell' = true)
    (ho : o.op = .call { callee := .builtin .clear, args := #[s], argTypes := #[t] })
    (base g cap n m c : Nat) (xs : List α) (hown : Own w base e (.slice (some ⟨g, 0, none⟩) n cap) xs) (hn : n = xs.length) (hm : n + m ≤ cap)
    (A : Option Addr) (hs : a.eval s = .slice A m c) (hA : 0 < m → A = some ⟨g, n * F.sz, none⟩)
    (h : ∀ w', Own w' base e (.slice (some ⟨g, 0, none⟩) n cap) xs → w.grownBy w' (some g) → wpList P ops Q rest (a.put o.dst (.tuple #[])) w') : wpList P ops Q (o :: rest) a w := by
  obtain ⟨inf, z, hinf, hz, hsz, hby, hzs⟩ := E.hi
  obtain ⟨hzr, hz1⟩ := hz1 z ⟨inf, hinf, hz⟩
  subst hn
  have hrun : ∃ w', (Builtin.clear_ #[t] o.type #[.slice A m c]).run P w = .ok (.tuple #[]) w' ∧ Own w' base e (.slice (some ⟨g, 0, none⟩) xs.length cap) xs ∧ w.grownBy w' (some g) := by
    rcases Nat.eq_zero_or_pos m with rfl | hpos
    · refine ⟨w, ?_, hown, World.grownBy.refl _ _⟩
      cases A <;> simp [Builtin.clear_, run_underlying E.ht]
    · rcases hown.2 with ⟨hv, _⟩ | ⟨g', cap', cur, hv, h1, h2, h3, h4, h5, h6⟩
      · cases hv
      · injection hv with e1 e2 e3
        injection e1 with e1
        injection e1 with e1
        subst e1 e3
        rw [hA hpos]
        have hzl : (Builtin.zeroCells z.cells m).toList.length = m * F.sz := by simp [Builtin.zeroCells, hzs]
        have hfit : xs.length * F.sz + 0 + (Builtin.zeroCells z.cells m).toList.length ≤ cur.size := by rw [hzl, h5, Nat.add_zero, ← Nat.add_mul]; exact Nat.mul_le_mul_right _ hm
        have hone : ∀ u ∈ (Builtin.zeroCells z.cells m).toList, u.oneCell' = true := by
          intro u hu
          simp only [Builtin.zeroCells, Array.toList_map, List.mem_map] at hu
          obtain ⟨i, hi, rfl⟩ := hu
          have hlt : i % z.cells.size < z.cells.size := Nat.mod_lt _ (by rw [hzs]; exact F.pos)
          rw [getElem!_pos z.cells _ hlt]
          exact hz1 _ (Array.getElem_mem _)
        have hst := run_storeCells_at P g (xs.length * F.sz) e (Builtin.zeroCells z.cells m).toList 0 cur w h2 hfit hone
        simp only [Nat.add_zero] at hst
        refine ⟨w.setRow g (cur.toList.take (xs.length * F.sz) ++ (Builtin.zeroCells z.cells m).toList ++ cur.toList.drop (xs.length * F.sz + (Builtin.zeroCells z.cells m).toList.length)).toArray, ?_, ⟨hown.1, .inr ⟨g, cap, _, rfl, h1, setRow_heap w g cur _ e _ h2, h3, h4, ?_, ?_⟩⟩, ⟨rfl, rfl, rfl, by simp, fun k _ hk => setRow_other w g k _ (fun e => hk (by simp [e]))⟩⟩
        · obtain ⟨k, rfl⟩ : ∃ k, m = k + 1 := ⟨m - 1, by omega⟩
          simp [Builtin.clear_, run_underlying E.ht, hzr, hst]
        · have := hfit
          simp only [Nat.add_zero] at this
          simp only [List.size_toArray, List.length_append, List.length_take, List.length_drop, Array.length_toList] at this ⊢
          rw [← h5]
          omega
        · have hlen : (cur.toList.take (xs.length * F.sz)).length = xs.length * F.sz := by rw [h6, flat_len]
          have : (cur.toList.take (xs.length * F.sz) ++ (Builtin.zeroCells z.cells m).toList ++ cur.toList.drop (xs.length * F.sz + (Builtin.zeroCells z.cells m).toList.length)).take (xs.length * F.sz) = cur.toList.take (xs.length * F.sz) := by
            rw [List.append_assoc]
            exact List.take_left' hlen
          simpa using this.trans h6
  obtain ⟨w', hr, h1, h2⟩ := hrun
  refine wpList_plain hgd fun K hK => ?_
  unfold Oper.wp execOp
  simp only [ho, resolve, invoke, builtin, Sem.run_bind, Sem.run_pure, Result.andThen_ok, List.map_toArray, List.map_cons, List.map_nil, hs, hr]
  exact hK _ _ (h w' h1 h2)
end

theorem addr0 (b j : Nat) : (⟨b, 0, none⟩ : Addr).add j = ⟨b, j, none⟩ := by rw [Addr.add_lit]; simp

/-- Behind a call whose contract ends in 'Below': what 'Below' from a lower number gives. -/
theorem bup {B : Nat} {a w w' : World} (h : Below B a w) (hb : Below w.heap.size w w') (hB : B ≤ w.heap.size) : Below B a w' := h.trans (hb.mono hB)
theorem bdrewN {B : Nat} {a w : World} (h : Below B a w) (n : Nat) : Below B a (w.drewN n) := ⟨h.os, h.tape, h.output, h.size, h.block⟩
/-- A box that was laid at w's end, in a later world. -/
theorem boxAt {B i : Nat} {w w1 : World} {cs : Array Value} {t : TypeId} {v : Value} (hb : Below B (w.alloc (.cells cs t)) w1) (hB : w.heap.size < B) (hv : cs[i]? = some v) : w1.cell? ⟨w.heap.size, i, none⟩ = some v :=
  ((hb.cell (p := ⟨w.heap.size, i, none⟩) hB).trans (World.cell?_alloc_new w cs t i)).trans hv
theorem boxSize {B : Nat} {w w1 : World} {o : Obj} (hb : Below B (w.alloc o) w1) : w.heap.size + 1 ≤ w1.heap.size := by have := hb.size; simpa using this
theorem boxFree {B i : Nat} {w w1 : World} {cs : Array Value} {t : TypeId} (hb : Below B (w.alloc (.cells cs t)) w1) (hB : w.heap.size < B) : w1.frozen? ⟨w.heap.size, i, none⟩ = false :=
  (hb.frozen (p := ⟨w.heap.size, i, none⟩) hB).trans (by unfold World.frozen?; rw [heap_alloc_new]; simp)

theorem ret_bool {a b : Bool} (h : a = b) : Ending.returned (.bool a) = .returned (.bool b) := by rw [h]
theorem ret_int {k : IntKind} {a b : Int} (h : a = b) : Ending.returned (.int k a) = .returned (.int k b) := by rw [h]

/-- A block that is known whole. -/
def Blk (w : World) (g : Nat) (t : TypeId) (cs : Array Value) : Prop := w.heap[g]? = some (.cells cs t (0, 0))
section
variable {w w' : World} {g : Nat} {t : TypeId} {cs : Array Value}
theorem Blk.lt (h : Blk w g t cs) : g < w.heap.size := by
  rcases Nat.lt_or_ge g w.heap.size with hlt | hge
  · exact hlt
  · unfold Blk at h; rw [Array.getElem?_eq_none hge] at h; cases h
theorem Blk.cell (h : Blk w g t cs) (i : Nat) : w.cell? ⟨g, i, none⟩ = cs[i]? := cell_of_row w g i cs t (0, 0) h
theorem Blk.frozen (h : Blk w g t cs) (i : Nat) : w.frozen? ⟨g, i, none⟩ = false := by unfold Blk at h; simp [World.frozen?, h]
theorem Blk.new (w : World) (t : TypeId) (cs : Array Value) : Blk (w.alloc (.cells cs t)) w.heap.size t cs := heap_alloc_new w _
theorem Blk.drew (h : Blk w g t cs) : Blk w.drew g t cs := h
theorem Blk.drewN (h : Blk w g t cs) (n : Nat) : Blk (w.drewN n) g t cs := h
theorem Blk.alloc (h : Blk w g t cs) (o : Obj) : Blk (w.alloc o) g t cs := (Below.heap_alloc w o g h.lt).trans h
theorem Blk.set_ (h : Blk w g t cs) (i : Nat) (u : Value) : Blk (w.setCell ⟨g, i, none⟩ u) g t (cs.setIfInBounds i u) := by
  unfold Blk at h ⊢
  simp [World.setCell, Array.getElem?_modify, h]
theorem Blk.far (h : Blk w g t cs) {p : Addr} (hp : g ≠ p.block) (u : Value) : Blk (w.setCell p u) g t cs := (Below.heap_setCell w p u g hp).trans h
theorem Blk.below {B : Nat} (h : Blk w g t cs) (hb : Below B w w') (hg : g < B) : Blk w' g t cs := (hb.block g hg).trans h
theorem Blk.later (h : Blk w g t cs) (hb : Below w.heap.size w w') : Blk w' g t cs := h.below hb h.lt
theorem Blk.grown {row : Option Nat} (h : Blk w g t cs) (hb : w.grownBy w' row) (hg : some g ≠ row) : Blk w' g t cs := (hb.block g h.lt hg).trans h
end

/-- The worlds behind w in which no block of w has turned. -/
def ExtW (w : World) : Type := { w' : World // Below w.heap.size w w' }
theorem ext_self (w : World) : ∃ d : ExtW w, w = d.val := ⟨⟨w, Below.refl _ _⟩, rfl⟩
theorem ext_of {w w' : World} (h : Below w.heap.size w w') : ∃ d : ExtW w, w' = d.val := ⟨⟨w', h⟩, rfl⟩
theorem ext_cell {w : World} {p : Addr} {v : Value} (h : w.cell? p = some v) : ∀ d : ExtW w, d.val.cell? p = some v := fun d => (d.property.cell (World.block_lt_of_cell? w _ h)).trans h
theorem Calls.ext_of {P : Program} {f : FuncId} {args : Array Value} {w : World} {d : ExtW w} {v : Value}
    (h : Calls P f args d.val fun e w' => e = .returned v ∧ Below d.val.heap.size d.val w') : Calls P f args d.val fun e w'' => e = .returned v ∧ ∃ d' : ExtW w, w'' = d'.val :=
  h.mono fun _ w'' ⟨he, hb⟩ => ⟨he, ⟨⟨w'', d.property.trans (hb.mono d.property.size)⟩, rfl⟩⟩
theorem Calls.ext_same {P : Program} {f : FuncId} {args : Array Value} {w : World} {d : ExtW w} {v : Value}
    (h : Calls P f args d.val fun e w' => e = .returned v ∧ d.val = w') : Calls P f args d.val fun e w'' => e = .returned v ∧ ∃ d' : ExtW w, w'' = d'.val :=
  h.mono fun _ _ ⟨he, hb⟩ => ⟨he, ⟨d, hb.symm⟩⟩
theorem wp_region_ext {P : Program} {id : Nat} {Q : Exit → Act → World → Prop} {a : Act} {w : World} {l : List Oper} (hm : P.follows .mixedOrders = true) (hB : Region.lexB .any l.toArray = true)
    (h : wpQuiet P l.toArray (fun w' => ∃ d : ExtW w, w' = d.val) (fun a' => ∀ w', (∃ d : ExtW w, w' = d.val) → Q .normal a' w') l a) : (Code.region id l.toArray true).wp P Q a w :=
  wp_region_quiet (C := fun w' => ∃ d : ExtW w, w' = d.val) hm hB ⟨⟨w.drew, (Below.refl _ _).drew⟩, rfl⟩ (by simpa using h)

theorem al1 (w : World) (o0 : Obj) : (w.alloc o0).heap[w.heap.size]? = some o0 ∧ (w.alloc o0).heap.size = w.heap.size + 1 ∧ Below w.heap.size w (w.alloc o0) := by
  refine ⟨?_, ?_, ?_⟩
  · have h := heap_alloc_new w o0
    exact h
  · simp only [World.size_alloc]
  · exact ((Below.refl _ _).alloc (by first | omega | (simp only [World.size_alloc]; omega)) o0)
theorem al2 (w : World) (o0 o1 : Obj) : ((w.alloc o0).alloc o1).heap[w.heap.size]? = some o0 ∧ ((w.alloc o0).alloc o1).heap[w.heap.size + 1]? = some o1 ∧ ((w.alloc o0).alloc o1).heap.size = w.heap.size + 1 + 1 ∧ Below w.heap.size w ((w.alloc o0).alloc o1) := by
  refine ⟨?_, ?_, ?_, ?_⟩
  · have h := heap_alloc_new w o0
    have h := (heap_alloc_old (w.alloc o0) o1 (by simp only [World.size_alloc]; omega)).trans h
    exact h
  · have h := heap_alloc_new (w.alloc o0) o1
    simpa only [World.size_alloc] using h
  · simp only [World.size_alloc]
  · exact (((Below.refl _ _).alloc (by first | omega | (simp only [World.size_alloc]; omega)) o0).alloc (by first | omega | (simp only [World.size_alloc]; omega)) o1)
theorem al3 (w : World) (o0 o1 o2 : Obj) : (((w.alloc o0).alloc o1).alloc o2).heap[w.heap.size]? = some o0 ∧ (((w.alloc o0).alloc o1).alloc o2).heap[w.heap.size + 1]? = some o1 ∧ (((w.alloc o0).alloc o1).alloc o2).heap[w.heap.size + 1 + 1]? = some o2 ∧ (((w.alloc o0).alloc o1).alloc o2).heap.size = w.heap.size + 1 + 1 + 1 ∧ Below w.heap.size w (((w.alloc o0).alloc o1).alloc o2) := by
  refine ⟨?_, ?_, ?_, ?_, ?_⟩
  · have h := heap_alloc_new w o0
    have h := (heap_alloc_old (w.alloc o0) o1 (by simp only [World.size_alloc]; omega)).trans h
    have h := (heap_alloc_old ((w.alloc o0).alloc o1) o2 (by simp only [World.size_alloc]; omega)).trans h
    exact h
  · have h := heap_alloc_new (w.alloc o0) o1
    have h := (heap_alloc_old ((w.alloc o0).alloc o1) o2 (by simp only [World.size_alloc]; omega)).trans h
    simpa only [World.size_alloc] using h
  · have h := heap_alloc_new ((w.alloc o0).alloc o1) o2
    simpa only [World.size_alloc] using h
  · simp only [World.size_alloc]
  · exact ((((Below.refl _ _).alloc (by first | omega | (simp only [World.size_alloc]; omega)) o0).alloc (by first | omega | (simp only [World.size_alloc]; omega)) o1).alloc (by first | omega | (simp only [World.size_alloc]; omega)) o2)
theorem al4 (w : World) (o0 o1 o2 o3 : Obj) : ((((w.alloc o0).alloc o1).alloc o2).alloc o3).heap[w.heap.size]? = some o0 ∧ ((((w.alloc o0).alloc o1).alloc o2).alloc o3).heap[w.heap.size + 1]? = some o1 ∧ ((((w.alloc o0).alloc o1).alloc o2).alloc o3).heap[w.heap.size + 1 + 1]? = some o2 ∧ ((((w.alloc o0).alloc o1).alloc o2).alloc o3).heap[w.heap.size + 1 + 1 + 1]? = some o3 ∧ ((((w.alloc o0).alloc o1).alloc o2).alloc o3).heap.size = w.heap.size + 1 + 1 + 1 + 1 ∧ Below w.heap.size w ((((w.alloc o0).alloc o1).alloc o2).alloc o3) := by
  refine ⟨?_, ?_, ?_, ?_, ?_, ?_⟩
  · have h := heap_alloc_new w o0
    have h := (heap_alloc_old (w.alloc o0) o1 (by simp only [World.size_alloc]; omega)).trans h
    have h := (heap_alloc_old ((w.alloc o0).alloc o1) o2 (by simp only [World.size_alloc]; omega)).trans h
    have h := (heap_alloc_old (((w.alloc o0).alloc o1).alloc o2) o3 (by simp only [World.size_alloc]; omega)).trans h
    exact h
  · have h := heap_alloc_new (w.alloc o0) o1
    have h := (heap_alloc_old ((w.alloc o0).alloc o1) o2 (by simp only [World.size_alloc]; omega)).trans h
    have h := (heap_alloc_old (((w.alloc o0).alloc o1).alloc o2) o3 (by simp only [World.size_alloc]; omega)).trans h
    simpa only [World.size_alloc] using h
  · have h := heap_alloc_new ((w.alloc o0).alloc o1) o2
    have h := (heap_alloc_old (((w.alloc o0).alloc o1).alloc o2) o3 (by simp only [World.size_alloc]; omega)).trans h
    simpa only [World.size_alloc] using h
  · have h := heap_alloc_new (((w.alloc o0).alloc o1).alloc o2) o3
    simpa only [World.size_alloc] using h
  · simp only [World.size_alloc]
  · exact (((((Below.refl _ _).alloc (by first | omega | (simp only [World.size_alloc]; omega)) o0).alloc (by first | omega | (simp only [World.size_alloc]; omega)) o1).alloc (by first | omega | (simp only [World.size_alloc]; omega)) o2).alloc (by first | omega | (simp only [World.size_alloc]; omega)) o3)
theorem al5 (w : World) (o0 o1 o2 o3 o4 : Obj) : (((((w.alloc o0).alloc o1).alloc o2).alloc o3).alloc o4).heap[w.heap.size]? = some o0 ∧ (((((w.alloc o0).alloc o1).alloc o2).alloc o3).alloc o4).heap[w.heap.size + 1]? = some o1 ∧ (((((w.alloc o0).alloc o1).alloc o2).alloc o3).alloc o4).heap[w.heap.size + 1 + 1]? = some o2 ∧ (((((w.alloc o0).alloc o1).alloc o2).alloc o3).alloc o4).heap[w.heap.size + 1 + 1 + 1]? = some o3 ∧ (((((w.alloc o0).alloc o1).alloc o2).alloc o3).alloc o4).heap[w.heap.size + 1 + 1 + 1 + 1]? = some o4 ∧ (((((w.alloc o0).alloc o1).alloc o2).alloc o3).alloc o4).heap.size = w.heap.size + 1 + 1 + 1 + 1 + 1 ∧ Below w.heap.size w (((((w.alloc o0).alloc o1).alloc o2).alloc o3).alloc o4) := by
  refine ⟨?_, ?_, ?_, ?_, ?_, ?_, ?_⟩
  · have h := heap_alloc_new w o0
    have h := (heap_alloc_old (w.alloc o0) o1 (by simp only [World.size_alloc]; omega)).trans h
    have h := (heap_alloc_old ((w.alloc o0).alloc o1) o2 (by simp only [World.size_alloc]; omega)).trans h
    have h := (heap_alloc_old (((w.alloc o0).alloc o1).alloc o2) o3 (by simp only [World.size_alloc]; omega)).trans h
    have h := (heap_alloc_old ((((w.alloc o0).alloc o1).alloc o2).alloc o3) o4 (by simp only [World.size_alloc]; omega)).trans h
    exact h
  · have h := heap_alloc_new (w.alloc o0) o1
    have h := (heap_alloc_old ((w.alloc o0).alloc o1) o2 (by simp only [World.size_alloc]; omega)).trans h
    have h := (heap_alloc_old (((w.alloc o0).alloc o1).alloc o2) o3 (by simp only [World.size_alloc]; omega)).trans h
    have h := (heap_alloc_old ((((w.alloc o0).alloc o1).alloc o2).alloc o3) o4 (by simp only [World.size_alloc]; omega)).trans h
    simpa only [World.size_alloc] using h
  · have h := heap_alloc_new ((w.alloc o0).alloc o1) o2
    have h := (heap_alloc_old (((w.alloc o0).alloc o1).alloc o2) o3 (by simp only [World.size_alloc]; omega)).trans h
    have h := (heap_alloc_old ((((w.alloc o0).alloc o1).alloc o2).alloc o3) o4 (by simp only [World.size_alloc]; omega)).trans h
    simpa only [World.size_alloc] using h
  · have h := heap_alloc_new (((w.alloc o0).alloc o1).alloc o2) o3
    have h := (heap_alloc_old ((((w.alloc o0).alloc o1).alloc o2).alloc o3) o4 (by simp only [World.size_alloc]; omega)).trans h
    simpa only [World.size_alloc] using h
  · have h := heap_alloc_new ((((w.alloc o0).alloc o1).alloc o2).alloc o3) o4
    simpa only [World.size_alloc] using h
  · simp only [World.size_alloc]
  · exact ((((((Below.refl _ _).alloc (by first | omega | (simp only [World.size_alloc]; omega)) o0).alloc (by first | omega | (simp only [World.size_alloc]; omega)) o1).alloc (by first | omega | (simp only [World.size_alloc]; omega)) o2).alloc (by first | omega | (simp only [World.size_alloc]; omega)) o3).alloc (by first | omega | (simp only [World.size_alloc]; omega)) o4)
theorem al6 (w : World) (o0 o1 o2 o3 o4 o5 : Obj) : ((((((w.alloc o0).alloc o1).alloc o2).alloc o3).alloc o4).alloc o5).heap[w.heap.size]? = some o0 ∧ ((((((w.alloc o0).alloc o1).alloc o2).alloc o3).alloc o4).alloc o5).heap[w.heap.size + 1]? = some o1 ∧ ((((((w.alloc o0).alloc o1).alloc o2).alloc o3).alloc o4).alloc o5).heap[w.heap.size + 1 + 1]? = some o2 ∧ ((((((w.alloc o0).alloc o1).alloc o2).alloc o3).alloc o4).alloc o5).heap[w.heap.size + 1 + 1 + 1]? = some o3 ∧ ((((((w.alloc o0).alloc o1).alloc o2).alloc o3).alloc o4).alloc o5).heap[w.heap.size + 1 + 1 + 1 + 1]? = some o4 ∧ ((((((w.alloc o0).alloc o1).alloc o2).alloc o3).alloc o4).alloc o5).heap[w.heap.size + 1 + 1 + 1 + 1 + 1]? = some o5 ∧ ((((((w.alloc o0).alloc o1).alloc o2).alloc o3).alloc o4).alloc o5).heap.size = w.heap.size + 1 + 1 + 1 + 1 + 1 + 1 ∧ Below w.heap.size w ((((((w.alloc o0).alloc o1).alloc o2).alloc o3).alloc o4).alloc o5) := by
  refine ⟨?_, ?_, ?_, ?_, ?_, ?_, ?_, ?_⟩
  · have h := heap_alloc_new w o0
    have h := (heap_alloc_old (w.alloc o0) o1 (by simp only [World.size_alloc]; omega)).trans h
    have h := (heap_alloc_old ((w.alloc o0).alloc o1) o2 (by simp only [World.size_alloc]; omega)).trans h
    have h := (heap_alloc_old (((w.alloc o0).alloc o1).alloc o2) o3 (by simp only [World.size_alloc]; omega)).trans h
    have h := (heap_alloc_old ((((w.alloc o0).alloc o1).alloc o2).alloc o3) o4 (by simp only [World.size_alloc]; omega)).trans h
    have h := (heap_alloc_old (((((w.alloc o0).alloc o1).alloc o2).alloc o3).alloc o4) o5 (by simp only [World.size_alloc]; omega)).trans h
    exact h
  · have h := heap_alloc_new (w.alloc o0) o1
    have h := (heap_alloc_old ((w.alloc o0).alloc o1) o2 (by simp only [World.size_alloc]; omega)).trans h
    have h := (heap_alloc_old (((w.alloc o0).alloc o1).alloc o2) o3 (by simp only [World.size_alloc]; omega)).trans h
    have h := (heap_alloc_old ((((w.alloc o0).alloc o1).alloc o2).alloc o3) o4 (by simp only [World.size_alloc]; omega)).trans h
    have h := (heap_alloc_old (((((w.alloc o0).alloc o1).alloc o2).alloc o3).alloc o4) o5 (by simp only [World.size_alloc]; omega)).trans h
    simpa only [World.size_alloc] using h
  · have h := heap_alloc_new ((w.alloc o0).alloc o1) o2
    have h := (heap_alloc_old (((w.alloc o0).alloc o1).alloc o2) o3 (by simp only [World.size_alloc]; omega)).trans h
    have h := (heap_alloc_old ((((w.alloc o0).alloc o1).alloc o2).alloc o3) o4 (by simp only [World.size_alloc]; omega)).trans h
    have h := (heap_alloc_old (((((w.alloc o0).alloc o1).alloc o2).alloc o3).alloc o4) o5 (by simp only [World.size_alloc]; omega)).trans h
    simpa only [World.size_alloc] using h
  · have h := heap_alloc_new (((w.alloc o0).alloc o1).alloc o2) o3
    have h := (heap_alloc_old ((((w.alloc o0).alloc o1).alloc o2).alloc o3) o4 (by simp only [World.size_alloc]; omega)).trans h
    have h := (heap_alloc_old (((((w.alloc o0).alloc o1).alloc o2).alloc o3).alloc o4) o5 (by simp only [World.size_alloc]; omega)).trans h
    simpa only [World.size_alloc] using h
  · have h := heap_alloc_new ((((w.alloc o0).alloc o1).alloc o2).alloc o3) o4
    have h := (heap_alloc_old (((((w.alloc o0).alloc o1).alloc o2).alloc o3).alloc o4) o5 (by simp only [World.size_alloc]; omega)).trans h
    simpa only [World.size_alloc] using h
  · have h := heap_alloc_new (((((w.alloc o0).alloc o1).alloc o2).alloc o3).alloc o4) o5
    simpa only [World.size_alloc] using h
  · simp only [World.size_alloc]
  · exact (((((((Below.refl _ _).alloc (by first | omega | (simp only [World.size_alloc]; omega)) o0).alloc (by first | omega | (simp only [World.size_alloc]; omega)) o1).alloc (by first | omega | (simp only [World.size_alloc]; omega)) o2).alloc (by first | omega | (simp only [World.size_alloc]; omega)) o3).alloc (by first | omega | (simp only [World.size_alloc]; omega)) o4).alloc (by first | omega | (simp only [World.size_alloc]; omega)) o5)
theorem al7 (w : World) (o0 o1 o2 o3 o4 o5 o6 : Obj) : (((((((w.alloc o0).alloc o1).alloc o2).alloc o3).alloc o4).alloc o5).alloc o6).heap[w.heap.size]? = some o0 ∧ (((((((w.alloc o0).alloc o1).alloc o2).alloc o3).alloc o4).alloc o5).alloc o6).heap[w.heap.size + 1]? = some o1 ∧ (((((((w.alloc o0).alloc o1).alloc o2).alloc o3).alloc o4).alloc o5).alloc o6).heap[w.heap.size + 1 + 1]? = some o2 ∧ (((((((w.alloc o0).alloc o1).alloc o2).alloc o3).alloc o4).alloc o5).alloc o6).heap[w.heap.size + 1 + 1 + 1]? = some o3 ∧ (((((((w.alloc o0).alloc o1).alloc o2).alloc o3).alloc o4).alloc o5).alloc o6).heap[w.heap.size + 1 + 1 + 1 + 1]? = some o4 ∧ (((((((w.alloc o0).alloc o1).alloc o2).alloc o3).alloc o4).alloc o5).alloc o6).heap[w.heap.size + 1 + 1 + 1 + 1 + 1]? = some o5 ∧ (((((((w.alloc o0).alloc o1).alloc o2).alloc o3).alloc o4).alloc o5).alloc o6).heap[w.heap.size + 1 + 1 + 1 + 1 + 1 + 1]? = some o6 ∧ (((((((w.alloc o0).alloc o1).alloc o2).alloc o3).alloc o4).alloc o5).alloc o6).heap.size = w.heap.size + 1 + 1 + 1 + 1 + 1 + 1 + 1 ∧ Below w.heap.size w (((((((w.alloc o0).alloc o1).alloc o2).alloc o3).alloc o4).alloc o5).alloc o6) := by
  refine ⟨?_, ?_, ?_, ?_, ?_, ?_, ?_, ?_, ?_⟩
  · have h := heap_alloc_new w o0
    have h := (heap_alloc_old (w.alloc o0) o1 (by simp only [World.size_alloc]; omega)).trans h
    have h := (heap_alloc_old ((w.alloc o0).alloc o1) o2 (by simp only [World.size_alloc]; omega)).trans h
    have h := (heap_alloc_old (((w.alloc o0).alloc o1).alloc o2) o3 (by simp only [World.size_alloc]; omega)).trans h
    have h := (heap_alloc_old ((((w.alloc o0).alloc o1).alloc o2).alloc o3) o4 (by simp only [World.size_alloc]; omega)).trans h
    have h := (heap_alloc_old (((((w.alloc o0).alloc o1).alloc o2).alloc o3).alloc o4) o5 (by simp only [World.size_alloc]; omega)).trans h
    have h := (heap_alloc_old ((((((w.alloc o0).alloc o1).alloc o2).alloc o3).alloc o4).alloc o5) o6 (by simp only [World.size_alloc]; omega)).trans h
    exact h
  · have h := heap_alloc_new (w.alloc o0) o1
    have h := (heap_alloc_old ((w.alloc o0).alloc o1) o2 (by simp only [World.size_alloc]; omega)).trans h
    have h := (heap_alloc_old (((w.alloc o0).alloc o1).alloc o2) o3 (by simp only [World.size_alloc]; omega)).trans h
    have h := (heap_alloc_old ((((w.alloc o0).alloc o1).alloc o2).alloc o3) o4 (by simp only [World.size_alloc]; omega)).trans h
    have h := (heap_alloc_old (((((w.alloc o0).alloc o1).alloc o2).alloc o3).alloc o4) o5 (by simp only [World.size_alloc]; omega)).trans h
    have h := (heap_alloc_old ((((((w.alloc o0).alloc o1).alloc o2).alloc o3).alloc o4).alloc o5) o6 (by simp only [World.size_alloc]; omega)).trans h
    simpa only [World.size_alloc] using h
  · have h := heap_alloc_new ((w.alloc o0).alloc o1) o2
    have h := (heap_alloc_old (((w.alloc o0).alloc o1).alloc o2) o3 (by simp only [World.size_alloc]; omega)).trans h
    have h := (heap_alloc_old ((((w.alloc o0).alloc o1).alloc o2).alloc o3) o4 (by simp only [World.size_alloc]; omega)).trans h
    have h := (heap_alloc_old (((((w.alloc o0).alloc o1).alloc o2).alloc o3).alloc o4) o5 (by simp only [World.size_alloc]; omega)).trans h
    have h := (heap_alloc_old ((((((w.alloc o0).alloc o1).alloc o2).alloc o3).alloc o4).alloc o5) o6 (by simp only [World.size_alloc]; omega)).trans h
    simpa only [World.size_alloc] using h
  · have h := heap_alloc_new (((w.alloc o0).alloc o1).alloc o2) o3
    have h := (heap_alloc_old ((((w.alloc o0).alloc o1).alloc o2).alloc o3) o4 (by simp only [World.size_alloc]; omega)).trans h
    have h := (heap_alloc_old (((((w.alloc o0).alloc o1).alloc o2).alloc o3).alloc o4) o5 (by simp only [World.size_alloc]; omega)).trans h
    have h := (heap_alloc_old ((((((w.alloc o0).alloc o1).alloc o2).alloc o3).alloc o4).alloc o5) o6 (by simp only [World.size_alloc]; omega)).trans h
    simpa only [World.size_alloc] using h
  · have h := heap_alloc_new ((((w.alloc o0).alloc o1).alloc o2).alloc o3) o4
    have h := (heap_alloc_old (((((w.alloc o0).alloc o1).alloc o2).alloc o3).alloc o4) o5 (by simp only [World.size_alloc]; omega)).trans h
    have h := (heap_alloc_old ((((((w.alloc o0).alloc o1).alloc o2).alloc o3).alloc o4).alloc o5) o6 (by simp only [World.size_alloc]; omega)).trans h
    simpa only [World.size_alloc] using h
  · have h := heap_alloc_new (((((w.alloc o0).alloc o1).alloc o2).alloc o3).alloc o4) o5
    have h := (heap_alloc_old ((((((w.alloc o0).alloc o1).alloc o2).alloc o3).alloc o4).alloc o5) o6 (by simp only [World.size_alloc]; omega)).trans h
    simpa only [World.size_alloc] using h
  · have h := heap_alloc_new ((((((w.alloc o0).alloc o1).alloc o2).alloc o3).alloc o4).alloc o5) o6
    simpa only [World.size_alloc] using h
  · simp only [World.size_alloc]
  · exact ((((((((Below.refl _ _).alloc (by first | omega | (simp only [World.size_alloc]; omega)) o0).alloc (by first | omega | (simp only [World.size_alloc]; omega)) o1).alloc (by first | omega | (simp only [World.size_alloc]; omega)) o2).alloc (by first | omega | (simp only [World.size_alloc]; omega)) o3).alloc (by first | omega | (simp only [World.size_alloc]; omega)) o4).alloc (by first | omega | (simp only [World.size_alloc]; omega)) o5).alloc (by first | omega | (simp only [World.size_alloc]; omega)) o6)

end Go.Proofs.Ytplooifpgmlofaa
