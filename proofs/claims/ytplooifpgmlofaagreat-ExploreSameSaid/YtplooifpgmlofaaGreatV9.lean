/- A row of the call's own grows: append, its sources; the rows that are made. No condition. -/
import Derived.Test.YtplooifpgmlofaaGreatV8
namespace Go.Proofs.YtplooifpgmlofaaGreat
open Go.RowKit

section
variable {P : Program} {tb : Tab} {B : Base} {m m' : Map} {S S' : Cells} {σ : Sta} {a : Act} {w w' : World} {mem mem' : Mem}

theorem All2.of_index {α β : Type} {R : α → β → Prop} : ∀ {as : List α} {bs : List β}, as.length = bs.length → (∀ (i : Nat) x y, as[i]? = some x → bs[i]? = some y → R x y) → All2 R as bs
 | [], [], _, _ => trivial
 | x :: as, y :: bs, hl, h => ⟨h 0 x y rfl rfl, All2.of_index (by simpa using hl) fun i x y hx hy => h (i + 1) x y (by simpa using hx) (by simpa using hy)⟩
 | [], _ :: _, hl, _ => by simp at hl
 | _ :: _, [], hl, _ => by simp at hl
theorem flatten_at (sz : Nat) {xs : List (List D)} (h : ∀ x ∈ xs, x.length = sz) {q : Nat} (hq : q < xs.length * sz) : ∃ x p, xs[q / sz]? = some x ∧ x[q % sz]? = some p ∧ xs.flatten[q]? = some p ∧ q / sz < xs.length ∧ q % sz < sz := by
 have h0 : 0 < sz := Nat.pos_of_ne_zero fun e => by subst e; simp at hq
 have hi : q / sz < xs.length := (Nat.div_lt_iff_lt_mul h0).2 hq
 have hj : q % sz < sz := Nat.mod_lt _ h0
 have hx : xs[q / sz]? = some xs[q / sz] := List.getElem?_eq_getElem hi
 have hl := h _ (List.getElem_mem hi)
 obtain ⟨p, hp⟩ : ∃ p, xs[q / sz][q % sz]? = some p := ⟨_, List.getElem?_eq_getElem (show q % sz < xs[q / sz].length by omega)⟩
 refine ⟨_, _, hx, hp, ?_, hi, hj⟩
 have hf := flatten_get sz xs h _ hi
 rw [List.getD_eq_getElem?_getD, hx, Option.getD_some] at hf
 rw [← hf, List.getElem?_take, if_pos hj, List.getElem?_drop, Nat.mul_comm, Nat.div_add_mod] at hp
 exact hp
theorem flatten_take (sz : Nat) : ∀ (xs : List (List D)), (∀ x ∈ xs, x.length = sz) → ∀ n, n ≤ xs.length → (xs.take n).flatten = xs.flatten.take (n * sz)
 | _, _, 0, _ => by simp
 | [], _, n + 1, hn => by simp at hn
 | x :: xs, h, n + 1, hn => by
  have hx := h x (by simp)
  rw [List.take_succ_cons, List.flatten_cons, List.flatten_cons, flatten_take sz xs (fun y hy => h y (by simp [hy])) n (by simpa using hn), show (n + 1) * sz = x.length + n * sz from by rw [hx, Nat.add_mul]; omega, List.take_append]
  rw [List.take_of_length_le (l := x) (by omega), Nat.add_sub_cancel_left]

theorem flatten_drop (sz : Nat) : ∀ (xs : List (List D)), (∀ x ∈ xs, x.length = sz) → ∀ n, (xs.drop n).flatten = xs.flatten.drop (n * sz)
 | _, _, 0 => by simp
 | [], _, n + 1 => by simp
 | x :: xs, h, n + 1 => by
  have hx := h x (by simp)
  rw [List.drop_succ_cons, List.flatten_cons, flatten_drop sz xs (fun y hy => h y (by simp [hy])) n, show (n + 1) * sz = x.length + n * sz from by rw [hx, Nat.add_mul]; omega, List.drop_append]
  rw [List.drop_of_length_le (l := x) (by omega), Nat.add_sub_cancel_left, List.nil_append]
def srcOf (sz : Nat) (mem : Mem) : PV → Option (Prop × List (List D))
 | .d (.sl sz' ys) => if sz' = sz then some (True, ys) else none
 | .rw k n => match look k mem with
  | some (.row _ sz' ys _) => if sz' = sz then some (n ≤ ys.length, ys.take n) else none
  | _ => none
 | .rs k sz2 off n _ => match look k mem with
  | some (.row _ sz' ys _) => if sz' = sz ∧ sz2 = sz then some (off + n ≤ ys.length, (ys.drop off).take n) else none
  | _ => none
 | .d (.v (.slice none 0 0)) => some (True, [])
 | _ => none
theorem src_ok (h : Sim B m S σ a w) {sz : Nat} {p : PV} {c : Prop} {ys : List (List D)} (hs : srcOf sz σ.mem p = some (c, ys)) (hc : c) {v : Value} (hv : Rep m w S v p) :
  ∃ A cp, v = .slice A ys.length cp ∧ (∀ x ∈ ys, x.length = sz) ∧ ((A = none ∧ ys = []) ∨ ∃ (ad : Addr) (news : List Value), A = some ad ∧ All2 (RepD w S) news ys.flatten ∧ (∀ u ∈ news, u.oneCell' = true) ∧ ∀ (j : Nat) (u : Value), news[j]? = some u → w.cell? (ad.add j) = some u) := by
 unfold srcOf at hs
 split at hs
 ·rename_i sz' ys'
  split at hs
  ·rename_i e
   subst e
   cases hs
   have hv : RepD w S v (.sl sz' ys) := hv
   cases hv with
   | sl A n cp sz' ys u hn hlen hmax hnil hsz hrow hat hone hrep =>
    subst hn
    refine ⟨A, cp, rfl, hrow, ?_⟩
    rcases Nat.eq_zero_or_pos ys.length with h0 | h0
    ·have : ys = [] := List.eq_nil_of_length_eq_zero h0
     subst this
     cases A with
     | none => exact .inl ⟨rfl, rfl⟩
     | some ad => exact .inr ⟨ad, [], rfl, trivial, (fun _ h => by cases h), fun _ _ h => by simp at h⟩
    ·obtain ⟨b, o, rfl, hcell⟩ := hat h0
     have hfl := flatten_len sz' ys hrow
     have hg : ∀ q, q < ys.length * sz' → ((List.range (ys.length * sz')).map fun q => u (q / sz') (q % sz'))[q]? = some (u (q / sz') (q % sz')) := fun q hq => by
      rw [List.getElem?_map, List.getElem?_range hq]; rfl
     refine .inr ⟨_, (List.range (ys.length * sz')).map fun q => u (q / sz') (q % sz'), rfl, All2.of_index (by rw [List.length_map, List.length_range, hfl]) fun q x y hx hy => ?_, fun x hx => ?_, fun q x hx => ?_⟩
     ·have hq : q < ys.length * sz' := by rw [← hfl]; exact (List.getElem?_eq_some_iff.1 hy).1
      rw [hg q hq] at hx
      cases hx
      obtain ⟨x', p', h1, h2, h3, _, _⟩ := flatten_at sz' hrow hq
      rw [h3] at hy; cases hy
      exact hrep _ _ _ _ h1 h2
     ·obtain ⟨q, hq, rfl⟩ := List.mem_map.1 hx
      obtain ⟨_, _, _, _, _, g1, g2⟩ := flatten_at sz' hrow (List.mem_range.1 hq)
      exact hone _ _ g1 g2
     ·have hq : q < ys.length * sz' := by have := (List.getElem?_eq_some_iff.1 hx).1; simpa using this
      rw [hg q hq] at hx
      cases hx
      obtain ⟨_, _, _, _, _, g1, g2⟩ := flatten_at sz' hrow hq
      have := (hcell _ _ g1 g2).2
      rw [Addr.add_lit]
      rw [show o + q / sz' * sz' + q % sz' = o + q from by rw [Nat.add_assoc, Nat.mul_comm, Nat.div_add_mod]] at this
      exact this
  ·cases hs
 ·rename_i k n
  split at hs
  ·rename_i t sz' ys' l hk
   split at hs
   ·rename_i e
    subst e
    cases hs
    obtain ⟨h0, h1, lc, h2, h3⟩ := h.objs _ _ hk
    obtain ⟨lc', g1, g2⟩ := hv
    rw [h2] at g1; cases g1
    have hl : (ys'.take n).length = n := by rw [List.length_take]; omega
    rcases g2 with ⟨_, rfl, rfl⟩ | ⟨b, gb, rfl, gc⟩
    ·exact ⟨none, 0, by simp, fun x hx => by simp at hx, .inl ⟨rfl, by simp⟩⟩
    ·rcases h3 with ⟨h3, _⟩ | ⟨b', arr, us, e, h4, h5, h6, h7, h8, h9, h10, h11, h12⟩
     ·rw [gb] at h3; cases h3
     rw [gb] at e; cases e
     refine ⟨_, lc.cap, by rw [hl], fun x hx => h1 x (List.mem_of_mem_take hx), .inr ⟨_, us.take (n * sz'), rfl, ?_, fun u hu => h9 u (List.mem_of_mem_take hu), fun j u hu => ?_⟩⟩
     ·rw [flatten_take sz' ys' h1 n hc]; exact h8.take _
     ·rw [Addr.add_lit, Nat.zero_add]
      rw [List.getElem?_take] at hu
      split at hu
      ·simp only [World.cell?, h4]; simpa using h10 _ _ hu
      ·cases hu
   ·cases hs
  ·cases hs
 ·rename_i k sz2 off n fl
  split at hs
  ·rename_i t sz' ys' l hk
   split at hs
   ·rename_i e
    obtain ⟨rfl, rfl⟩ := e
    cases hs
    obtain ⟨h0, h1, lc, h2, h3⟩ := h.objs _ _ hk
    obtain ⟨lc', g1, g2⟩ := hv
    rw [h2] at g1; cases g1
    have hl : ((ys'.drop off).take n).length = n := by rw [List.length_take, List.length_drop]; omega
    have hd : ∀ x ∈ ys'.drop off, x.length = sz2 := fun x hx => h1 x (List.mem_of_mem_drop hx)
    rcases g2 with ⟨_, rfl, rfl, _⟩ | ⟨b, ad, cp, gb, rfl, gc, gd, ge, _⟩
    ·exact ⟨none, 0, by simp, fun x hx => by simp at hx, .inl ⟨rfl, by simp⟩⟩
    ·rcases h3 with ⟨h3, _⟩ | ⟨b', arr, us, e, h4, h5, h6, h7, h8, h9, h10, h11, h12⟩
     ·rw [gb] at h3; cases h3
     rw [gb] at e; cases e
     have hfd : (ys'.drop off).flatten = ys'.flatten.drop (off * sz2) := flatten_drop sz2 ys' h1 off
     refine ⟨_, cp, by rw [hl], fun x hx => hd x (List.mem_of_mem_take hx), .inr ⟨_, (us.drop (off * sz2)).take (n * sz2), rfl, ?_, fun u hu => h9 u (List.mem_of_mem_drop (List.mem_of_mem_take hu)), fun j u hu => ?_⟩⟩
     ·rw [flatten_take sz2 _ hd n (by rw [List.length_drop]; omega), hfd]; exact (h8.drop _).take _
     ·rw [List.getElem?_take] at hu
      split at hu
      ·rename_i hj
       have hn : 0 < n := by
        rcases Nat.eq_zero_or_pos n with hn | hn
        ·rw [hn] at hj; omega
        ·exact hn
       rw [ge (by omega), Addr.add_lit]
       rw [List.getElem?_drop] at hu
       simp only [World.cell?, h4]; simpa using h10 _ _ hu
      ·cases hu
   ·cases hs
  ·cases hs
 ·cases hs
  have hv : RepD w S v (.v (.slice none 0 0)) := hv
  cases hv
  exact ⟨none, 0, rfl, fun x hx => by simp at hx, .inl ⟨rfl, rfl⟩⟩
 ·cases hs

def eraseP (k : Nat) (p : PV) : PV := if k ∈ p.keys then .any else p
def eraseS (k : Nat) : Slots → Slots
 | [] => []
 | (i, p) :: r => (i, eraseP k p) :: eraseS k r
def eraseO (k : Nat) : MObj → MObj
 | .box t cells => .box t (cells.map (eraseP k))
 | .nest t sz xs pr cs foc => .nest t sz xs pr cs (focMap (eraseP k) foc)
 | o => o
def eraseM (k : Nat) : Mem → Mem
 | [] => []
 | (i, o) :: r => (i, eraseO k o) :: eraseM k r
theorem look_eraseS {k i : Nat} : ∀ {l : Slots}, look i (eraseS k l) = (look i l).map (eraseP k)
 | [] => rfl
 | (j, p) :: r => by
  unfold eraseS look
  split
  ·rfl
  ·exact look_eraseS
theorem look_eraseM {k i : Nat} : ∀ {l : Mem}, look i (eraseM k l) = (look i l).map (eraseO k)
 | [] => rfl
 | (j, p) :: r => by
  unfold eraseM look
  split
  ·rfl
  ·exact look_eraseM
theorem keys_of0 {p : PV} {k : Nat} (h : k ∈ p.keys0) : k ∈ p.keys := by cases p <;> first | exact h | (cases h; done)
theorem keys_of1 {p : PV} {k : Nat} (h : k ∈ p.keys1) : k ∈ p.keys := by cases p <;> first | exact h | (cases h; done)

theorem Sim.redo (h : Sim B m S σ a w) {k : Nat} {o0 o' : MObj} {l' : Loc} (hkk : k < 1000000 ∨ (k < 2000000 ∧ (look (k + 3000000) σ.mem).isSome = true)) (hk : look k σ.mem = some o0) (hno : isNest o0 = false) (hlk : ∃ l, m k = some l) (hg : Grow (fun b => ∃ c, m k = some ⟨some b, c⟩) w w')
  (hl : ∀ b, l'.blk = some b → (∃ c, m k = some ⟨some b, c⟩) ∨ w.heap.size ≤ b) (hS : ∀ b o, S b o → S' b o) (hc : ∀ b o, S b o → w'.cell? ⟨b, o, none⟩ = w.cell? ⟨b, o, none⟩) (hnew : ∀ b o, S' b o → S b o ∨ (l'.blk = some b ∧ k < 1000000))
  (hin : ∀ b o, S' b o → b < w'.heap.size) (ho : ObjOk (upd m k l') w' S' k o') : Sim B (upd m k l') S' { σ with slots := eraseS k σ.slots, mem := (k, o') :: eraseM k σ.mem } a w' := by
 have hm : ∀ j, j ≠ k → ∀ l, m j = some l → upd m k l' j = some l := fun j hj l h => by rw [upd_at, if_neg hj]; exact h
 have hns : ∀ i c, m.sub k i c = none := h.toMemOk.noSub hk hno
 have hhas : ∀ {j b}, (upd m k l').has j b → (j = k ∧ l'.blk = some b) ∨ (j ≠ k ∧ m.has j b) := fun {j b} hj => by
  rcases hj with ⟨c, hj⟩ | ⟨i, c, hj⟩
  ·rw [upd_at] at hj
   split at hj
   ·rename_i e; cases hj; exact .inl ⟨e, rfl⟩
   ·rename_i e; exact .inr ⟨e, .inl ⟨c, hj⟩⟩
  ·refine .inr ⟨?_, .inr ⟨i, c, hj⟩⟩
   rintro rfl
   rw [show (upd m j l').sub j i c = m.sub j i c from rfl, hns] at hj
   cases hj
 have hrep : ∀ {v p}, Rep m w S v p → Rep (upd m k l') w' S' v (eraseP k p) := fun {v p} hr => by
  unfold eraseP
  split
  ·trivial
  ·rename_i hn
   exact hr.keep hS hc fun j hj => hm j fun e => hn (e ▸ hj)
 have hrep1 : ∀ {v p}, Rep1 m w S v p → Rep1 (upd m k l') w' S' v (eraseP k p) := fun {v p} hr => by
  unfold eraseP
  split
  ·trivial
  ·rename_i hn
   exact Rep1.keep hS hc (fun j hj => hm j fun e => hn (e ▸ keys_of1 hj)) hr
 have hbk : ∀ b, l'.blk = some b → B.w.heap.size ≤ b ∨ (B.T b ∧ 1000000 ≤ k ∧ k < 2000000) := fun b hb => by
  rcases hl b hb with ⟨c, h1⟩ | h1
  ·exact h.fresh k b c h1
  ·have := h.grow.size; omega
 refine { dom := fun j l hj => ?_, objs := fun j q hq => ?_, subs := fun j i c b hj => ?_, subx := fun j h1 h2 i c b hj => h.subx j h1 h2 i c b hj, parts := fun j j' b hj hj' => ?_, young := fun j b hj => ?_, grow := ?_, sold := fun b o hs => hS b o (h.sold b o hs), snew := fun b o hs hb => ?_, sin := hin, scell := fun b o hs => (hc b o (h.sold b o hs)).trans (h.scell b o hs), marks := fun x hx => ⟨(h.marks x hx).1, (hg.block x.1 (Array.getElem?_eq_some_iff.1 (h.marks x hx).2.1).1 (fun ⟨c', hc'⟩ => h.toMemOk.noMark (.inl ⟨_, hc'⟩) hx rfl)).trans (h.marks x hx).2.1, fun o hs => (hnew x.1 o hs).elim (fun hs => (h.marks x hx).2.2 o hs) fun e => (hl x.1 e.1).elim (fun ⟨c', hc'⟩ => h.toMemOk.noMark (.inl ⟨_, hc'⟩) hx rfl) fun hle => absurd (Array.getElem?_eq_some_iff.1 (h.marks x hx).2.1).1 (Nat.not_lt.2 hle)⟩, ext := fun j l hj1 hj2 hj => ?_, defers := h.defers, size := h.size, frozen := h.frozen, slots := fun i p hp => ?_ }
 ·unfold look
  split
  ·rfl
  ·rename_i hne
   rw [upd_at, if_neg hne] at hj
   rw [look_eraseM, Option.isSome_map]
   exact h.dom j l hj
 ·rcases look_cons hq with ⟨rfl, rfl⟩ | ⟨hne, hq⟩
  ·exact ho
  ·rw [look_eraseM] at hq
   obtain ⟨o, h1, rfl⟩ := Option.map_eq_some_iff.1 hq
   have hob := h.objs j o h1
   have hheap : ∀ b, m.has j b → w'.heap[b]? = w.heap[b]? ∧ ∀ o, S' b o → S b o := fun b hb => by
    refine ⟨hg.block b (h.ltH hb) fun ⟨c', hc'⟩ => hne (h.parts j k b hb (.inl ⟨c', hc'⟩)), fun o hs => ?_⟩
    rcases hnew b o hs with h2 | ⟨h2, _⟩
    ·exact h2
    ·rcases hl b h2 with ⟨c', h3⟩ | h3
     ·exact absurd (h.parts j k b hb (.inl ⟨c', h3⟩)) hne
     ·have := h.ltH hb; omega
   cases o with
   | box t cells =>
    obtain ⟨b, c, arr, g1, g2, g3, g4⟩ := hob
    obtain ⟨f1, f2⟩ := hheap b (.inl ⟨c, g1⟩)
    refine ⟨b, c, arr, hm j hne _ g1, f1.trans g2, ?_, fun o ho => g4 o (f2 o ho)⟩
    have : ∀ {us : List Value} {cs : List PV}, All2 (Rep1 m w S) us cs → All2 (Rep1 (upd m k l') w' S') us (cs.map (eraseP k)) := by
     intro us
     induction us with
     | nil => intro cs hcs; cases cs with
      | nil => trivial
      | cons _ _ => exact hcs.elim
     | cons u us ih => intro cs hcs; cases cs with
      | nil => exact hcs.elim
      | cons c cs => exact ⟨hrep1 hcs.1, ih hcs.2⟩
    exact this g3
   | row t sz xs l => exact hob.keep hS hc (fun _ hj => by cases hj) (hm j hne) rfl hheap
   | map es => exact hob.keep hS hc (fun _ hj => by cases hj) (hm j hne) rfl hheap
   | grown t sz xs => exact hob.keep hS hc (fun _ hj => by cases hj) (hm j hne) rfl hheap
   | sys H => exact hob.keep hS hc (fun _ hj => by cases hj) (hm j hne) rfl hheap
   | nest t sz xs pr cs foc =>
    obtain ⟨f0, f1, lc, f2, f3⟩ := hob
    refine ⟨f0, f1, lc, hm j hne _ f2, f3.keep hS hc (show (upd m k l').sub j = m.sub j from rfl) (fun b e => hheap b (.inl ⟨lc.cap, by rw [f2, ← e]⟩)) (fun i c b e => hheap b (.inr ⟨i, c, e⟩)) fun i => ?_⟩
    rw [focAt_map]
    cases hq : focAt foc i with
    | none => rfl
    | some ps => exact ⟨ps.map (eraseP k), rfl, by simp, fun c q u h4 h5 => ⟨eraseP k q, by rw [List.getElem?_map, h4]; rfl, hrep1 h5⟩⟩
 ·obtain ⟨q, hq, hn⟩ := h.subs j i c b hj
  have hjk : j ≠ k := by rintro rfl; rw [show (upd m j l').sub j i c = m.sub j i c from rfl, hns] at hj; cases hj
  refine ⟨eraseO k q, ?_, ?_⟩
  ·unfold look
   rw [if_neg hjk, look_eraseM, hq]
   rfl
  ·cases q <;> first | rfl | cases hn
 ·rcases hhas hj with ⟨e0, e1⟩ | ⟨n1, gj⟩ <;> rcases hhas hj' with ⟨e0', e2⟩ | ⟨n2, gj'⟩
  ·rw [e0, e0']
  ·rcases hl b e1 with ⟨c2, h2⟩ | h2
   ·exact absurd (h.parts j' k b gj' (.inl ⟨_, h2⟩)) n2
   ·have := h.ltH gj'; omega
  ·rcases hl b e2 with ⟨c2, h2⟩ | h2
   ·exact absurd (h.parts j k b gj (.inl ⟨_, h2⟩)) n1
   ·have := h.ltH gj; omega
  ·exact h.parts j j' b gj gj'
 ·rcases hhas hj with ⟨e0, e1⟩ | ⟨n1, gj⟩
  ·subst e0; exact hbk b e1
  ·exact h.young j b gj
 ·refine h.grow.step hg fun i hi ⟨c, hc'⟩ => ?_
  rcases h.fresh k i c hc' with h1 | h1
  ·omega
  ·exact h1.1
 ·rcases hnew b o hs with h1 | ⟨h1, h2⟩
  ·exact h.snew b o h1 hb
  ·rcases hbk b h1 with h3 | h3 <;> omega
 ·have more : ∀ {i : Nat}, (look i σ.mem).isSome = true → (look i ((k, o') :: eraseM k σ.mem)).isSome = true := fun hi => look_more (by rw [look_eraseM, Option.isSome_map]; exact hi)
  rw [upd_at] at hj
  split at hj
  ·rename_i e
   subst e
   cases hj
   rcases hkk with hkk | ⟨hk2, hkk⟩
   ·omega
   ·refine .inr ⟨more hkk, fun b hb => ?_⟩
    rcases hl b hb with ⟨c, h1⟩ | h1
    ·rcases h.ext j _ hj1 hj2 h1 with h2 | ⟨_, h2⟩
     ·exact .inr ⟨_, h2, rfl⟩
     ·exact h2 b rfl
    ·have := h.grow.size; exact .inl (by omega)
  ·exact (h.ext j l hj1 hj2 hj).imp id fun ⟨g1, g2⟩ => ⟨more g1, g2⟩
 ·rw [look_eraseS] at hp
  obtain ⟨q, h1, rfl⟩ := Option.map_eq_some_iff.1 hp
  obtain ⟨v, h2, h3⟩ := h.slots i q h1
  exact ⟨v, h2, hrep h3⟩

theorem append_ok (hT : TabOk P tb) (h : Sim B m S σ a w) {t e ty sz k : Nat} {ti ei : TI} {xs ys : List (List D)} {l : Bool} {c : Prop} {u v : Value} {p : PV} (ht : look t tb = some ti) (hd : ti.desc = .slice e) (he : look e tb = some ei) (hsz : ei.size = sz) (hz : ei.zero.length = sz) (hby : ei.bytes ≤ 4096)
  (hk : look k σ.mem = some (.row e sz xs l)) (hkk : k < 1000000 ∨ (k < 2000000 ∧ (look (k + 3000000) σ.mem).isSome = true)) (hll : l = true → k < 1000000) (hu : Rep m w S u (.rw k xs.length)) (hs : srcOf sz σ.mem p = some (c, ys)) (hc : c) (hv : Rep m w S v p) (hlen : xs.length + ys.length < 4294967296) :
  ∃ r w' m' S', (Builtin.append_ #[t, t] ty #[u, v]).run P w = .ok r w' ∧ Sim B m' S' { σ with slots := eraseS k σ.slots, mem := (k, .row e sz (xs ++ ys) l) :: eraseM k σ.mem } a w' ∧ Rep m' w' S' r (.rw k (xs ++ ys).length) := by
 have hund := (hT.get ht).under
 rw [hd] at hund
 obtain ⟨inf, z, i1, i2, i3, i4, i5⟩ := (hT.get he).info
 have i2' : inf.size = sz := i2.trans hsz
 have hzc : z.cells.size = sz := by rw [i5]; simpa using hz
 obtain ⟨h0, h1, lc, h2, h3⟩ := h.objs _ _ hk
 obtain ⟨A, cp, rfl, hyl, hsrc⟩ := src_ok h hs hc hv
 have hxy : ∀ x ∈ xs ++ ys, x.length = sz := fun x hx => by
  rcases List.mem_append.1 hx with h' | h'
  ·exact h1 x h'
  ·exact hyl x h'
 obtain ⟨lc', g1, g2⟩ := hu
 rw [h2] at g1; cases g1
 have hold : ∃ l, m k = some l := ⟨_, h2⟩
 have hks : (look k σ.mem).isSome = true := by rw [hk]; rfl
 have hlen' : (xs ++ ys).length = xs.length + ys.length := List.length_append
 rcases hsrc with ⟨rfl, rfl⟩ | ⟨ad, news, rfl, n1, n2, n3⟩
 ·-- nothing is appended
  have hrun : (Builtin.append_ #[t, t] ty #[u, .slice none ([] : List (List D)).length cp]).run P w = .ok u w := by
   rcases g2 with ⟨_, rfl, _⟩ | ⟨b, _, rfl, g3⟩
   ·simp [Builtin.append_, run_underlying hund, sizeOf, typeInfo, i1, Builtin.lenOf, Builtin.firstCells]
   ·simp [Builtin.append_, run_underlying hund, sizeOf, typeInfo, i1, Builtin.lenOf, Builtin.firstCells, g3, storeCells]
  refine ⟨u, w, upd m k lc, S, hrun, h.redo hkk hk rfl hold (Grow.refl _ _) (fun b hb => .inl ⟨lc.cap, by rw [h2]; cases lc; cases hb; rfl⟩) (fun _ _ hs => hs) (fun _ _ _ => rfl) (fun _ _ hs => .inl hs) h.sin ?_, lc, upd_same .., ?_⟩
  ·rw [List.append_nil]
   exact ⟨h0, h1, lc, upd_same .., h3⟩
  ·simpa using g2
 have hnl : news.length = ys.length * sz := by rw [n1.len, flatten_len sz ys hyl]
 have h63 : xs.length + ys.length ≤ maxLen := by unfold maxLen; omega
 have hbytes : (xs.length + ys.length) * inf.bytes ≤ 140737488355328 := by
  have := Nat.mul_le_mul (show xs.length + ys.length ≤ 4294967296 by omega) (show inf.bytes ≤ 4096 by omega); omega
 have hS0 : ∀ o, ¬ S w.heap.size o := fun o hs => absurd (h.sin _ o hs) (Nat.lt_irrefl _)
 -- a new row that holds what was there and what is appended
 have made : ∀ (us : List Value) (old : Nat), All2 (RepD w S) us xs.flatten → (∀ x ∈ us, x.oneCell' = true) → us.length = xs.length * sz → ∀ (r : Value), r = .slice (some ⟨w.heap.size, 0, none⟩) (xs.length + ys.length) (grownCap w (xs.length + ys.length) old e) →
   (Builtin.append_ #[t, t] ty #[u, .slice (some ad) ys.length cp]).run P w = .ok r (w.drew.alloc (.cells (us.toArray ++ news.toArray ++ Builtin.zeroCells z.cells (grownCap w (xs.length + ys.length) old e - (xs.length + ys.length))) e)) →
   ∃ r w' m' S', (Builtin.append_ #[t, t] ty #[u, .slice (some ad) ys.length cp]).run P w = .ok r w' ∧ Sim B m' S' { σ with slots := eraseS k σ.slots, mem := (k, .row e sz (xs ++ ys) l) :: eraseM k σ.mem } a w' ∧ Rep m' w' S' r (.rw k (xs ++ ys).length) := by
  intro us old a1 a2 a3 r hr hrun
  have hge := grownCap_ge w (xs.length + ys.length) old e
  have hcm := grownCap_le_maxLen w (xs.length + ys.length) old e h63
  generalize hcap : grownCap w (xs.length + ys.length) old e = cap at *
  generalize harr : us.toArray ++ news.toArray ++ Builtin.zeroCells z.cells (cap - (xs.length + ys.length)) = arr at *
  have hsz' : arr.size = cap * sz := by
   rw [← harr]
   simp only [Array.size_append, List.size_toArray, size_zeroCells, hzc, a3, hnl, ← Nat.add_mul]
   congr 1
   omega
  have hpre : ∀ (j : Nat) (x : Value), (us ++ news)[j]? = some x → arr[j]? = some x := fun j x hx => by
   rw [← harr]
   have hj := (List.getElem?_eq_some_iff.1 hx).1
   rw [← Array.getElem?_toList]
   simp only [Array.toList_append, List.append_assoc]
   rw [← List.append_assoc, List.getElem?_append_left hj]
   exact hx
  have hg : Grow (fun _ => False) w (w.drew.alloc (.cells arr e)) := (Grow.drewn _ w).step (Grow.alloc _ _ _) fun _ _ h => h
  have hcells := hg.cells h.sin fun _ _ _ h => h
  have hflat : All2 (RepD w S) (us ++ news) (xs ++ ys).flatten := by rw [List.flatten_append]; exact a1.app n1
  have hone : ∀ x ∈ us ++ news, x.oneCell' = true := fun x hx => by
   rcases List.mem_append.1 hx with h' | h'
   ·exact a2 x h'
   ·exact n2 x h'
  have hheap : (w.drew.alloc (.cells arr e)).heap[w.heap.size]? = some (.cells arr e (0, 0)) := heap_alloc_new w.drew _
  refine ⟨r, _, upd m k ⟨some w.heap.size, cap⟩, fun b o => S b o ∨ (l = true ∧ b = w.heap.size ∧ o < (xs ++ ys).length * sz), hrun, h.redo hkk hk rfl hold (hg.mono fun _ _ h => h.elim) (fun b hb => .inr (by cases hb; exact Nat.le_refl _)) (fun _ _ hs => .inl hs) hcells (fun b o hs => ?_) (fun b o hs => ?_) ?_, _, upd_same .., .inr ⟨w.heap.size, rfl, by rw [hr, hlen'], by rw [hlen']; exact hge⟩⟩
  ·rcases hs with hs | ⟨g, rfl, _⟩
   ·exact .inl hs
   ·exact .inr ⟨rfl, hll g⟩
  ·rcases hs with hs | ⟨_, rfl, _⟩
   ·have := h.sin _ _ hs; have := hg.size; omega
   ·simp
  ·refine ⟨h0, hxy, _, upd_same .., .inr ⟨w.heap.size, arr, us ++ news, rfl, hheap, by rw [hlen']; exact hge, hcm, hsz', hflat.imp fun _ _ _ hr => hr.keep (fun _ _ hs => .inl hs) hcells, hone, hpre, fun o hs => ?_, fun hl o ho => .inr ⟨hl, rfl, ho⟩⟩⟩
   rcases hs with hs | ⟨g, _, ho⟩
   ·exact absurd hs (hS0 o)
   ·exact ⟨g, ho⟩
 rcases h3 with ⟨h3, rfl⟩ | ⟨b, arr, us, e1, h4, h5, h6, h7, h8, h9, h10, h11, h12⟩
 ·rcases g2 with ⟨_, rfl, _⟩ | ⟨b, gb, _⟩
  ·by_cases hy : ys.length = 0
   ·have : ys = [] := List.eq_nil_of_length_eq_zero hy
    subst this
    have hn : news = [] := List.eq_nil_of_length_eq_zero (by simpa using hnl)
    subst hn
    refine ⟨.slice none 0 0, w, upd m k lc, S, ?_, h.redo hkk hk rfl hold (Grow.refl _ _) (fun b hb => by rw [h3] at hb; cases hb) (fun _ _ hs => hs) (fun _ _ _ => rfl) (fun _ _ hs => .inl hs) h.sin ⟨h0, h1, lc, upd_same .., .inl ⟨h3, rfl⟩⟩, lc, upd_same .., .inl ⟨h3, rfl, rfl⟩⟩
    simp [Builtin.append_, run_underlying hund, sizeOf, typeInfo, i1, Builtin.lenOf, Builtin.firstCells, loadCells, loadCellsFrom]
   ·have hr := run_append_nil (P := P) w t ty e inf z hund i1 i4 ad ys.length cp news (by rw [hnl, i2']) n3 (by omega) (by omega) (by have := hbytes; simp only [List.length_nil, Nat.zero_add] at this; omega)
    refine made [] 0 trivial (fun _ h => by cases h) (by simp) _ rfl ?_
    simpa using hr
  ·rw [gb] at h3; cases h3
 ·rcases g2 with ⟨gb, _⟩ | ⟨b', gb, rfl, g3⟩
  ·rw [gb] at e1; cases e1
  rw [gb] at e1; cases e1
  have hus : us.length = xs.length * sz := by rw [h8.len, flatten_len sz xs h1]
  have hmk : m k = some ⟨some b, lc.cap⟩ := by rw [h2]; cases lc; cases gb; rfl
  by_cases hroom : xs.length + ys.length ≤ lc.cap
  ·have hfit : xs.length * inf.size + news.length ≤ arr.size := by rw [hnl, h7, i2', ← Nat.add_mul]; exact Nat.mul_le_mul_right _ hroom
   have hr := run_append_room (P := P) w t ty e inf hund i1 b xs.length lc.cap arr h4 ad ys.length cp news (by rw [hnl, i2']) n3 n2 hroom hfit
   rw [i2'] at hr hfit
   generalize harr : (arr.toList.take (xs.length * sz) ++ news ++ arr.toList.drop (xs.length * sz + news.length)).toArray = arr' at hr
   have hlt := (Array.getElem?_eq_some_iff.1 h4).1
   have hg : Grow (fun b => ∃ c, m k = some ⟨some b, c⟩) w (w.setRow b arr') := ⟨rfl, rfl, rfl, by simp [World.setRow], fun j _ hj => setRow_other w b j _ (fun e => hj ⟨_, e ▸ hmk⟩)⟩
   have hheap : (w.setRow b arr').heap[b]? = some (.cells arr' e (0, 0)) := setRow_heap w b arr arr' e (0, 0) h4
   have hmul := Nat.mul_le_mul_right sz h5
   have htl : (arr.toList.take (xs.length * sz)).length = xs.length * sz := by
    have e1 : arr.toList.length = lc.cap * sz := (Array.length_toList (xs := arr)).trans h7
    rw [List.length_take, e1]; exact Nat.min_eq_left hmul
   have hpu : arr.toList.take (xs.length * sz) = us := by
    apply List.ext_getElem?
    intro j
    rw [List.getElem?_take]
    split
    ·rename_i hj
     obtain ⟨x, hx⟩ : ∃ x, us[j]? = some x := ⟨_, List.getElem?_eq_getElem (by omega)⟩
     rw [hx, Array.getElem?_toList]
     exact h10 j x hx
    ·rw [List.getElem?_eq_none (by omega)]
   have hpre : ∀ (j : Nat) (x : Value), (us ++ news)[j]? = some x → arr'[j]? = some x := fun j x hx => by
    rw [← harr, List.getElem?_toArray, hpu, List.getElem?_append_left (List.getElem?_eq_some_iff.1 hx).1]
    exact hx
   have hcells : ∀ b' o, S b' o → (w.setRow b arr').cell? ⟨b', o, none⟩ = w.cell? ⟨b', o, none⟩ := fun b' o hs => by
    by_cases hb : b' = b
    ·subst hb
     have ho := (h11 o hs).2
     obtain ⟨x, hx⟩ : ∃ x, us[o]? = some x := ⟨_, List.getElem?_eq_getElem (by omega)⟩
     have e1 := h10 o x hx
     have e2 := hpre o x (by rw [List.getElem?_append_left (by omega)]; exact hx)
     simp only [World.cell?, hheap, h4]
     simp [e1, e2]
    ·exact cell_of_heap (hg.block b' (h.sin _ _ hs) fun ⟨c, hc⟩ => hb (by rw [hmk] at hc; cases hc; rfl)) o
   have hflat : All2 (RepD w S) (us ++ news) (xs ++ ys).flatten := by rw [List.flatten_append]; exact h8.app n1
   have hone : ∀ x ∈ us ++ news, x.oneCell' = true := fun x hx => by
    rcases List.mem_append.1 hx with h' | h'
    ·exact h9 x h'
    ·exact n2 x h'
   refine ⟨_, _, upd m k lc, fun b' o => S b' o ∨ (l = true ∧ b' = b ∧ o < (xs ++ ys).length * sz), hr, h.redo hkk hk rfl hold hg (fun b' hb => .inl ⟨lc.cap, by rw [gb] at hb; cases hb; exact hmk⟩) (fun _ _ hs => .inl hs) hcells (fun b' o hs => ?_) (fun b' o hs => ?_) ?_, lc, upd_same .., .inr ⟨b, gb, by rw [hlen'], by rw [hlen']; exact hroom⟩⟩
   ·rcases hs with hs | ⟨g, rfl, _⟩
    ·exact .inl hs
    ·exact .inr ⟨gb, hll g⟩
   ·rcases hs with hs | ⟨_, rfl, _⟩
    ·have := h.sin _ _ hs; have := hg.size; omega
    ·have := hg.size; omega
   ·refine ⟨h0, hxy, _, upd_same .., .inr ⟨b, arr', us ++ news, gb, hheap, by rw [hlen']; exact hroom, h6, ?_, hflat.imp fun _ _ _ hr => hr.keep (fun _ _ hs => .inl hs) hcells, hone, hpre, fun o hs => ?_, fun hl o ho => .inr ⟨hl, rfl, ho⟩⟩⟩
    ·rw [← harr, ← h7]
     simp only [List.size_toArray, List.length_append, htl, List.length_drop, Array.length_toList]
     omega
    ·rcases hs with hs | ⟨g, _, ho⟩
     ·obtain ⟨f1, f2⟩ := h11 o hs
      refine ⟨f1, ?_⟩
      rw [hlen', Nat.add_mul]; omega
     ·exact ⟨g, ho⟩
  ·have holds : ∀ (j : Nat) (x : Value), us[j]? = some x → w.cell? ((⟨b, 0, none⟩ : Addr).add j) = some x := fun j x hx => by
    rw [Addr.add_lit, Nat.zero_add]
    simp only [World.cell?, h4]
    simpa using h10 j x hx
   have hr := run_append_grow (P := P) w t ty e inf z hund i1 i4 ⟨b, 0, none⟩ xs.length lc.cap us (by rw [hus, i2']) holds ad ys.length cp news (by rw [hnl, i2']) n3 (by omega) (by omega) (growslice_fits (by omega) hbytes)
   exact made us lc.cap h8 h9 hus _ rfl hr
theorem Sim.same (h : Sim B m S σ a w) {k : Nat} {o : MObj} (hk : look k σ.mem = some o) : Sim B m S { σ with mem := (k, o) :: σ.mem } a w := by
 have e : ∀ j, look j ((k, o) :: σ.mem) = look j σ.mem := fun j => by
  show (if j = k then some o else look j σ.mem) = _
  split
  ·rename_i hj; subst hj; exact hk.symm
  ·rfl
 exact { dom := fun j l hj => (by show (look j ((k, o) :: σ.mem)).isSome; rw [e]; exact h.dom j l hj), objs := fun j o' ho => h.objs j o' (by rw [← e]; exact ho), subs := fun j i c b hj => (by obtain ⟨q, hq, hn⟩ := h.subs j i c b hj; exact ⟨q, by rw [← hq]; exact e j, hn⟩), subx := h.subx, parts := h.parts, young := h.young, grow := h.grow, sold := h.sold, snew := h.snew, sin := h.sin, scell := h.scell, ext := fun j l h1 h2 h3 => (h.ext j l h1 h2 h3).imp id fun ⟨g1, g2⟩ => ⟨look_more g1, g2⟩, marks := h.marks, defers := h.defers, size := h.size, frozen := h.frozen, slots := h.slots }
theorem append_mid_ok (hT : TabOk P tb) (h : Sim B m S σ a w) {t e ty sz k n : Nat} {ti ei : TI} {xs ys : List (List D)} {c : Prop} {u v : Value} {p : PV} (ht : look t tb = some ti) (hd : ti.desc = .slice e) (he : look e tb = some ei) (hsz : ei.size = sz)
  (hk : look k σ.mem = some (.row e sz xs false)) (hu : Rep m w S u (.rw k n)) (hs : srcOf sz σ.mem p = some (c, ys)) (hc : c) (hv : Rep m w S v p) (hlen : n + ys.length ≤ xs.length) :
  ∃ r w' m' S', (Builtin.append_ #[t, t] ty #[u, v]).run P w = .ok r w' ∧ Sim B m' S' { σ with mem := (k, .row e sz (xs.take n ++ ys ++ xs.drop (n + ys.length)) false) :: σ.mem } a w' ∧ Rep m' w' S' r (.rw k (n + ys.length)) := by
 have hund := (hT.get ht).under
 rw [hd] at hund
 obtain ⟨inf, z, i1, i2, i3, i4, i5⟩ := (hT.get he).info
 have i2' : inf.size = sz := i2.trans hsz
 obtain ⟨h0, h1, lc, h2, h3⟩ := h.objs _ _ hk
 obtain ⟨A, cp, rfl, hyl, hsrc⟩ := src_ok h hs hc hv
 obtain ⟨lc', g1, g2⟩ := hu
 rw [h2] at g1; cases g1
 have same : ys = [] → ∃ r w' m' S', u = r ∧ w = w' ∧ Sim B m' S' { σ with mem := (k, .row e sz (xs.take n ++ ys ++ xs.drop (n + ys.length)) false) :: σ.mem } a w' ∧ Rep m' w' S' r (.rw k (n + ys.length)) := fun hy => by
  subst hy
  refine ⟨u, w, m, S, rfl, rfl, ?_, lc, h2, ?_⟩
  ·rw [List.append_nil, List.length_nil, Nat.add_zero, List.take_append_drop]
   exact h.same hk
  ·simpa using g2
 rcases hsrc with ⟨rfl, rfl⟩ | ⟨ad, news, rfl, n1, n2, n3⟩
 ·have hrun : (Builtin.append_ #[t, t] ty #[u, .slice none ([] : List (List D)).length cp]).run P w = .ok u w := by
   rcases g2 with ⟨_, rfl, _⟩ | ⟨b, _, rfl, g3⟩
   ·simp [Builtin.append_, run_underlying hund, sizeOf, typeInfo, i1, Builtin.lenOf, Builtin.firstCells]
   ·simp [Builtin.append_, run_underlying hund, sizeOf, typeInfo, i1, Builtin.lenOf, Builtin.firstCells, g3, storeCells]
  obtain ⟨r, w', m', S', rfl, rfl, hq⟩ := same rfl
  exact ⟨_, _, m', S', hrun, hq⟩
 have hnl : news.length = ys.length * sz := by rw [n1.len, flatten_len sz ys hyl]
 rcases h3 with ⟨h3, rfl⟩ | ⟨b, arr, us, e1, h4, h5, h6, h7, h8, h9, h10, h11, h12⟩
 ·rcases g2 with ⟨_, rfl, rfl⟩ | ⟨b, gb, _⟩
  ·have hy : ys = [] := by simpa using hlen
   have hn : news = [] := List.eq_nil_of_length_eq_zero (by rw [hnl, hy]; simp)
   obtain ⟨r, w', m', S', rfl, rfl, hq⟩ := same hy
   refine ⟨_, _, m', S', ?_, hq⟩
   subst hy
   simp [Builtin.append_, run_underlying hund, sizeOf, typeInfo, i1, Builtin.lenOf, Builtin.firstCells, loadCells, loadCellsFrom]
  ·rw [gb] at h3; cases h3
 ·rcases g2 with ⟨gb, _⟩ | ⟨b', gb, rfl, g3⟩
  ·rw [gb] at e1; cases e1
  rw [gb] at e1; cases e1
  have hus : us.length = xs.length * sz := by rw [h8.len, flatten_len sz xs h1]
  have hmk : m k = some ⟨some b, lc.cap⟩ := by rw [h2]; cases lc; cases gb; rfl
  have hroom : n + ys.length ≤ lc.cap := by omega
  have hfit : n * inf.size + news.length ≤ arr.size := by rw [hnl, h7, i2', ← Nat.add_mul]; exact Nat.mul_le_mul_right _ hroom
  have hr := run_append_room (P := P) w t ty e inf hund i1 b n lc.cap arr h4 ad ys.length cp news (by rw [hnl, i2']) n3 n2 hroom hfit
  rw [i2'] at hr hfit
  generalize harr : (arr.toList.take (n * sz) ++ news ++ arr.toList.drop (n * sz + news.length)).toArray = arr' at hr
  have hg : Grow (fun b => ∃ c, m k = some ⟨some b, c⟩) w (w.setRow b arr') := ⟨rfl, rfl, rfl, by simp [World.setRow], fun j _ hj => setRow_other w b j _ (fun e => hj ⟨_, e ▸ hmk⟩)⟩
  have hheap : (w.setRow b arr').heap[b]? = some (.cells arr' e (0, 0)) := setRow_heap w b arr arr' e (0, 0) h4
  have hns : ∀ o, ¬ S b o := fun o hs => by have := (h11 o hs).1; cases this
  have hmul : n * sz + news.length ≤ us.length := by rw [hnl, hus, ← Nat.add_mul]; exact Nat.mul_le_mul_right _ hlen
  obtain ⟨tl, htl⟩ : ∃ tl, arr.toList = us ++ tl := by
   refine ⟨arr.toList.drop us.length, ?_⟩
   have : arr.toList.take us.length = us := by
    apply List.ext_getElem?
    intro j
    rw [List.getElem?_take]
    split
    ·rename_i hj
     obtain ⟨x, hx⟩ : ∃ x, us[j]? = some x := ⟨_, List.getElem?_eq_getElem hj⟩
     rw [hx, Array.getElem?_toList]
     exact h10 j x hx
    ·rw [List.getElem?_eq_none (by omega)]
   conv => lhs; rw [← List.take_append_drop us.length arr.toList, this]
  have ha' : arr'.toList = (us.take (n * sz) ++ news ++ us.drop (n * sz + news.length)) ++ tl := by
   rw [← harr, htl, List.take_append_of_le_length (by omega), List.drop_append_of_le_length (by omega), List.append_assoc, List.append_assoc, List.append_assoc]
  have hpre : ∀ (j : Nat) (x : Value), (us.take (n * sz) ++ news ++ us.drop (n * sz + news.length))[j]? = some x → arr'[j]? = some x := fun j x hx => by
   rw [← Array.getElem?_toList, ha', List.getElem?_append_left (List.getElem?_eq_some_iff.1 hx).1]
   exact hx
  have hcells : ∀ b' o, S b' o → (w.setRow b arr').cell? ⟨b', o, none⟩ = w.cell? ⟨b', o, none⟩ := fun b' o hs => by
   by_cases hb : b' = b
   ·subst hb; exact absurd hs (hns o)
   ·exact cell_of_heap (hg.block b' (h.sin _ _ hs) fun ⟨c, hc⟩ => hb (by rw [hmk] at hc; cases hc; rfl)) o
  have hflat : All2 (RepD w S) (us.take (n * sz) ++ news ++ us.drop (n * sz + news.length)) (xs.take n ++ ys ++ xs.drop (n + ys.length)).flatten := by
   rw [List.flatten_append, List.flatten_append, flatten_take sz xs h1 n (by omega), flatten_drop sz xs h1, hnl, ← Nat.add_mul]
   exact ((h8.take _).app n1).app (h8.drop _)
  have hone : ∀ x ∈ us.take (n * sz) ++ news ++ us.drop (n * sz + news.length), x.oneCell' = true := fun x hx => by
   rcases List.mem_append.1 hx with hx | hx
   ·rcases List.mem_append.1 hx with hx | hx
    ·exact h9 x (List.mem_of_mem_take hx)
    ·exact n2 x hx
   ·exact h9 x (List.mem_of_mem_drop hx)
  have hxy : ∀ x ∈ xs.take n ++ ys ++ xs.drop (n + ys.length), x.length = sz := fun x hx => by
   rcases List.mem_append.1 hx with hx | hx
   ·rcases List.mem_append.1 hx with hx | hx
    ·exact h1 x (List.mem_of_mem_take hx)
    ·exact hyl x hx
   ·exact h1 x (List.mem_of_mem_drop hx)
  have hll : (xs.take n ++ ys ++ xs.drop (n + ys.length)).length = xs.length := by simp; omega
  refine ⟨_, _, m, S, hr, h.write hk (.inl rfl) hmk hns ⟨rfl, rfl, rfl, by simp [World.setRow], fun j _ hj => setRow_other w b j _ (fun e => hj e)⟩ ?_, lc, h2, .inr ⟨b, gb, rfl, hroom⟩⟩
  ·refine ⟨h0, hxy, _, h2, .inr ⟨b, arr', _, gb, hheap, by rw [hll]; exact h5, h6, ?_, hflat.imp fun _ _ _ hr => hr.keep (fun _ _ hs => hs) hcells, hone, hpre, fun o hs => absurd hs (hns o), fun hl => by cases hl⟩⟩
   have e1 : arr'.toList.length = arr.toList.length := by
    rw [ha', htl]
    simp only [List.length_append, List.length_take, List.length_drop]
    omega
   simpa [← h7] using e1
end
end Go.Proofs.YtplooifpgmlofaaGreat
