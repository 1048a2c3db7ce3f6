/- Going through a map of the call's own: the map and its iterator, held together. No condition. -/
import Derived.Test.YtplooifpgmlofaaGreatV11
import Derived.Maps.RangeRun
namespace Go.Proofs.YtplooifpgmlofaaGreat
open Go.RowKit

def kv (e : MapEntry) : Value × Value := (e.key, e.val)
def IterR (left : List (Value × Value)) (cur : Option (Value × Value)) (b : Nat) (sub : Nat → Nat → Option Nat) (w : World) (S : Cells) : Prop :=
  ∃ mb ents clock seen, (∀ i c, sub i c = if i = 0 ∧ c = 0 then some mb else none) ∧ b ≠ mb ∧ w.heap[mb]? = some (.map ents clock) ∧ w.heap[b]? = some (.mapIter (some mb) clock seen clock) ∧ MapFit ents clock ∧
    (ents.toList.filter fun e => !seen.contains e.born).map kv = left ∧ (∀ o, ¬ S b o) ∧ (∀ o, ¬ S mb o) ∧ ∀ p, cur = some p → ∃ e ∈ ents.toList, kv e = p ∧ ∃ s0 : Array Nat, seen = s0.push e.born
def iterH (left : List (Value × Value)) (cur : Option (Value × Value)) : Hid where
  R := IterR left cur
  keep := fun hS hc hb ⟨mb, ents, clock, seen, h1, h2, h3, h4, h5, h6, h7, h8, h9⟩ =>
    have hm : ofSys _ _ mb := .inr ⟨0, 0, by rw [h1]; rfl⟩
    ⟨mb, ents, clock, seen, h1, h2, (hb _ hm).1.trans h3, (hb _ (.inl rfl)).1.trans h4, h5, h6, fun o ho => h7 o ((hb _ (.inl rfl)).2 o ho), fun o ho => h8 o ((hb _ hm).2 o ho), h9⟩
  held := fun ⟨mb, ents, clock, seen, h1, h2, h3, h4, h5, h6, h7, h8, h9⟩ b' hb' => by
    rcases hb' with rfl | ⟨i, c, hb'⟩
    · exact ⟨_, h4, rfl⟩
    · rw [h1] at hb'
      split at hb'
      · cases hb'; exact ⟨_, h3, rfl⟩
      · cases hb'

section
variable {P : Program} {tb : Tab} {B : Base} {m : Map} {S : Cells} {σ : Sta} {a : Act} {w : World}
theorem mrange_ok (h : Sim B m S σ a w) {k d t kt et : Nat} {es : List (Value × Value)} (hk : look k σ.mem = some (.map es)) (hkk : k < 1000000) (hdd : d < 1000000) (hd : look d σ.mem = none) (ht : P.underlying t = some (.map kt et)) {u : Value} (hu : Rep m w S u (.mp k)) :
    ∃ r w' m', (Instr.range t u).run P w = .ok r w' ∧ Sim B m' S ⟨σ.n, eraseS k σ.slots, (d, .sys (iterH es none)) :: (k, .row 0 1 [] false) :: eraseM k σ.mem⟩ a w' ∧ Rep m' w' S r (.ptr d 0) := by
  obtain ⟨b, c, ents, clock, h1, h2, h3, h4, h5⟩ := h.objs _ _ hk
  obtain ⟨b', c', h1', rfl⟩ := hu
  rw [h1] at h1'; cases h1'
  have hns := h.toMemOk.noSub hk rfl
  have hdk : d ≠ k := fun e => by rw [e, hk] at hd; cases hd
  have hmd : m d = none := by
    cases e : m d with
    | none => rfl
    | some l => have := h.dom d l e; rw [hd] at this; cases this
  have hmsd : ∀ i c, m.sub d i c = none := fun i c => by
    cases e : m.sub d i c with
    | none => rfl
    | some b0 => obtain ⟨o, ho, _⟩ := h.subs d i c b0 e; rw [hd] at ho; cases ho
  have hblt : b < w.heap.size := (Array.getElem?_eq_some_iff.1 h2).1
  let ob : Obj := .mapIter (some b) clock #[] clock
  have hg : Grow (fun _ => False) w (w.alloc ob) := Grow.alloc _ w ob
  have hheap : ∀ q, q < w.heap.size → (w.alloc ob).heap[q]? = w.heap[q]? := fun q hq => hg.block q hq (fun h => h)
  let m' : Map := ⟨fun q => if q = d then some ⟨some w.heap.size, 0⟩ else if q = k then some ⟨none, 0⟩ else m q, fun q => if q = d then (fun i c => if i = 0 ∧ c = 0 then some b else none) else m.sub q⟩
  have e1 : m' d = some ⟨some w.heap.size, 0⟩ := if_pos rfl
  have e2 : m' k = some ⟨none, 0⟩ := (if_neg fun e => hdk e.symm).trans (if_pos rfl)
  have e3 : ∀ q, q ≠ d → q ≠ k → m' q = m q := fun q q1 q2 => (if_neg q1).trans (if_neg q2)
  have e4 : ∀ i c, m'.sub d i c = if i = 0 ∧ c = 0 then some b else none := fun i c => by show (if d = d then (fun i c => if i = 0 ∧ c = 0 then some b else none) else m.sub d) i c = _; rw [if_pos rfl]
  have e5 : ∀ q, q ≠ d → m'.sub q = m.sub q := fun q q1 => if_neg q1
  have hup : ∀ j, j ∉ [k] → ∀ l, m j = some l → m' j = some l := fun j hj l hl => by
    rw [e3 j (fun e => by rw [e, hmd] at hl; cases hl) (by simpa using hj)]; exact hl
  have hhas : ∀ q b0, m'.has q b0 → (q = d ∧ (b0 = w.heap.size ∨ b0 = b)) ∨ (q ≠ d ∧ q ≠ k ∧ m.has q b0) := fun q b0 hq => by
    by_cases qd : q = d
    · subst qd
      refine .inl ⟨rfl, ?_⟩
      rcases hq with ⟨c0, hq⟩ | ⟨i, c0, hq⟩
      · rw [e1] at hq; cases hq; exact .inl rfl
      · rw [e4] at hq
        split at hq
        · cases hq; exact .inr rfl
        · cases hq
    · by_cases qk : q = k
      · subst qk
        rcases hq with ⟨c0, hq⟩ | ⟨i, c0, hq⟩
        · rw [e2] at hq; cases hq
        · rw [e5 _ qd, hns] at hq; cases hq
      · refine .inr ⟨qd, qk, ?_⟩
        rcases hq with ⟨c0, hq⟩ | ⟨i, c0, hq⟩
        · rw [e3 q qd qk] at hq; exact .inl ⟨c0, hq⟩
        · rw [e5 q qd] at hq; exact .inr ⟨i, c0, hq⟩
  have hcells : ∀ b o, S b o → (w.alloc ob).cell? ⟨b, o, none⟩ = w.cell? ⟨b, o, none⟩ := hg.cells h.sin fun _ _ _ h => h
  have hnew : ∀ o, ¬ S w.heap.size o := fun o hs => absurd (h.sin _ o hs) (Nat.lt_irrefl _)
  have lk : ∀ {q : Nat}, (look q σ.mem).isSome = true → (look q ((d, MObj.sys (iterH es none)) :: (k, MObj.row 0 1 [] false) :: eraseM k σ.mem)).isSome = true := fun hq => look_more (look_more (by rw [look_eraseM, Option.isSome_map]; exact hq))
  have only : ∀ q, m.has q b → q = k := fun q hq => h.parts q k b hq (.inl ⟨c, h1⟩)
  have hlk : ∀ q o, q ≠ k → look q σ.mem = some o → look q ((d, MObj.sys (iterH es none)) :: (k, MObj.row 0 1 [] false) :: eraseM k σ.mem) = some (eraseO k o) := fun q o qk ho => by
    have qd : q ≠ d := fun e => by rw [e, hd] at ho; cases ho
    unfold look
    rw [if_neg qd]
    unfold look
    rw [if_neg qk, look_eraseM, ho]
    rfl
  refine ⟨.pointer (some ⟨w.heap.size, 0, none⟩), w.alloc ob, m', ?_, { dom := fun q l hq => ?_, objs := fun q o hq => ?_, subs := fun q i c0 b0 hq => ?_, subx := fun q q1 q2 i c0 b0 hq => ?_, parts := fun q q' b0 hq hq' => ?_, young := fun q b0 hq => ?_, grow := h.grow.step hg (fun _ _ h => h.elim), sold := h.sold, snew := h.snew, sin := fun b o hs => Nat.lt_of_lt_of_le (h.sin b o hs) hg.size, scell := fun b0 o hs => (hcells b0 o (h.sold b0 o hs)).trans (h.scell b0 o hs), ext := fun q l q1 q2 hq => ?_, marks := fun x hx => ⟨(h.marks x hx).1, (hheap _ (Array.getElem?_eq_some_iff.1 (h.marks x hx).2.1).1).trans (h.marks x hx).2.1, (h.marks x hx).2.2⟩, defers := h.defers, size := h.size, frozen := h.frozen, slots := fun i p hp => ?_ }, w.heap.size, 0, e1, rfl⟩
  · have e0 := Go.MapKept.run_getObj_map (P := P) h2
    simp [Instr.range, run_underlying ht, e0, ob]
  · by_cases qd : q = d
    · subst qd; unfold look; rw [if_pos rfl]; rfl
    · by_cases qk : q = k
      · subst qk; exact look_more (by unfold look; rw [if_pos rfl]; rfl)
      · rw [e3 q qd qk] at hq
        exact lk (h.dom q l hq)
  · rcases look_cons hq with ⟨q1, q2⟩ | ⟨qd, hq⟩
    · subst q1; subst q2
      refine ⟨w.heap.size, 0, e1, b, ents, clock, #[], e4, (fun e => by omega), (hheap _ hblt).trans h2, heap_alloc_new w _, h5, ?_, hnew, h4, fun p hp => by cases hp⟩
      rw [← h3, List.filter_eq_self.2 fun e _ => by simp]
      rfl
    · rcases look_cons hq with ⟨q1, q2⟩ | ⟨qk, hq⟩
      · subst q1; subst q2
        exact ⟨by omega, fun x hx => (by cases hx), ⟨none, 0⟩, e2, .inl ⟨rfl, rfl⟩⟩
      · rw [look_eraseM] at hq
        obtain ⟨o1, ho1, rfl⟩ := Option.map_eq_some_iff.1 hq
        exact (h.objs q o1 ho1).erases (ks := [k]) (fun _ _ hs => hs) hcells hup (fun l hl => hup q (by simpa using qk) l hl) (e5 q qd) fun b0 hb0 => ⟨hheap _ (h.toMemOk.ltH hb0), fun _ hs => hs⟩
  · by_cases qd : q = d
    · subst qd; exact ⟨_, by unfold look; rw [if_pos rfl], rfl⟩
    · rw [e5 q qd] at hq
      obtain ⟨o, ho, hn⟩ := h.subs q i c0 b0 hq
      have qk : q ≠ k := fun e => by rw [e, hns] at hq; cases hq
      refine ⟨_, hlk q o qk ho, ?_⟩
      cases o <;> first | rfl | cases hn
  · rw [e5 q (by omega)] at hq
    exact h.subx q q1 q2 i c0 b0 hq
  · rcases hhas q b0 hq with ⟨f1, f2⟩ | ⟨f1, f2, f3⟩ <;> rcases hhas q' b0 hq' with ⟨g1, g2⟩ | ⟨g1, g2, g3⟩
    · rw [f1, g1]
    · rcases f2 with rfl | rfl
      · exact absurd (h.toMemOk.ltH g3) (Nat.lt_irrefl _)
      · exact absurd (only _ g3) g2
    · rcases g2 with rfl | rfl
      · exact absurd (h.toMemOk.ltH f3) (Nat.lt_irrefl _)
      · exact absurd (only _ f3) f2
    · exact h.parts q q' b0 f3 g3
  · rcases hhas q b0 hq with ⟨f1, rfl | rfl⟩ | ⟨f1, f2, f3⟩
    · exact .inl h.grow.size
    · rcases h.young k b0 (.inl ⟨c, h1⟩) with f | ⟨_, f, _⟩
      · exact .inl f
      · omega
    · exact h.young q b0 f3
  · rw [e3 q (by omega) (by omega)] at hq
    exact (h.ext q l q1 q2 hq).imp id fun ⟨g1, g2⟩ => ⟨lk g1, g2⟩
  · rw [look_eraseS] at hp
    obtain ⟨p1, hp1, rfl⟩ := Option.map_eq_some_iff.1 hp
    obtain ⟨v, g1, g2⟩ := h.slots i p1 hp1
    exact ⟨v, g1, g2.erases (ks := [k]) (fun _ _ hs => hs) hcells hup⟩

theorem filter_ne_erase : ∀ {l : List MapEntry} {i : Nat} {e : MapEntry}, (l.map (·.born)).Nodup → l[i]? = some e → l.filter (fun x => !(x.born == e.born)) = l.eraseIdx i
  | x :: l, 0, e, hn, he => by
    obtain rfl : x = e := by simpa using he
    rw [List.eraseIdx_cons_zero, List.filter_cons_of_neg (by simp)]
    refine List.filter_eq_self.2 fun y hy => ?_
    have h1 := (List.nodup_cons.1 hn).1
    have hne : y.born ≠ x.born := fun h => h1 (List.mem_map.2 ⟨y, hy, h⟩)
    simp [hne]
  | x :: l, i + 1, e, hn, he => by
    have he : l[i]? = some e := by simpa using he
    have hne : x.born ≠ e.born := fun h => (List.nodup_cons.1 hn).1 (List.mem_map.2 ⟨e, List.mem_of_getElem? he, h.symm⟩)
    rw [List.eraseIdx_cons_succ, List.filter_cons_of_pos (by simp [hne]), filter_ne_erase (List.nodup_cons.1 hn).2 he]
  | [], _, _, _, he => by simp at he
theorem map_eraseI {α β : Type} {f : α → β} : ∀ {l : List α} {i : Nat}, (l.eraseIdx i).map f = (l.map f).eraseIdx i
  | [], _ => rfl
  | _ :: _, 0 => rfl
  | _ :: l, i + 1 => by simp [map_eraseI (l := l) (i := i)]
theorem next_ok (h : Sim B m S σ a w) {k : Nat} {left : List (Value × Value)} {cur : Option (Value × Value)} (hk : look k σ.mem = some (.sys (iterH left cur))) {u : Value} (hu : Rep m w S u (.ptr k 0)) (t : Nat) :
    (left = [] ∧ (Instr.next u false t).run P w = .ok (.tuple #[.bool false]) w) ∨
    ∃ i e w', left[i]? = some e ∧ (Instr.next u false t).run P w = .ok (.tuple #[.bool true, e.1, e.2]) w' ∧ Sim B m S { σ with mem := (k, .sys (iterH (left.eraseIdx i) (some e))) :: σ.mem } a w' := by
  obtain ⟨b, c, h1, mb, ents, clock, seen, g1, g2, g3, g4, g5, g6, g7, g8, g9⟩ := h.objs _ _ hk
  obtain ⟨b', c', h1', rfl⟩ := hu
  rw [h1] at h1'; cases h1'
  rcases run_next_at (P := P) w t b mb clock clock seen ents clock g4 g3 g5.1 (Nat.le_refl _) with ⟨k1, k2⟩ | ⟨e, k1, w1, k2, k3⟩
  · refine .inl ⟨?_, k2⟩
    have : (leftOf ents seen).toList = [] := List.eq_nil_of_length_eq_zero (by simpa using k1)
    rw [leftOf, Array.toList_filter] at this
    rw [← g6, this]; rfl
  · rw [leftOf, Array.toList_filter] at k1
    obtain ⟨i, hi⟩ := List.getElem?_of_mem k1
    have hnd : ((ents.toList.filter fun e => !seen.contains e.born).map (·.born)).Nodup := g5.2.sublist (List.Sublist.map _ List.filter_sublist)
    have he := filter_ne_erase hnd hi
    have hs : Sim B m S σ a w1 := by
      rcases k2 with rfl | rfl
      · exact h
      · exact h.drewn
    have hh : w1.heap = w.heap := by rcases k2 with rfl | rfl <;> rfl
    refine .inr ⟨i, kv e, _, ?_, k3, hs.write hk (.inr rfl) h1 g7 (Grow.setObj w1 b _) ⟨b, c, h1, mb, ents, clock, seen.push e.born, g1, g2, ?_, ?_, g5, ?_, g7, g8, fun p hp => ?_⟩⟩
    · rw [← g6, List.getElem?_map, hi]; rfl
    · show (w1.heap.setIfInBounds b _)[mb]? = _
      rw [Array.getElem?_setIfInBounds, if_neg g2, hh]; exact g3
    · have hlt : b < w1.heap.size := by rw [hh]; exact (Array.getElem?_eq_some_iff.1 g4).1
      show (w1.heap.setIfInBounds b _)[b]? = _
      simp [hlt]
    · rw [← g6]
      have e1 : (ents.toList.filter fun x => !(seen.push e.born).contains x.born) = (ents.toList.filter fun x => !seen.contains x.born).filter fun x => !(x.born == e.born) := by
        rw [List.filter_filter]
        refine List.filter_congr fun x _ => ?_
        have : (seen.push e.born).contains x.born = (seen.contains x.born || (x.born == e.born)) := by
          rw [Bool.eq_iff_iff]
          simp [Array.contains_eq_mem, Array.mem_push]
        rw [this]
        cases seen.contains x.born <;> cases x.born == e.born <;> rfl
      rw [e1, he, map_eraseI]
    · cases hp
      exact ⟨e, (List.mem_filter.1 k1).1, rfl, seen, rfl⟩
theorem entry_ok (h : Sim B m S σ a w) {k : Nat} {left : List (Value × Value)} {e : Value × Value} (hk : look k σ.mem = some (.sys (iterH left (some e)))) {u : Value} (hu : Rep m w S u (.ptr k 0)) :
    (Instr.entry u).run P w = .ok (.tuple #[e.1, e.2]) w := by
  obtain ⟨b, c, h1, mb, ents, clock, seen, g1, g2, g3, g4, g5, g6, g7, g8, g9⟩ := h.objs _ _ hk
  obtain ⟨b', c', h1', rfl⟩ := hu
  rw [h1] at h1'; cases h1'
  obtain ⟨e0, k1, rfl, s0, rfl⟩ := g9 e rfl
  exact run_entry_at w b mb clock s0 ents clock e0 g4 g3 k1 g5.2
end
end Go.Proofs.YtplooifpgmlofaaGreat
