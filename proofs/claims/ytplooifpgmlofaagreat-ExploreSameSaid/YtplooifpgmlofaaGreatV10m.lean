/- Maps of the call's own: a new one, a key's value set. No condition. -/
import Derived.Test.YtplooifpgmlofaaGreatV10
namespace Go.Proofs.YtplooifpgmlofaaGreat
open Go.RowKit

def vUpdate (tb : Tab) (σ : Sta) (t : Nat) (p q x : PV) : Option Mem :=
  match p, q, x, (look t tb).map TI.desc with
  | .mp key, .d (.v k), .d (.v v), some (.map kt _) => match look kt tb, look key σ.mem with
    | some ki, some (.map es) => match plainKey ki.desc k, mPut ki.desc k v es with
      | true, some es' => some ((key, .map es') :: σ.mem)
      | _, _ => none
    | _, _ => none
  | _, _, _, _ => none

section
variable {P : Program} {tb : Tab} {B : Base} {m : Map} {S : Cells} {σ : Sta} {a : Act} {w : World}
theorem makeMap_ok (h : Sim B m S σ a w) {t d : Nat} (hdd : d < 1000000) (hk : look d σ.mem = none) :
    ∃ r w' m', (Instr.makeMap t none).run P w = .ok r w' ∧ Sim B m' S { σ with mem := (d, .map []) :: σ.mem } a w' ∧ Rep m' w' S r (.mp d) := by
  have hg := Grow.alloc (fun _ => False) w (.map #[] 0)
  refine ⟨.map (some w.heap.size), w.alloc (.map #[] 0), upd m d ⟨some w.heap.size, 0⟩, by simp [Instr.makeMap], h.new hdd hk (fun b hb => by cases hb; exact Nat.le_refl _) hg ?_, w.heap.size, 0, upd_same .., rfl⟩
  exact ⟨w.heap.size, 0, #[], 0, upd_same .., heap_alloc_new w _, rfl, fun o hs => absurd (h.sin _ o hs) (Nat.lt_irrefl _), fun e he => (by simp at he), (by simp)⟩

theorem sameBits_of {kind : TypeDesc} {k k' : Value} (h : Instr.sameNow kind k k' = some true) : Instr.sameBits 10000 k' k = true := by
  unfold Instr.sameNow at h
  split at h
  · split at h
    · rename_i e; subst e; simp at h; subst h; simp [Instr.sameBits]
    · cases h
  · rename_i a b
    have h : (a == b) = true := by simpa using h
    obtain ⟨a⟩ := a; obtain ⟨b⟩ := b
    have e : a = b := by have : (a == b) = true := h; simpa using this
    subst e
    show (a == a) = true
    simp
  · simp at h; subst h; simp [Instr.sameBits]
  · cases h
theorem mPut_ok {kind : TypeDesc} {k v : Value} : ∀ {ents : List MapEntry} {i : Nat} {es : List (Value × Value)}, mPut kind k v (ents.map fun e => (e.key, e.val)) = some es →
    (Instr.findNow kind k ents i = some none ∧ es = (ents.map fun e => (e.key, e.val)) ++ [(k, v)]) ∨ ∃ j e, Instr.findNow kind k ents i = some (some (i + j, e.val)) ∧ ents[j]? = some e ∧ Instr.sameNow kind k e.key = some true ∧ es = (ents.map fun e => (e.key, e.val)).set j (k, v)
  | [], i, es, h => by cases h; exact .inl ⟨rfl, rfl⟩
  | e :: r, i, es, h => by
    simp only [List.map_cons, mPut] at h
    unfold Instr.findNow
    split at h
    · rename_i hs
      cases h
      rw [hs]
      exact .inr ⟨0, e, rfl, rfl, hs, rfl⟩
    · rename_i hs
      obtain ⟨es1, h1, rfl⟩ := Option.map_eq_some_iff.1 h
      rw [hs]
      rcases mPut_ok (i := i + 1) h1 with ⟨g1, rfl⟩ | ⟨j, e', g1, g2, g3, rfl⟩
      · exact .inl ⟨g1, rfl⟩
      · refine .inr ⟨j + 1, e', ?_, by simpa using g2, g3, rfl⟩
        rw [show i + (j + 1) = i + 1 + j by omega]
        exact g1
    · cases h
theorem Grow.setObj (w : World) (b : Nat) (o : Obj) : Grow (· = b) w { w with heap := w.heap.setIfInBounds b o } :=
  ⟨rfl, rfl, rfl, by simp, fun i _ hne => by show (w.heap.setIfInBounds b o)[i]? = _; rw [Array.getElem?_setIfInBounds, if_neg (fun e => hne e.symm)]⟩
theorem vUpdate_ok (hT : TabOk P tb) (h : Sim B m S σ a w) {t : Nat} {p q x : PV} {mem' : Mem} (hv : vUpdate tb σ t p q x = some mem') {u k v : Value} (hu : Rep m w S u p) (hq : Rep m w S k q) (hx : Rep m w S v x) :
    ∃ w', (Instr.mapUpdate t u k v).run P w = .ok () w' ∧ Sim B m S { σ with mem := mem' } a w' := by
  unfold vUpdate at hv
  split at hv
  · rename_i key k0 v0 kt et ht
    split at hv
    · rename_i ki es h1 h2
      split at hv
      · rename_i es' g1 g2
        cases hv
        obtain ⟨ti, ht1, ht2⟩ := Option.map_eq_some_iff.1 ht
        have hund : P.underlying t = some (.map kt et) := by rw [← ht2]; exact (hT.get ht1).under
        obtain ⟨b, cc, k1, rfl⟩ := hu
        obtain ⟨b', c', ents, clock, k2, k3, k4, k5, k6, k7⟩ := h.objs _ _ h2
        rw [k1] at k2; cases k2
        have hq' : RepD w S k (.v k0) := hq
        cases hq'
        have hx' : RepD w S v (.v v0) := hx
        cases hx'
        subst k4
        have hlt := (Array.getElem?_eq_some_iff.1 k3).1
        have e1 := checkKey_plain (P := P) (w := w) (b := false) (n := 9999) (hT.get h1).under g1
        have e4 := Go.MapKept.run_getObj_map (P := P) k3
        have e5 : ∀ o, (setObj b o).run P w = .ok () { w with heap := w.heap.setIfInBounds b o } := fun o => Go.MapKept.run_setObj_map o k3
        have fin : ∀ (en : Array MapEntry) (cl : Nat), en.toList.map (fun e => (e.key, e.val)) = es' → MapFit en cl → Sim B m S { σ with mem := (key, .map es') :: σ.mem } a { w with heap := w.heap.setIfInBounds b (.map en cl) } := fun en cl hes hfit =>
          h.write h2 (.inl rfl) k1 k5 (Grow.setObj w b _) ⟨b, cc, en, cl, k1, by show (w.heap.setIfInBounds b _)[b]? = _; simp [hlt], hes, k5, hfit⟩
        rcases mPut_ok (i := 0) g2 with ⟨f1, f2⟩ | ⟨j, e, f1, f2, f3, f4⟩
        · have e2 := findKey_ok (P := P) (w := w) (hT.get h1).under f1
          refine ⟨_, ?_, fin (ents.push { key := k, val := v, born := clock }) (clock + 1) (by rw [f2]; simp) ⟨fun e he => ?_, ?_⟩⟩
          · simp [Instr.mapUpdate, run_underlying hund, e4, e1, e2, e5]
          · rw [Array.toList_push, List.mem_append, List.mem_singleton] at he
            rcases he with he | rfl
            · exact Nat.lt_succ_of_lt (k6 e he)
            · exact Nat.lt_succ_self _
          · rw [Array.toList_push, List.map_append, List.nodup_append]
            refine ⟨k7, by simp, fun x hx y hy => ?_⟩
            obtain ⟨e, he, rfl⟩ := List.mem_map.1 hx
            have := k6 e he
            simp at hy
            omega
        · have e2 := findKey_ok (P := P) (w := w) (hT.get h1).under f1
          rw [Nat.zero_add] at e2
          have f2' : ents[j]? = some e := by simpa using f2
          have e6 : (Instr.keyThatStays e.key k).run P w = .ok k w := by simp [Instr.keyThatStays, sameBits_of f3]
          refine ⟨_, ?_, fin (ents.modify j fun e => { e with key := k, val := v }) clock ?_ ⟨fun e' he => ?_, ?_⟩⟩
          · simp [Instr.mapUpdate, run_underlying hund, e4, e1, e2, e5, f2', e6]
          · rw [f4]
            apply List.ext_getElem?
            intro i
            simp only [List.getElem?_map, List.getElem?_set, Array.getElem?_toList, Array.getElem?_modify, List.length_map, Array.length_toList]
            have hjl := (Array.getElem?_eq_some_iff.1 f2').1
            split
            · rename_i e0
              subst e0
              simp [hjl]
            · rfl
          · obtain ⟨q, hq, hq2⟩ := List.mem_iff_getElem.1 he
            rw [Array.getElem_toList, Array.getElem_modify] at hq2
            have hq' : q < ents.size := by simpa using hq
            split at hq2
            · rename_i e0
              subst e0
              rw [← hq2]
              exact k6 (ents[j]) (Array.getElem_mem_toList hq')
            · rw [← hq2]; exact k6 _ (Array.getElem_mem_toList hq')
          · have : ((ents.modify j fun e => { e with key := k, val := v }).toList.map (·.born)) = ents.toList.map (·.born) := by
              apply List.ext_getElem?
              intro i
              simp only [List.getElem?_map, Array.getElem?_toList, Array.getElem?_modify]
              split
              · rename_i e0
                subst e0
                cases ents[j]? <;> rfl
              · rfl
            rw [this]; exact k7
      · cases hv
    · cases hv
  · cases hv
end
end Go.Proofs.YtplooifpgmlofaaGreat
