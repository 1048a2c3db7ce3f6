/- All operations that leave the world alone, in one function, and that it is right. No condition. -/
import Derived.Test.YtplooifpgmlofaaGreatV4
namespace Go.Proofs.YtplooifpgmlofaaGreat
open Go.RowKit

section
variable {P : Program} {tb : Tab} {B : Base} {m : Map} {S : Cells} {σ : Sta} {a : Act} {w : World}

def PV.is0 : PV → Bool
  | .d _ | .rw _ _ | .ptr _ _ | .rp _ _ _ _ | .rs _ _ _ _ _ | .ep _ _ => true
  | _ => false
def PV.is1 : PV → Bool
  | .d _ | .rw _ _ | .ptr _ _ | .rp _ _ _ _ | .rs _ _ _ _ _ | .ep _ _ | .clo _ _ | .any => true
  | _ => false
theorem Rep0.of {v : Value} {p : PV} (h : Rep m w S v p) (hp : p.is0 = true) : Rep0 m w S v p := by
  cases p <;> first | exact h | cases hp
def PV.is2 : PV → Bool
  | .tup _ => false
  | _ => true
theorem Rep2.of {v : Value} {p : PV} (h : Rep m w S v p) (hp : p.is2 = true) : Rep2 m w S v p := by
  cases p <;> first | exact h | cases hp
theorem all2_0 {vs : List Value} {ps : List PV} (h : All2 (Rep m w S) vs ps) (hp : ps.all PV.is0 = true) : All2 (Rep0 m w S) vs ps :=
  h.imp fun _ p hm hr => Rep0.of hr (List.all_eq_true.1 hp p hm)

def vFunc (σ : Sta) (fn : Fn) (first caps : List Operand) : Option (Prop × PV) :=
  match fn, first, evs σ caps with
  | .func f, [], some ps => if ps.all PV.is0 then some (True, .clo f ps) else none
  | _, _, _ => none
theorem vFunc_ok (h : Sim B m S σ a w) {fn : Fn} {first caps : Array Operand} {c : Prop} {p : PV} (hv : vFunc σ fn first.toList caps.toList = some (c, p)) : ∃ r, (Instr.makeFunc fn (first.map a.eval) (caps.map a.eval)).run P w = .ok r w ∧ Rep m w S r p := by
  unfold vFunc at hv
  split at hv
  · rename_i f ps h1 h2
    split at hv
    · rename_i h3
      cases hv
      refine ⟨_, rfl, (caps.map a.eval).toList, ?_, ?_⟩
      · have : first = #[] := by cases first; simp_all
        subst this
        have e : (Array.map a.eval caps).toList.toArray = Array.map a.eval caps := Array.toArray_toList
        rw [e]
        simp
      · rw [Array.toList_map]; exact all2_0 (evs_ok h h2) h3
    · cases hv
  · cases hv

def PV.cells : PV → List PV
  | .agg cs => cs
  | p => [p]
theorem cells_ok {v : Value} {p : PV} (h : Rep m w S v p) (hp : p.is2 = true) (hne : ∀ x, p ≠ .d (.v x) ∨ ∀ y, x ≠ .agg y) (hany : p ≠ .any) : All2 (Rep1 m w S) v.cells.toList p.cells := by
  cases p with
  | agg cs => obtain ⟨vs, rfl, ha⟩ := h; exact ha
  | tup _ => cases hp
  | any => exact absurd rfl hany
  | d x =>
    have h' : RepD w S v x := h
    cases h' with
    | v x =>
      have : v.cells = #[v] := by
        rcases hne v with h1 | h1
        · exact absurd rfl h1
        · cases v <;> first | rfl | exact absurd rfl (h1 _)
      rw [this]
      exact ⟨h, trivial⟩
    | sl => exact ⟨h, trivial⟩
  | rw k n =>
    obtain ⟨l, h1, ⟨_, rfl, _⟩ | ⟨b, _, rfl, _⟩⟩ := h
    · exact ⟨⟨l, h1, .inl ⟨by assumption, rfl, by assumption⟩⟩, trivial⟩
    · exact ⟨⟨l, h1, .inr ⟨b, by assumption, rfl, by assumption⟩⟩, trivial⟩
  | ptr k off => obtain ⟨b, c, h1, rfl⟩ := h; exact ⟨⟨b, c, h1, rfl⟩, trivial⟩
  | rp k sz i off => obtain ⟨b, c, h1, rfl⟩ := h; exact ⟨⟨b, c, h1, rfl⟩, trivial⟩
  | rs k sz off n fl =>
    obtain ⟨l, h1, ⟨h2, rfl, h3⟩ | ⟨b, ad, cp, h2, rfl, h3⟩⟩ := h
    · exact ⟨⟨l, h1, .inl ⟨h2, rfl, h3⟩⟩, trivial⟩
    · exact ⟨⟨l, h1, .inr ⟨b, ad, cp, h2, rfl, h3⟩⟩, trivial⟩
  | ep row off => obtain ⟨b, o, rfl, h1⟩ := h; exact ⟨⟨b, o, rfl, h1⟩, trivial⟩
  | mp k => obtain ⟨b, c, h1, rfl⟩ := h; exact ⟨⟨b, c, h1, rfl⟩, trivial⟩
  | ifc t k => obtain ⟨b, c, h1, rfl⟩ := h; exact ⟨⟨b, c, h1, rfl⟩, trivial⟩
  | fd sz xs => obtain ⟨h1, A, n, rfl⟩ := h; exact ⟨⟨h1, A, n, rfl⟩, trivial⟩
  | clo f cs => obtain ⟨vs, rfl, ha⟩ := h; exact ⟨⟨vs, rfl, ha⟩, trivial⟩
def PV.plain : PV → Bool
  | .tup _ | .any | .d (.v (.agg _)) => false
  | _ => true
theorem cells_plain {v : Value} {p : PV} (h : Rep m w S v p) (hp : p.plain = true) : All2 (Rep1 m w S) v.cells.toList p.cells := by
  refine cells_ok h (by cases p <;> first | rfl | cases hp) (fun x => ?_) (by rintro rfl; cases hp)
  by_cases hx : p = .d (.v x)
  · subst hx
    right
    rintro y rfl
    cases hp
  · exact .inl hx

def pfill (place : Nat → Option (Nat × Nat)) (cells : List PV) : List (Nat × PV) → Option (List PV)
  | [] => some cells
  | (i, p) :: rest => match place i with
    | some (off, size) => if p.plain && decide (p.cells.length = size) && decide (off + size ≤ cells.length) then pfill place (cells.take off ++ p.cells ++ cells.drop (off + size)) rest else none
    | none => none
theorem foldl_set (us : List Value) : ∀ (cs : Array Value) (off : Nat) (n : Nat), off + n + us.length ≤ cs.size → ((us.zipIdx n).foldl (fun cs x => cs.setIfInBounds (off + x.2) x.1) cs).toList = cs.toList.take (off + n) ++ us ++ cs.toList.drop (off + n + us.length) := by
  induction us with
  | nil => intro cs off n h; simp
  | cons u us ih =>
    intro cs off n h
    rw [List.zipIdx_cons, List.foldl_cons, ih _ off (n + 1) (by simp at h ⊢; omega)]
    simp only [List.length_cons] at h
    simp only [Array.toList_setIfInBounds, List.length_cons]
    rw [List.take_set, List.drop_set, if_pos (by omega)]
    rw [show off + (n + 1) + us.length = off + n + (us.length + 1) from by omega]
    have h1 : (cs.toList.take (off + (n + 1))).set (off + n) u = cs.toList.take (off + n) ++ [u] := by
      have hlt : off + n < cs.toList.length := by simp; omega
      rw [show off + (n + 1) = off + n + 1 from by omega, List.take_succ_eq_append_getElem hlt, List.set_append_right _ _ (by rw [List.length_take]; omega)]
      rw [List.length_take, Nat.min_eq_left (by omega), Nat.sub_self]
      rfl
    rw [h1]
    simp
theorem pfill_ok {place : Nat → Option (Nat × Nat)} : ∀ {ps : List (Nat × PV)} {vs : List (Nat × Value)} {us : Array Value} {cells out : List PV}, All2 (fun (x : Nat × Value) (y : Nat × PV) => x.1 = y.1 ∧ Rep m w S x.2 y.2) vs ps → All2 (Rep1 m w S) us.toList cells → pfill place cells ps = some out →
    ∃ us', Instr.fill place us vs = some us' ∧ All2 (Rep1 m w S) us'.toList out
  | [], [], us, cells, out, _, h2, h3 => by cases h3; exact ⟨us, rfl, h2⟩
  | (i, p) :: ps, (j, v) :: vs, us, cells, out, ⟨⟨h0, h1⟩, h1'⟩, h2, h3 => by
    have h0 : j = i := h0
    subst h0
    unfold pfill at h3
    split at h3
    · rename_i off size hp
      split at h3
      · rename_i hc
        simp only [Bool.and_eq_true, decide_eq_true_eq] at hc
        obtain ⟨⟨c1, c2⟩, c3⟩ := hc
        have hcl := cells_plain h1 c1
        have e1 : v.cells.size = size := by rw [← c2, ← hcl.len]; simp
        have e2 : us.size = cells.length := by rw [← h2.len]; simp
        have := foldl_set v.cells.toList us off 0 (by simp; omega)
        simp only [Nat.add_zero, Array.length_toList, e1] at this
        have hnew : All2 (Rep1 m w S) (Array.foldl (fun cs x => cs.setIfInBounds (off + x.2) x.1) us v.cells.zipIdx).toList (cells.take off ++ p.cells ++ cells.drop (off + size)) := by
          rw [← Array.foldl_toList, Array.toList_zipIdx, this]
          exact ((h2.take off).app hcl).app (h2.drop _)
        obtain ⟨us', g1, g2⟩ := pfill_ok h1' hnew h3
        refine ⟨us', ?_, g2⟩
        unfold Instr.fill
        simp only [hp]
        rw [if_neg (by simp [e1]; omega)]
        exact g1
      · cases h3
    · cases h3
  | [], _ :: _, _, _, _, h, _, _ => h.elim
  | _ :: _, [], _, _, _, h, _, _ => h.elim

def evParts (σ : Sta) : List (Nat × Operand) → Option (List (Nat × PV))
  | [] => some []
  | (i, x) :: r => match σ.ev x, evParts σ r with
    | some p, some l => some ((i, p) :: l)
    | _, _ => none
theorem evParts_ok (h : Sim B m S σ a w) : ∀ {xs : List (Nat × Operand)} {l : List (Nat × PV)}, evParts σ xs = some l → All2 (fun (x : Nat × Value) (y : Nat × PV) => x.1 = y.1 ∧ Rep m w S x.2 y.2) (xs.map fun (i, x) => (i, a.eval x)) l
  | [], l, hl => by cases hl; trivial
  | (i, x) :: r, l, hl => by
    unfold evParts at hl
    split at hl
    · rename_i p l' h1 h2
      cases hl
      exact ⟨⟨rfl, ev_ok h h1⟩, evParts_ok h h2⟩
    · cases hl
def places (tb : Tab) : List Field → Option (List (Nat × Nat))
  | [] => some []
  | f :: r => match look f.type tb, places tb r with
    | some i, some l => some ((f.offset, i.size) :: l)
    | _, _ => none
theorem places_ok (hT : TabOk P tb) : ∀ {fs : List Field} {l : List (Nat × Nat)}, places tb fs = some l → (fs.mapM (m := Sem) fun f => do pure (f.offset, ← sizeOf f.type)).run P w = .ok l w
  | [], l, h => by cases h; rfl
  | f :: r, l, h => by
    unfold places at h
    split at h
    · rename_i i l' h1 h2
      cases h
      simp only [List.mapM_cons, Sem.run_bind, (hT.get h1).sizeOf, Result.andThen_ok, Sem.run_pure, places_ok hT h2]
    · cases h
def vBuild (tb : Tab) (σ : Sta) (t : Nat) (parts : List (Nat × Operand)) : Option (Prop × PV) :=
  match look t tb, evParts σ parts with
  | some ti, some ps => match ti.desc with
    | .struct fs => match places tb fs.toList with
      | some l => (pfill (l[·]?) (ti.zero.map fun v => .d (.v v)) ps).map fun cs => (True, .agg cs)
      | none => none
    | .array _ e => match look e tb with
      | some ei => (pfill (fun i => some (i * ei.size, ei.size)) (ti.zero.map fun v => .d (.v v)) ps).map fun cs => (True, .agg cs)
      | none => none
    | _ => none
  | _, _ => none
theorem all2_v (l : List Value) : All2 (Rep1 m w S) l (l.map fun v => PV.d (.v v)) := by
  induction l with
  | nil => trivial
  | cons x l ih => exact ⟨.v x, ih⟩
theorem TIOk.zeroValue {t : Nat} {i : TI} (h : TIOk P (t, i)) (w : World) : ∃ z, (zeroValue t).run P w = .ok z w ∧ z.cells = i.zero.toArray := by
  obtain ⟨j, z, h1, _, _, h2, h3⟩ := h.info
  exact ⟨z, by simp [Go.zeroValue, typeInfo, h1, h2], h3⟩
theorem vBuild_ok (hT : TabOk P tb) (h : Sim B m S σ a w) {t : Nat} {parts : Array (Nat × Operand)} {c : Prop} {p : PV} (hv : vBuild tb σ t parts.toList = some (c, p)) :
    ∃ r, (Instr.build t (parts.map fun (i, x) => (i, a.eval x))).run P w = .ok r w ∧ Rep m w S r p := by
  unfold vBuild at hv
  split at hv
  · rename_i ti ps h1 h2
    obtain ⟨z, hz, hzc⟩ := (hT.get h1).zeroValue w
    have hu := (hT.get h1).under
    have hps := evParts_ok h h2
    have hz2 : All2 (Rep1 m w S) z.cells.toList (ti.zero.map fun v => PV.d (.v v)) := by rw [hzc]; exact all2_v ti.zero
    split at hv
    · rename_i fs hd
      rw [hd] at hu
      split at hv
      · rename_i l hl
        obtain ⟨cs, hcs, he⟩ := Option.map_eq_some_iff.1 hv
        cases he
        obtain ⟨us, g1, g2⟩ := pfill_ok hps hz2 hcs
        refine ⟨.agg us, ?_, us.toList, rfl, g2⟩
        have hpl := places_ok (P := P) (w := w) hT hl
        have g1' : Instr.fill (fun x => l.toArray[x]?) z.cells (parts.map fun (i, x) => (i, a.eval x)).toList = some us := by
          rw [Array.toList_map]; simpa using g1
        simp only [Instr.build, Sem.run_bind, hz, Result.andThen_ok, run_underlying hu, Array.mapM_eq_mapM_toList, Sem.run_map, hpl]
        simp only [g1', Sem.run_pure]
      · cases hv
    · rename_i n e hd
      rw [hd] at hu
      split at hv
      · rename_i ei he
        obtain ⟨cs, hcs, he'⟩ := Option.map_eq_some_iff.1 hv
        cases he'
        obtain ⟨us, g1, g2⟩ := pfill_ok hps hz2 hcs
        refine ⟨.agg us, ?_, us.toList, rfl, g2⟩
        have g1' : Instr.fill (fun i => some (i * ei.size, ei.size)) z.cells (parts.map fun (i, x) => (i, a.eval x)).toList = some us := by
          rw [Array.toList_map]; exact g1
        simp only [Instr.build, Sem.run_bind, hz, Result.andThen_ok, run_underlying hu, (hT.get he).sizeOf, g1', Sem.run_pure]
      · cases hv
    · cases hv
  · cases hv
end
end Go.Proofs.YtplooifpgmlofaaGreat
