/- A range over a function: an iterator's contract; the frame of a round and the one around it; marks. No condition. -/
import Derived.Test.YtplooifpgmlofaaGreatV13r
namespace Go.Proofs.YtplooifpgmlofaaGreat
open Go.RowKit

def YldAt (P : Program) (l : Nat) (args : Array Value) (W : World) (R : Ending → World → Prop) : Prop :=
  ∃ fn tmps assign body, (Instr.yield l args).run P W = .ok (.round l fn tmps assign body) W ∧ RoundIn (rd none) 0 P l fn tmps assign body W R
def Iters (P : Program) (g : Nat) (caps : List PV) (ext : List MObj) (xs : List (List PV)) : Prop :=
  Plain P g ∧ ∀ (l : Nat) (vs : Array Value) (J : Nat → Cells → World → Prop) (R : World → Prop) (w : World) (S : Cells),
    (∀ i S W, J i S W → ∃ m T, All2 (Rep0 m W S) vs.toList caps ∧ MemOk ⟨W, T, S, m, [], [], fun _ => none, W⟩ m S (extMem 1000000 ext) W) →
    (∀ i S W W', J i S W → Grow (fun _ => False) W W' → J i S W') → (∀ W W', R W → Grow (fun _ => False) W W' → R W') →
    (∀ i S W x (args : Array Value), J i S W → xs[i]? = some x → All2 (Rep noMap W S) args.toList x → YldAt P l args W fun e W' =>
      (e = .returned (.bool true) ∧ ∃ S', J (i + 1) S' W' ∧ ∀ b o, S b o → S' b o ∧ W'.cell? ⟨b, o, none⟩ = W.cell? ⟨b, o, none⟩) ∨ (e = .returned (.bool false) ∧ R W')) →
    J 0 S w → CallsIn (rd none) 0 P g (#[.func (.yield l) #[] #[]] ++ vs) w fun e w' => (∃ v, e = .returned v) ∧ ((∃ S', J xs.length S' w') ∨ R w')

section
variable {P : Program} {B : Base} {m m' : Map} {S S' : Cells} {σ : Sta} {a : Act} {w w' : World} {mem : Mem} {ds : List (Nat × Obj)}
theorem Sim.drop {x : Nat × Obj} (h : Sim { B with ds := x :: ds } m S σ a w) : Sim { B with ds := ds } m S σ a w :=
  { dom := h.dom, objs := h.objs, subs := h.subs, subx := h.subx, parts := h.parts, young := h.young, grow := h.grow, sold := h.sold, snew := h.snew, sin := h.sin, scell := h.scell, ext := h.ext, marks := fun y hy => h.marks y (List.mem_cons_of_mem _ hy), defers := h.defers, size := h.size, frozen := h.frozen, slots := h.slots }
theorem Sim.mark (h : Sim { B with ds := ds } m S σ a w) {x : Nat × Obj} (h1 : objCells x.2 = false ∧ B.w.heap.size ≤ x.1) (h2 : w.heap[x.1]? = some x.2) (h3 : ∀ o, ¬ S x.1 o) : Sim { B with ds := x :: ds } m S σ a w :=
  { dom := h.dom, objs := h.objs, subs := h.subs, subx := h.subx, parts := h.parts, young := h.young, grow := h.grow, sold := h.sold, snew := h.snew, sin := h.sin, scell := h.scell, ext := h.ext, marks := fun y hy => (List.mem_cons.1 hy).elim (fun e => (by cases e; exact ⟨h1, h2, h3⟩)) (h.marks y), defers := h.defers, size := h.size, frozen := h.frozen, slots := h.slots }
theorem Sim.turn {x : Nat × Obj} (h : Sim { B with ds := x :: ds } m S σ a w) {o' : Obj} (hne : ∀ y ∈ ds, y.1 ≠ x.1) (ho : objCells o' = false) : Sim { B with ds := (x.1, o') :: ds } m S σ a (w.putObj x.1 o') := by
  obtain ⟨⟨h1, h2⟩, h3, h4⟩ := h.marks x (List.mem_cons_self ..)
  have hlt := (Array.getElem?_eq_some_iff.1 h3).1
  have hg : Grow (· = x.1) w (w.putObj x.1 o') := ⟨rfl, rfl, rfl, by simp, fun b _ hn => World.putObj_heap_other hn⟩
  have hm := h.toMemOk
  exact (h.drop.keep hg (fun k b hk e => hm.noMark hk (List.mem_cons_self ..) e.symm) (fun b o hs e => h4 o (e ▸ hs)) (fun b hb e => by
    have h2 : B.w.heap.size ≤ x.1 := h2
    have hb : b < B.w.heap.size := hb
    omega) fun y hy e => hne y hy e).mark ⟨ho, h2⟩ (World.putObj_heap_same hlt) h4
theorem MemOk.lend (h : MemOk B m S mem w) {ks : List Nat} (hlen : ks.length < 1000000) (hnd : ks.Nodup) (hk : ∀ k ∈ ks, (look k mem).isSome = true) (hcl : ∀ k ∈ ks, ∀ o, look k mem = some o → ∀ j ∈ o.keys, j ∈ ks) :
    ∃ T mE, MemOk ⟨w, T, S, mE, [], [], fun _ => none, w⟩ mE S (extMem 1000000 (ks.map fun k => ((look k mem).getD default).ren (toE ks))) w ∧ ∀ k ∈ ks, ∀ l, m k = some l → mE (toE ks k) = some l := by
  have hidx : ∀ k ∈ ks, ks[ks.idxOf k]? = some k := fun k hk => by
    have hlt := List.idxOf_lt_length_of_mem hk
    rw [List.getElem?_eq_getElem hlt, List.getElem_idxOf hlt]
  have hto : ∀ k ∈ ks, ∀ l, m k = some l → (if 1000000 ≤ toE ks k then (ks[toE ks k - 1000000]?).bind m else none) = some l := fun k hk l hl => by
    unfold toE
    rw [if_pos (by omega), Nat.add_sub_cancel_left, hidx k hk]
    exact hl
  refine ⟨fun b => ∃ k ∈ ks, m.has k b, ⟨fun j => if 1000000 ≤ j then (ks[j - 1000000]?).bind m else none, fun j => if 1000000 ≤ j then (ks[j - 1000000]?).elim (fun _ _ => none) m.sub else fun _ _ => none⟩, ?_, hto⟩
  have hget : ∀ j l, (if 1000000 ≤ j then (ks[j - 1000000]?).bind m else none) = some l → 1000000 ≤ j ∧ ∃ k, ks[j - 1000000]? = some k ∧ m k = some l := fun j l hj => by
    split at hj
    · rename_i h1
      refine ⟨h1, ?_⟩
      cases hk : ks[j - 1000000]? with
      | none => rw [hk] at hj; cases hj
      | some k => rw [hk] at hj; exact ⟨k, rfl, hj⟩
    · cases hj
  have hgeth : ∀ j b, (Map.mk (fun j => if 1000000 ≤ j then (ks[j - 1000000]?).bind m else none) fun j => if 1000000 ≤ j then (ks[j - 1000000]?).elim (fun _ _ => none) m.sub else fun _ _ => none).has j b → 1000000 ≤ j ∧ ∃ k, ks[j - 1000000]? = some k ∧ m.has k b := fun j b hj => by
    rcases hj with ⟨c, hj⟩ | ⟨i, c, hj⟩
    · obtain ⟨h1, k, h2, h3⟩ := hget j _ hj
      exact ⟨h1, k, h2, .inl ⟨c, h3⟩⟩
    · have hj : (if 1000000 ≤ j then (ks[j - 1000000]?).elim (fun _ _ => none) m.sub else fun _ _ => none) i c = some b := hj
      split at hj
      · rename_i h1
        refine ⟨h1, ?_⟩
        cases hk : ks[j - 1000000]? with
        | none => rw [hk] at hj; cases hj
        | some k => rw [hk] at hj; exact ⟨k, rfl, .inr ⟨i, c, hj⟩⟩
      · cases hj
  refine { dom := fun j l hj => ?_, objs := fun j o ho => ?_, subs := fun j i c b hj => ?_, subx := fun _ _ _ _ _ _ hb => .inr (.inr ⟨_, _, hb⟩), parts := fun j j' b hj hj' => ?_, young := fun j b hj => ?_, grow := Grow.refl _ _, sold := fun _ _ hs => hs, snew := fun _ _ hs _ => hs, sin := h.sin, scell := fun _ _ _ => rfl, ext := fun _ _ _ _ hl => .inl hl, marks := fun _ hx => nomatch hx }
  · obtain ⟨h1, k, h2, _⟩ := hget j l hj
    rw [look_ext, if_pos h1, List.getElem?_map, h2]
    rfl
  · rw [look_ext] at ho
    split at ho
    · rename_i h1
      rw [List.getElem?_map] at ho
      obtain ⟨k, h2, h3⟩ := Option.map_eq_some_iff.1 ho
      have hkm := List.mem_of_getElem? h2
      obtain ⟨o1, h4⟩ := Option.isSome_iff_exists.1 (hk k hkm)
      rw [h4, Option.getD_some] at h3
      subst h3
      refine (h.objs k o1 h4).ren (fun j' hj' l hl => hto j' (hcl k hkm o1 h4 j' hj') l hl) (fun l hl => ?_) ?_
      · show (if 1000000 ≤ j then (ks[j - 1000000]?).bind m else none) = some l
        rw [if_pos h1, h2]
        exact hl
      · show (if 1000000 ≤ j then (ks[j - 1000000]?).elim (fun _ _ => none) m.sub else fun _ _ => none) = _
        rw [if_pos h1, h2]
        rfl
    · cases ho
  · have hj : (if 1000000 ≤ j then (ks[j - 1000000]?).elim (fun _ _ => none) m.sub else fun _ _ => none) i c = some b := hj
    split at hj
    · rename_i h1
      cases h2 : ks[j - 1000000]? with
      | none => rw [h2] at hj; cases hj
      | some k =>
        rw [h2] at hj
        obtain ⟨o1, h3, h4⟩ := h.subs k i c b hj
        refine ⟨o1.ren (toE ks), ?_, by cases o1 <;> first | rfl | cases h4⟩
        rw [look_ext, if_pos h1, List.getElem?_map, h2, Option.map_some, h3]
        rfl
    · cases hj
  · obtain ⟨h1, k, h2, h3⟩ := hgeth j _ hj
    obtain ⟨h1', k', h2', h3'⟩ := hgeth j' _ hj'
    have e := h.parts k k' b h3 h3'
    subst e
    have hlt := (List.getElem?_eq_some_iff.1 h2).1
    have := (List.getElem?_inj hlt hnd).1 (h2.trans h2'.symm)
    omega
  · obtain ⟨h1, k, h2, h3⟩ := hgeth j _ hj
    have hlt := (List.getElem?_eq_some_iff.1 h2).1
    exact .inr ⟨⟨k, List.mem_of_getElem? h2, h3⟩, h1, by omega⟩
theorem Sim.base (h : Sim B m S σ a w) : Sim { B with S := S, cw := w } m S σ a w :=
  { dom := h.dom, objs := h.objs, subs := h.subs, subx := h.subx, parts := h.parts, young := h.young, grow := h.grow, sold := fun _ _ hs => hs, snew := fun _ _ hs _ => hs, sin := h.sin, scell := fun _ _ _ => rfl, ext := h.ext, marks := h.marks, defers := h.defers, size := h.size, frozen := h.frozen, slots := h.slots }
theorem Sim.rebase {B0 : Base} (h0 : MemOk B0 m S mem w) (h : Sim { B with S := S, cw := w } m' S' σ a w') (e1 : B0.w = B.w := by rfl) (e2 : B0.S = B.S := by rfl) (e3 : B0.cw = B.cw := by rfl) : Sim B m' S' σ a w' :=
  { dom := h.dom, objs := h.objs, subs := h.subs, subx := h.subx, parts := h.parts, young := h.young, grow := h.grow, sold := fun b o hs => h.sold b o (h0.sold b o (by rw [e2]; exact hs)), snew := fun b o hs hb => (by rw [← e2]; exact h0.snew b o (h.snew b o hs hb) (by rw [e1]; exact hb)), sin := h.sin, scell := fun b o hs => (h.scell b o (h0.sold b o (by rw [e2]; exact hs))).trans (by rw [← e3]; exact h0.scell b o (by rw [e2]; exact hs)), ext := h.ext, marks := h.marks, defers := h.defers, size := h.size, frozen := h.frozen, slots := h.slots }

def slotsP : List Tmp → List PV → Slots → Slots
  | p :: ps, x :: xs, s => slotsP ps xs ((p, x) :: s)
  | _, _, s => s
def outS (n : Nat) (σ : Sta) : Sta := ⟨n, σ.slots.filter fun e => froz σ.n e.1, σ.mem⟩
theorem look_filter {α : Type} {f : Nat → Bool} {i : Nat} {p : α} : ∀ {l : List (Nat × α)}, look i (l.filter fun e => f e.1) = some p → f i = true ∧ look i l = some p
  | [], h => by cases h
  | (j, q) :: r, h => by
    rw [List.filter_cons] at h
    by_cases hf : f j = true
    · rw [if_pos hf] at h
      rcases look_cons h with ⟨rfl, rfl⟩ | ⟨hne, h⟩
      · exact ⟨hf, by simp [look]⟩
      · obtain ⟨h1, h2⟩ := look_filter h
        exact ⟨h1, by unfold look; rw [if_neg hne]; exact h2⟩
    · rw [if_neg hf] at h
      obtain ⟨h1, h2⟩ := look_filter h
      exact ⟨h1, by unfold look; rw [if_neg (fun e : i = j => hf (e ▸ h1))]; exact h2⟩
theorem Sim.outR {a' : Act} {g : Nat → Option Value} {df : List Deferred} {n : Nat} (h : Sim { B with df := [], gh := fun i => a'.tmps[i]? } m S σ a w) (hdf : a'.defers = df) (hn : n < 10000) (hs : a'.tmps.size = wid n) : Sim { B with df := df, gh := g } m S (outS n σ) a' w :=
  { dom := h.dom, objs := h.objs, subs := h.subs, subx := h.subx, parts := h.parts, young := h.young, grow := h.grow, sold := h.sold, snew := h.snew, sin := h.sin, scell := h.scell, ext := h.ext, marks := h.marks, defers := hdf, size := hs, frozen := fun i hi => absurd hi (by show ¬ froz n i = true; unfold froz; rw [if_pos hn]; exact Bool.false_ne_true), slots := fun i p hp => (by
      obtain ⟨h1, h2⟩ := look_filter (f := fun d => froz σ.n d) hp
      obtain ⟨v, h3, h4⟩ := h.slots i p h2
      exact ⟨v, by rw [← h3]; exact (h.frozen i h1).symm, h4⟩) }
theorem Sim.puts (h : Sim B m S σ a w) : ∀ (ps : List Tmp) (vs : List Value) (xs : List PV) {s : Slots} {t : Array Value}, Sim B m S { σ with slots := s } { a with tmps := t } w → (ps.all fun p => σ.has (some p)) = true → All2 (Rep m w S) vs xs →
    Sim B m S { σ with slots := slotsP ps xs s } { a with tmps := (ps.zip vs).foldl (fun t e => t.setIfInBounds e.1 e.2) t } w
  | [], _, _, s, t, hs, _, _ => by simpa [slotsP] using hs
  | p :: ps, [], [], s, t, hs, _, _ => by simpa [slotsP] using hs
  | p :: ps, v :: vs, x :: xs, s, t, hs, hp, ⟨h1, h2⟩ => by
    simp only [List.all_cons, Bool.and_eq_true] at hp
    exact Sim.puts h ps vs xs (hs.put h1 (some p) hp.1) hp.2 h2
theorem Sim.inR (h : Sim B m S σ a w) {mask : Nat} {ps : Array Tmp} {args : Array Value} {xs : List PV} (hp : (ps.toList.all fun p => Sta.has ⟨σ.n + 10000 * mask, σ.slots, σ.mem⟩ (some p)) = true) (hx : All2 (Rep m w S) args.toList xs) :
    Sim { B with df := [], gh := fun i => a.tmps[i]? } m S ⟨σ.n + 10000 * mask, slotsP ps.toList xs σ.slots, σ.mem⟩ { tmps := (ps.zip args).foldl (fun t (p, v) => t.setIfInBounds p v) a.tmps, defers := [] } w := by
  have h1 : Sim { B with df := [], gh := fun i => a.tmps[i]? } m S ⟨σ.n + 10000 * mask, σ.slots, σ.mem⟩ { tmps := a.tmps, defers := [] } w :=
    { dom := h.dom, objs := h.objs, subs := h.subs, subx := h.subx, parts := h.parts, young := h.young, grow := h.grow, sold := h.sold, snew := h.snew, sin := h.sin, scell := h.scell, ext := h.ext, marks := h.marks, defers := rfl, size := h.size.trans (by unfold wid; show _ = (σ.n + 10000 * mask) % 10000; omega), frozen := fun i _ => rfl, slots := h.slots }
  have h2 := Sim.puts h1 ps.toList args.toList xs (s := σ.slots) (t := a.tmps) h1 hp hx
  have e : (ps.zip args).foldl (fun t (p, v) => t.setIfInBounds p v) a.tmps = (ps.toList.zip args.toList).foldl (fun t e => t.setIfInBounds e.1 e.2) a.tmps := by
    rw [← Array.foldl_toList, Array.toList_zip]
  rw [e]
  exact h2
end
end Go.Proofs.YtplooifpgmlofaaGreat
