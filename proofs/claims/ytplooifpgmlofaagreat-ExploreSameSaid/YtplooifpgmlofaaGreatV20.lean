/- What an argument stands for, type by type: read out of memory, as data. No condition. -/
import Derived.Test.YtplooifpgmlofaaGreatV19
import Derived.ProofKit
import Derived.Lib.SmallJoins
import Derived.Deep.Slices
import Derived.ChangeOld
import Derived.OpenShut
namespace Go.Proofs.YtplooifpgmlofaaGreat
open Go.ChangeShapes Go.WideShapes Go.RowKit Go.Joins

def allCells (w : World) : Cells := fun b _ => b < w.heap.size
def Opens (P : Program) (t : TypeId) (Q : List D → Prop) : Prop :=
  ∀ (H : Type) (enc : TypeId × Value → H) (w : World) (base : Nat) (spare : Nat → Bool) (held : Bool) (fuel : Nat) (cs : List Value) (x : DataW H × List MemPlace), DataW.trod enc P w base spare held fuel t cs = some x →
    ∃ ds, Q ds ∧ All2 (RepD w (allCells w)) cs ds ∧ cs.length = P.cellsOf t ∧ ∀ c ∈ cs, c.oneCell' = true
section
variable {P : Program} {t : TypeId}
theorem Opens.mono {Q Q' : List D → Prop} (h : Opens P t Q) (hq : ∀ ds, Q ds → Q' ds) : Opens P t Q' := fun H enc w base spare held fuel cs x hx =>
  let ⟨ds, h1, h2⟩ := h H enc w base spare held fuel cs x hx
  ⟨ds, hq ds h1, h2⟩
theorem opens_int {k : IntKind} (ht : P.underlying t = some (.int k)) (hc : P.cellsOf t = 1) : Opens P t (fun ds => ∃ n, ds = [.v (.int k n)] ∧ k.min ≤ n ∧ n ≤ k.max) := fun H enc w base spare held fuel cs x h => by
  obtain ⟨n, rfl, _, hw⟩ := DataW.trod_int ht h
  refine ⟨_, ⟨n, rfl, ?_⟩, ⟨.v _, trivial⟩, hc.symm, by simp [Value.oneCell']⟩
  simpa [Lit.wf] using hw
theorem opens_bool (ht : P.underlying t = some .bool) (hc : P.cellsOf t = 1) : Opens P t (fun ds => ∃ b, ds = [.v (.bool b)]) := fun H enc w base spare held fuel cs x h => by
  obtain ⟨n, rfl, _⟩ := DataW.trod_bool ht h
  exact ⟨_, ⟨n, rfl⟩, ⟨.v _, trivial⟩, hc.symm, by simp [Value.oneCell']⟩
def Cat : List (List D → Prop) → List D → Prop
  | [], ds => ds = []
  | Q :: Qs, ds => ∃ d r, ds = d ++ r ∧ Q d ∧ Cat Qs r
def FieldsOpen (P : Program) : Nat → List Field → List (List D → Prop) → Nat → Prop
  | o, [], [], n => o = n
  | o, f :: fs, Q :: Qs, n => f.offset = o ∧ Opens P f.type Q ∧ FieldsOpen P (o + P.cellsOf f.type) fs Qs n
  | _, _, _, _ => False
theorem opens_fields {H : Type} {enc : TypeId × Value → H} {w : World} {base : Nat} {spare : Nat → Bool} {held : Bool} {n N : Nat} {cs : List Value} (hN : cs.length = N) : ∀ {fs : List Field} {Qs : List (List D → Prop)} {o : Nat} {xs : List (DataW H × List MemPlace)},
    FieldsOpen P o fs Qs N → xs.length = fs.length → (∀ (i : Nat) (f : Field), fs[i]? = some f → DataW.trod enc P w base spare held n f.type ((cs.drop f.offset).take (P.cellsOf f.type)) = xs[i]?) →
    ∃ ds, Cat Qs ds ∧ All2 (RepD w (allCells w)) (cs.drop o) ds ∧ ∀ c ∈ cs.drop o, c.oneCell' = true
  | [], [], o, xs, h, _, _ => by
    have h : o = N := h
    have e : cs.drop o = [] := List.drop_of_length_le (by omega)
    rw [e]
    exact ⟨[], rfl, trivial, by simp⟩
  | f :: fs, Q :: Qs, o, x :: xs, ⟨h1, h2, h3⟩, hl, hx => by
    have h0 := hx 0 f rfl
    obtain ⟨d, k1, k2, k3, k4⟩ := h2 H enc w base spare held n _ x h0
    obtain ⟨r, g1, g2, g3⟩ := opens_fields (xs := xs) hN h3 (by simpa using hl) fun i g hg => by simpa using hx (i + 1) g (by simpa using hg)
    rw [h1] at k2 k3 k4
    have e : cs.drop o = (cs.drop o).take (P.cellsOf f.type) ++ cs.drop (o + P.cellsOf f.type) := by rw [← List.drop_drop, List.take_append_drop]
    rw [e]
    refine ⟨d ++ r, ⟨d, r, rfl, k1, g1⟩, k2.app g2, fun c hc => ?_⟩
    rcases List.mem_append.1 hc with hc | hc
    · exact k4 c hc
    · exact g3 c hc
  | [], _ :: _, _, _, h, _, _ => h.elim
  | _ :: _, [], _, _, h, _, _ => h.elim
  | _ :: _, _ :: _, _, [], _, hl, _ => by simp at hl
theorem opens_struct {fs : Array Field} {Qs : List (List D → Prop)} (ht : P.underlying t = some (.struct fs)) (hf : FieldsOpen P 0 fs.toList Qs (P.cellsOf t)) : Opens P t (Cat Qs) := fun H enc w base spare held fuel cs x h => by
  obtain ⟨xs, n, _, _, hlen, hxl, hx⟩ := DataW.trod_struct ht h
  obtain ⟨ds, h1, h2, h3⟩ := opens_fields (xs := xs) hlen hf (by simpa using hxl) fun i f hi => hx i f (by simpa using hi)
  exact ⟨ds, h1, by simpa using h2, hlen, by simpa using h3⟩
theorem opens_slice {e : TypeId} {Q : List D → Prop} (ht : P.underlying t = some (.slice e)) (hc : P.cellsOf t = 1) (he : Opens P e Q) {sz : Nat} (hsz : P.cellsOf e = sz) (h0 : 0 < sz) :
    Opens P t (fun ds => ∃ xs : List (List D), ds = [.sl sz xs] ∧ (∀ x ∈ xs, Q x) ∧ xs.length ≤ maxLen) := fun H enc w base spare held fuel cs x h => by
  subst hsz
  rcases Go.Deep.open_slice ht h with ⟨rfl, _⟩ | ⟨a, len, cap, m, n, Ds, Pl, rfl, _, hl, hm, hmm, _, hi⟩
  · refine ⟨_, ⟨[], rfl, by simp, by simp⟩, ⟨?_, trivial⟩, hc.symm, by simp [Value.oneCell']⟩
    exact .sl none 0 0 _ [] (fun _ _ => .bool false) rfl (Nat.le_refl _) (Nat.zero_le _) (fun _ => rfl) h0 (by simp) (fun h => by simp at h) (fun i j h => by simp at h) (fun i x j p h => by simp at h)
  · have hlm : len ≤ m := by rw [hmm]; split <;> omega
    obtain ⟨f, hf⟩ := Go.Deep.choose_lt (n := len) (p := fun i (cs' : List Value) => w.cells? base (a.add (i * P.cellsOf e)) (P.cellsOf e) = some cs' ∧ DataW.trod enc P w base spare held n e cs' = some (Ds i, Pl i)) fun i hi' => hi i (by omega)
    obtain ⟨g, hg⟩ := Go.Deep.choose_lt (n := len) (p := fun i (ds : List D) => Q ds ∧ All2 (RepD w (allCells w)) (f i) ds ∧ (f i).length = P.cellsOf e ∧ ∀ c ∈ f i, c.oneCell' = true) fun i hi' => he H enc w base spare held n _ _ (hf i hi').2
    refine ⟨_, ⟨(List.range len).map g, rfl, fun x hx => ?_, by simp; omega⟩, ⟨?_, trivial⟩, hc.symm, by simp [Value.oneCell']⟩
    · obtain ⟨i, hi', rfl⟩ := List.mem_map.1 hx
      exact (hg i (by simpa using hi')).1
    · have cell : ∀ i j, i < len → j < P.cellsOf e → ∃ v, (f i)[j]? = some v ∧ w.cell? ((a.add (i * P.cellsOf e)).add j) = some v := fun i j h1 h2 => by
        obtain ⟨_, k1, k2⟩ := World.cells?_some (hf i h1).1
        have h3 : j < (f i).length := by omega
        exact ⟨(f i)[j], List.getElem?_eq_getElem h3, (k2 j h2).trans (List.getElem?_eq_getElem h3)⟩
      refine .sl (some a) len cap _ _ (fun i j => (f i).getD j (.bool false)) (by simp) hl hm (fun h => by cases h) h0 (fun x hx => ?_) (fun hn => ?_) (fun i j h1 h2 => ?_) (fun i x j p h1 h2 => ?_)
      · obtain ⟨i, hi', rfl⟩ := List.mem_map.1 hx
        obtain ⟨_, k1, k2, _⟩ := hg i (by simpa using hi')
        rw [← k1.len, k2]
      · have hn : 0 < len := by simpa using hn
        obtain ⟨v, _, hv⟩ := cell 0 0 hn h0
        have hsp := World.cell?_spot hv
        obtain ⟨b, o, sp⟩ := a
        have hsp' : sp = none := by simpa [Addr.add] using hsp
        subst hsp'
        refine ⟨b, o, rfl, fun i j h1 h2 => ?_⟩
        obtain ⟨v, k1, k2⟩ := cell i j (by simpa using h1) h2
        rw [Addr.add_lit, Addr.add_lit] at k2
        have hlt := World.block_lt_of_cell? w _ k2
        refine ⟨hlt, ?_⟩
        show _ = some ((f i).getD j (.bool false))
        rw [List.getD_eq_getElem?_getD, k1]
        exact k2
      · have h1 : i < len := by simpa using h1
        obtain ⟨v, k1, _⟩ := cell i j h1 h2
        show ((f i).getD j (.bool false)).oneCell' = true
        rw [List.getD_eq_getElem?_getD, k1]
        exact (hg i h1).2.2.2 v (List.mem_of_getElem? k1)
      · have h1' : i < len := by have := (List.getElem?_eq_some_iff.1 h1).1; simpa using this
        rw [List.getElem?_map, List.getElem?_range h1'] at h1
        obtain rfl : g i = x := Option.some.inj h1
        obtain ⟨v, k1, k2⟩ := (hg i h1').2.1.get h2
        show RepD w _ ((f i).getD j (.bool false)) p
        rw [List.getD_eq_getElem?_getD, k1]
        exact k2
theorem rows_of {α : Type} {enc : α → List D} {Q : α → Prop} : ∀ {xs : List (List D)}, (∀ x ∈ xs, ∃ a, x = enc a ∧ Q a) → ∃ l : List α, xs = l.map enc ∧ ∀ a ∈ l, Q a
  | [], _ => ⟨[], rfl, by simp⟩
  | x :: xs, h => by
    obtain ⟨a, rfl, ha⟩ := h _ List.mem_cons_self
    obtain ⟨l, rfl, hl⟩ := rows_of (xs := xs) fun y hy => h y (List.mem_cons_of_mem _ hy)
    exact ⟨a :: l, rfl, fun b hb => by exact (List.mem_cons.1 hb).elim (fun e => e ▸ ha) (hl b)⟩

section
variable {H : Type} {enc : TypeId × Value → H} {w : World} {base : Nat} {spare : Nat → Bool} {held : Bool} {r : Reach} {b0 : Nat} {v : Value} {d : DataW H} {p : List MemPlace} {Q : List D → Prop} {m : Map}
theorem arg_struct {fs : Array Field} (ht : P.underlying t = some (.struct fs)) (ho : Opens P t Q) (hv : Value.okWide P w r b0 t v) (h : DataW.Trod enc P w base spare held t v d p) : ∃ ds, Q ds ∧ Rep m w (allCells w) v (.agg (ds.map .d)) := by
  obtain ⟨cs, rfl, hsz⟩ := okWide_struct ht hv
  obtain ⟨fuel, hf⟩ := h
  obtain ⟨ds, h1, h2, _⟩ := ho H enc w base spare held fuel _ _ hf
  exact ⟨ds, h1, cs.toList, by simp, h2.maps fun a b _ hab => hab⟩
end
theorem Meets.calls {f : Nat} {args : List PV} {p : PV} (h : Meets P f args [] (Ret p)) {w : World} {vs : Array Value} (hv : All2 (Rep noMap w (allCells w)) vs.toList args) :
    Calls P f vs w fun e w' => ∃ v m' S', e = .returned v ∧ Rep m' w' S' v p ∧ Below w.heap.size w w' := by
  refine (h.2 w (allCells w) noMap (fun _ => False) vs hv ?_).mono ?_
  · exact { dom := fun k l hk => (by cases hk), objs := fun k o hk => (by simp [extMem, look] at hk), subs := fun _ _ _ _ hk => (by cases hk), subx := fun _ _ _ _ _ _ hb => .inr (.inr ⟨_, _, hb⟩), parts := fun _ _ _ hk => (noMap_has hk).elim, young := fun _ _ hk => (noMap_has hk).elim, grow := Grow.refl _ _, sold := fun _ _ hs => hs, snew := fun _ _ hs _ => hs, sin := fun _ _ hs => hs, scell := fun _ _ _ => rfl, ext := fun k l _ _ hk => .inl hk, marks := fun _ hx => nomatch hx }
  · rintro e w' ⟨r, v, m', S', rfl, rfl, h1, h2, _⟩
    have g := h2.grow
    exact ⟨v, m', S', rfl, h1, ⟨g.os, g.tape, g.output, g.size, fun b hb => g.block b hb fun h => h⟩⟩
theorem Meets.law {f : Nat} {args : List PV} (h : Meets P f args [] (Ret (.b true))) {w : World} {vs : Array Value} (hv : All2 (Rep noMap w (allCells w)) vs.toList args) :
    Calls P f vs w fun e w' => e = .returned (.bool true) ∧ Below w.heap.size w w' :=
  (h.calls hv).mono fun e w' ⟨v, m', S', he, hr, hb⟩ => by
    have hr : RepD w' S' v (.v (.bool true)) := hr
    cases hr
    exact ⟨he, hb⟩
end
end Go.Proofs.YtplooifpgmlofaaGreat
