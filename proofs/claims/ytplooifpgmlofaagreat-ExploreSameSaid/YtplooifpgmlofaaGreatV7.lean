/- Steps of the world seen through plain values: a slot is set, a block is made, an object is written, a row is let go. No condition. -/
import Derived.Test.YtplooifpgmlofaaGreatV6
namespace Go.Proofs.YtplooifpgmlofaaGreat
open Go.RowKit

section
variable {P : Program} {tb : Tab} {B : Base} {m m' : Map} {S S' : Cells} {σ : Sta} {a : Act} {w w' : World} {mem mem' : Mem}

def Sta.put (σ : Sta) : Option Nat → PV → Sta
  | none, _ => σ
  | some d, p => { σ with slots := (d, p) :: σ.slots }
def Sta.has (σ : Sta) : Option Nat → Bool
  | none => true
  | some d => decide (d < wid σ.n) && !froz σ.n d
theorem Sta.has_lt {σ : Sta} {d : Nat} (h : σ.has (some d) = true) : d < wid σ.n := by
  have : d < wid σ.n ∧ froz σ.n d = false := by simpa [Sta.has] using h
  exact this.1
theorem Sta.has_small {σ : Sta} {d : Nat} (h : σ.has (some d) = true) : d < 10000 := Nat.lt_trans (Sta.has_lt h) (wid_lt _)
theorem Sim.put (h : Sim B m S σ a w) {v : Value} {p : PV} (hr : Rep m w S v p) (d : Option Nat) (hd : σ.has d = true) : Sim B m S (σ.put d p) (a.put d v) w := by
  cases d with
  | none => exact h
  | some t =>
    have hd0 : t < wid σ.n ∧ froz σ.n t = false := by simpa [Sta.has] using hd
    have hd := hd0.1
    refine { h.toMemOk with defers := h.defers, size := ?_, frozen := fun i hi => ?_, slots := fun i q hq => ?_ }
    · show (a.tmps.setIfInBounds t v).size = wid σ.n
      rw [Array.size_setIfInBounds]; exact h.size
    · show (a.tmps.setIfInBounds t v)[i]? = _
      have hi : froz σ.n i = true := hi
      rw [Array.getElem?_setIfInBounds, if_neg (fun e => by rw [← e, hd0.2] at hi; cases hi)]
      exact h.frozen i hi
    · show ∃ u, (a.tmps.setIfInBounds t v)[i]? = some u ∧ _
      rcases look_cons hq with ⟨rfl, rfl⟩ | ⟨hne, hq⟩
      · exact ⟨v, by rw [Array.getElem?_setIfInBounds]; simp [h.size, hd], hr⟩
      · obtain ⟨u, h1, h2⟩ := h.slots i q hq
        exact ⟨u, by rw [Array.getElem?_setIfInBounds, if_neg (fun e => hne e.symm)]; exact h1, h2⟩

theorem Sim.world (h : Sim B m S σ a w) (h' : MemOk B m' S' mem' w') (hS : ∀ b o, S b o → S' b o) (hc : ∀ b o, S b o → w'.cell? ⟨b, o, none⟩ = w.cell? ⟨b, o, none⟩) (hm : ∀ k l, m k = some l → m' k = some l) : Sim B m' S' { σ with mem := mem' } a w' :=
  { h' with defers := h.defers, size := h.size, frozen := h.frozen, slots := fun i p hp => let ⟨v, h1, h2⟩ := h.slots i p hp; ⟨v, h1, h2.keep hS hc fun k _ l => hm k l⟩ }

theorem MemOk.lt (h : MemOk B m S mem w) {k b c : Nat} (hk : m k = some ⟨some b, c⟩) : b < w.heap.size := by
  have h1 := h.dom k _ hk
  obtain ⟨o, ho⟩ := Option.isSome_iff_exists.1 h1
  exact (h.objs k o ho).lt hk
theorem MemOk.ltH (h : MemOk B m S mem w) {k b : Nat} (hk : m.has k b) : b < w.heap.size := by
  rcases hk with ⟨c, hk⟩ | ⟨i, c, hk⟩
  · exact h.lt hk
  · obtain ⟨o, ho, hn⟩ := h.subs k i c b hk
    cases o with
    | nest t sz xs pr cs foc =>
      obtain ⟨_, h1, l, _, h2⟩ := h.objs k _ ho
      obtain ⟨⟨arr, e, h3⟩, _⟩ := h2.subs h1 hk
      exact (Array.getElem?_eq_some_iff.1 h3).1
    | sys H =>
      obtain ⟨b', c', _, h2⟩ := h.objs k _ ho
      obtain ⟨ob, h3, _⟩ := H.held h2 b (.inr ⟨i, c, hk⟩)
      exact (Array.getElem?_eq_some_iff.1 h3).1
    | _ => cases hn
theorem ObjOk.cells {k : Nat} {o : MObj} (h : ObjOk m w S k o) {b c : Nat} (hk : m k = some ⟨some b, c⟩) : ∃ ob, w.heap[b]? = some ob ∧ objCells ob = true := by
  cases o with
  | box t cs =>
    obtain ⟨b', c', arr, h1, h2, _⟩ := h
    rw [hk] at h1; cases h1
    exact ⟨_, h2, rfl⟩
  | row t sz xs l =>
    obtain ⟨_, _, l', h1, h2⟩ := h
    rw [hk] at h1; cases h1
    rcases h2 with ⟨h2, _⟩ | ⟨b', arr, us, h2, h3, _⟩
    · cases h2
    · cases h2; exact ⟨_, h3, rfl⟩
  | map es =>
    obtain ⟨b', c', ents, clock, h1, h2, _⟩ := h
    rw [hk] at h1; cases h1
    exact ⟨_, h2, rfl⟩
  | grown t sz xs =>
    obtain ⟨_, _, l', h1, h2⟩ := h
    rw [hk] at h1; cases h1
    rcases h2 with ⟨h2, _⟩ | ⟨b', arr, us, h2, h3, _⟩
    · cases h2
    · cases h2; exact ⟨_, h3, rfl⟩
  | nest t sz xs pr cs foc =>
    obtain ⟨_, _, l', h1, h2⟩ := h
    rw [hk] at h1; cases h1
    rcases h2 with ⟨h2, _⟩ | ⟨b', arr, us, h2, h3, _⟩
    · cases h2
    · cases h2; exact ⟨_, h3, rfl⟩
  | sys H =>
    obtain ⟨b', c', h1, h2⟩ := h
    rw [hk] at h1; cases h1
    exact H.held h2 b (.inl rfl)
theorem MemOk.cellsH (h : MemOk B m S mem w) {k b : Nat} (hk : m.has k b) : ∃ ob, w.heap[b]? = some ob ∧ objCells ob = true := by
  rcases hk with ⟨c, hk⟩ | ⟨i, c, hk⟩
  · have h1 := h.dom k _ hk
    obtain ⟨o, ho⟩ := Option.isSome_iff_exists.1 h1
    exact (h.objs k o ho).cells hk
  · obtain ⟨o, ho, hn⟩ := h.subs k i c b hk
    cases o with
    | nest t sz xs pr cs foc =>
      obtain ⟨_, h1, l, _, h2⟩ := h.objs k _ ho
      obtain ⟨⟨arr, e, h3⟩, _⟩ := h2.subs h1 hk
      exact ⟨_, h3, rfl⟩
    | sys H =>
      obtain ⟨b', c', _, h2⟩ := h.objs k _ ho
      exact H.held h2 b (.inr ⟨i, c, hk⟩)
    | _ => cases hn
theorem MemOk.noMark (h : MemOk B m S mem w) {k b : Nat} (hk : m.has k b) {x : Nat × Obj} (hx : x ∈ B.ds) (e : x.1 = b) : False := by
  obtain ⟨ob, g1, g2⟩ := h.cellsH hk
  obtain ⟨⟨g3, _⟩, g4, _⟩ := h.marks x hx
  rw [e, g1] at g4
  cases g4
  rw [g2] at g3
  cases g3
theorem MemOk.keep (h : MemOk B m S mem w) {T' : Nat → Prop} (hg : Grow T' w w') (h1 : ∀ k b, m.has k b → ¬ T' b) (h2 : ∀ b o, S b o → ¬ T' b) (h3 : ∀ b, b < B.w.heap.size → T' b → B.T b) (h4 : ∀ x ∈ B.ds, ¬ T' x.1) : MemOk B m S mem w' :=
  { dom := h.dom, subs := h.subs, subx := h.subx, parts := h.parts, young := h.young, sold := h.sold, snew := h.snew, ext := h.ext, marks := fun x hx => ⟨(h.marks x hx).1, (hg.block x.1 (Array.getElem?_eq_some_iff.1 (h.marks x hx).2.1).1 (h4 x hx)).trans (h.marks x hx).2.1, (h.marks x hx).2.2⟩,
    objs := fun k o ho => (h.objs k o ho).keep (fun _ _ hs => hs) (hg.cells h.sin h2) (fun _ _ _ hl => hl) (fun _ hl => hl) rfl fun b hb => ⟨hg.block b (h.ltH hb) (h1 k b hb), fun _ hs => hs⟩,
    grow := h.grow.step hg h3,
    sin := fun b o hs => Nat.lt_of_lt_of_le (h.sin b o hs) hg.size,
    scell := fun b o hs => (hg.cells h.sin h2 b o (h.sold b o hs)).trans (h.scell b o hs) }
theorem Sim.keep (h : Sim B m S σ a w) {T' : Nat → Prop} (hg : Grow T' w w') (h1 : ∀ k b, m.has k b → ¬ T' b) (h2 : ∀ b o, S b o → ¬ T' b) (h3 : ∀ b, b < B.w.heap.size → T' b → B.T b) (h4 : ∀ x ∈ B.ds, ¬ T' x.1) : Sim B m S σ a w' :=
  h.world (h.toMemOk.keep hg h1 h2 h3 h4) (fun _ _ hs => hs) (hg.cells h.sin h2) fun _ _ hl => hl
theorem Sim.grown0 (h : Sim B m S σ a w) (hg : Grow (fun _ => False) w w') : Sim B m S σ a w' := h.keep hg (fun _ _ _ h => h) (fun _ _ _ h => h) (fun _ _ h => h.elim) fun _ _ h => h
theorem Sim.drewn (h : Sim B m S σ a w) : Sim B m S σ a { w with drawn := w.drawn + 1 } := h.grown0 (Grow.drewn _ w)

def upd (m : Map) (k : Nat) (l : Loc) : Map := ⟨fun j => if j = k then some l else m j, m.sub⟩
theorem upd_same (m : Map) (k : Nat) (l : Loc) : upd m k l k = some l := by simp [upd]
theorem upd_at (m : Map) (k : Nat) (l : Loc) (j : Nat) : upd m k l j = if j = k then some l else m j := rfl
theorem upd_of {k : Nat} {l : Loc} (hk : m k = none) : ∀ j l', m j = some l' → upd m k l j = some l' := by
  intro j l' hj
  rw [upd_at, if_neg (by rintro rfl; rw [hk] at hj; cases hj)]
  exact hj
theorem upd_has {k j b : Nat} {l : Loc} (h : (upd m k l).has j b) : (j = k ∧ l.blk = some b) ∨ m.has j b := by
  rcases h with ⟨c, h⟩ | h
  · rw [upd_at] at h
    split at h
    · rename_i e; cases h; exact .inl ⟨e, rfl⟩
    · exact .inr (.inl ⟨c, h⟩)
  · exact .inr (.inr h)
theorem MemOk.newK (h : MemOk B m S mem w) {k : Nat} {o : MObj} {l : Loc} (hkk : k < 1000000 ∨ 2000000 ≤ k) (hk : look k mem = none) (hl : ∀ b, l.blk = some b → w.heap.size ≤ b) (hg : Grow (fun _ => False) w w') (ho : ObjOk (upd m k l) w' S k o) : MemOk B (upd m k l) S ((k, o) :: mem) w' := by
  have hmk : m k = none := by
    cases hm : m k with
    | none => rfl
    | some l => have := h.dom k l hm; rw [hk] at this; cases this
  have h' := h.keep hg (fun _ _ _ h => h) (fun _ _ _ h => h) (fun _ _ h => h.elim) fun _ _ h => h
  refine { dom := fun j l' hj => ?_, objs := fun j q hq => ?_, subs := fun j i c b hj => ?_, subx := fun j h1 h2 i c b hj => h.subx j h1 h2 i c b hj, parts := fun j j' b hj hj' => ?_, young := fun j b hj => ?_, grow := h'.grow, sold := h'.sold, snew := h'.snew, sin := h'.sin, scell := h'.scell, marks := h'.marks, ext := fun j l' hj1 hj2 hj => ?_ }
  · unfold look
    split
    · rfl
    · rename_i hne
      rw [upd_at, if_neg hne] at hj
      exact h.dom j l' hj
  · rcases look_cons hq with ⟨rfl, rfl⟩ | ⟨hne, hq⟩
    · exact ho
    · exact (h'.objs j q hq).keep (fun _ _ hs => hs) (fun _ _ _ => rfl) (fun j _ l => upd_of hmk j l) (fun l => upd_of hmk j l) rfl fun _ _ => ⟨rfl, fun _ hs => hs⟩
  · obtain ⟨q, hq, hn⟩ := h.subs j i c b hj
    exact ⟨q, by unfold look; rw [if_neg (by rintro rfl; rw [hk] at hq; cases hq)]; exact hq, hn⟩
  · rcases upd_has hj with ⟨e0, e1⟩ | gj <;> rcases upd_has hj' with ⟨e0', e2⟩ | gj'
    · rw [e0, e0']
    · have := hl b e1
      have := h.ltH gj'
      omega
    · have := hl b e2
      have := h.ltH gj
      omega
    · exact h.parts j j' b gj gj'
  · rcases upd_has hj with ⟨e0, e1⟩ | gj
    · have := hl b e1
      have := h.grow.size
      exact .inl (by omega)
    · exact h.young j b gj
  · rw [upd_at, if_neg (by omega)] at hj
    exact (h.ext j l' hj1 hj2 hj).imp id fun ⟨g1, g2⟩ => ⟨look_more g1, g2⟩
theorem MemOk.new (h : MemOk B m S mem w) {k : Nat} {o : MObj} {l : Loc} (hkk : k < 1000000) (hk : look k mem = none) (hl : ∀ b, l.blk = some b → w.heap.size ≤ b) (hg : Grow (fun _ => False) w w') (ho : ObjOk (upd m k l) w' S k o) : MemOk B (upd m k l) S ((k, o) :: mem) w' := h.newK (.inl hkk) hk hl hg ho
def markM (k : Nat) (mem : Mem) : Mem := if k < 1000000 then mem else if (look (k + 3000000) mem).isSome = true then mem else (k + 3000000, .row 0 1 [] false) :: mem
theorem look_markM {k j : Nat} {mem : Mem} (h : j ≠ k + 3000000) : look j (markM k mem) = look j mem := by
  unfold markM
  split
  · rfl
  · split
    · rfl
    · show (if j = k + 3000000 then _ else _) = _
      rw [if_neg h]
theorem look_markM_more {k j : Nat} {mem : Mem} (h : (look j mem).isSome = true) : (look j (markM k mem)).isSome = true := by
  unfold markM
  split
  · exact h
  · split
    · exact h
    · exact look_more h
theorem look_markM_has {k : Nat} {mem : Mem} (h : 1000000 ≤ k) : (look (k + 3000000) (markM k mem)).isSome = true := by
  unfold markM
  rw [if_neg (by omega)]
  split
  · assumption
  · unfold look; rw [if_pos rfl]; rfl
theorem Sim.markM (h : Sim B m S σ a w) (k : Nat) : ∃ m', Sim B m' S { σ with mem := markM k σ.mem } a w ∧ (∀ j l, m j = some l → m' j = some l) ∧ (∀ j, j ≠ k + 3000000 → m' j = m j) ∧ m'.sub = m.sub := by
  unfold YtplooifpgmlofaaGreat.markM
  split
  · exact ⟨m, h, fun _ _ hl => hl, fun _ _ => rfl, rfl⟩
  · split
    · exact ⟨m, h, fun _ _ hl => hl, fun _ _ => rfl, rfl⟩
    · rename_i hk hn
      have hn' : look (k + 3000000) σ.mem = none := by
        cases e : look (k + 3000000) σ.mem with
        | none => rfl
        | some o => rw [e] at hn; exact absurd rfl hn
      have hmk : m (k + 3000000) = none := by
        cases hm : m (k + 3000000) with
        | none => rfl
        | some l => have := h.dom _ l hm; rw [hn'] at this; cases this
      refine ⟨upd m (k + 3000000) ⟨none, 0⟩, h.world (h.toMemOk.newK (w' := w) (l := ⟨none, 0⟩) (.inr (by omega)) hn' (fun b hb => by cases hb) (Grow.refl _ _) ⟨by omega, (fun x hx => by cases hx), _, upd_same .., .inl ⟨rfl, rfl⟩⟩) (fun _ _ hs => hs) (fun _ _ _ => rfl) (upd_of hmk), upd_of hmk, fun j hj => ?_, rfl⟩
      rw [upd_at, if_neg hj]
theorem Sim.new (h : Sim B m S σ a w) {k : Nat} {o : MObj} {l : Loc} (hkk : k < 1000000) (hk : look k σ.mem = none) (hl : ∀ b, l.blk = some b → w.heap.size ≤ b) (hg : Grow (fun _ => False) w w') (ho : ObjOk (upd m k l) w' S k o) : Sim B (upd m k l) S { σ with mem := (k, o) :: σ.mem } a w' := by
  have hmk : m k = none := by
    cases hm : m k with
    | none => rfl
    | some l => have := h.dom k l hm; rw [hk] at this; cases this
  exact h.world (h.toMemOk.new hkk hk hl hg ho) (fun _ _ hs => hs) (hg.cells h.sin fun _ _ _ h => h) (upd_of hmk)
theorem MemOk.noSub (h : MemOk B m S mem w) {k : Nat} {o : MObj} (hk : look k mem = some o) (hn : isNest o = false) (i c : Nat) : m.sub k i c = none := by
  cases e : m.sub k i c with
  | none => rfl
  | some b =>
    obtain ⟨o1, h1, h2⟩ := h.subs k i c b e
    rw [hk] at h1; cases h1
    rw [hn] at h2; cases h2
theorem MemOk.againS (h : MemOk B m S mem w) {k : Nat} {o o' : MObj} (hko : look k mem = some o) (hn : isNest o = false ∨ isNest o' = true) : ∀ j i c b, m.sub j i c = some b → ∃ q, look j ((k, o') :: mem) = some q ∧ isNest q = true := fun j i c b hj => by
  obtain ⟨q, hq, hnq⟩ := h.subs j i c b hj
  unfold look
  split
  · rename_i e
    subst e
    refine ⟨o', rfl, hn.elim (fun hn => ?_) id⟩
    rw [hko] at hq; cases hq
    rw [hn] at hnq; cases hnq
  · exact ⟨q, hq, hnq⟩
theorem MemOk.againX (h : MemOk B m S mem w) {k : Nat} {o : MObj} (_ : look k mem = some o) : ∀ j, 1000000 ≤ j → j < 2000000 → ∀ i c b, m.sub j i c = some b → B.w.heap.size ≤ b ∨ B.m.has j b := h.subx
theorem MemOk.again (h : MemOk B m S mem w) {k : Nat} {o o' : MObj} (hko : look k mem = some o) (hn : isNest o = false ∨ isNest o' = true) (ho : ObjOk m w S k o') : MemOk B m S ((k, o') :: mem) w :=
  { h with
    dom := fun j l hj => (by
      unfold look
      split
      · rfl
      · exact h.dom j l hj)
    objs := fun j q hq => (by
      rcases look_cons hq with ⟨rfl, rfl⟩ | ⟨_, hq⟩
      · exact ho
      · exact h.objs j q hq)
    subs := h.againS hko hn
    subx := h.againX hko
    ext := fun j l h1 h2 h3 => (h.ext j l h1 h2 h3).imp id fun ⟨g1, g2⟩ => ⟨look_more g1, g2⟩ }
theorem MemOk.write (h : MemOk B m S mem w) {k b c : Nat} {o o' : MObj} (hko : look k mem = some o) (hn : isNest o = false ∨ isNest o' = true) (hk : m k = some ⟨some b, c⟩) (hS : ∀ o, ¬ S b o) (hg : Grow (· = b) w w') (ho : ObjOk m w' S k o') : MemOk B m S ((k, o') :: mem) w' := by
  have hS' : ∀ b' o, S b' o → ¬ b' = b := fun b' o hs e => hS o (e ▸ hs)
  refine { dom := fun j l' hj => ?_, objs := fun j q hq => ?_, subs := fun j i c b hj => ?_, subx := h.subx, parts := h.parts, young := h.young, grow := ?_, sold := h.sold, snew := h.snew, sin := fun b o hs => Nat.lt_of_lt_of_le (h.sin b o hs) hg.size, scell := fun b o hs => (hg.cells h.sin hS' b o (h.sold b o hs)).trans (h.scell b o hs), marks := fun x hx => ⟨(h.marks x hx).1, (hg.block x.1 (Array.getElem?_eq_some_iff.1 (h.marks x hx).2.1).1 (fun e => h.noMark (.inl ⟨c, hk⟩) hx e)).trans (h.marks x hx).2.1, (h.marks x hx).2.2⟩, ext := fun j l h1 h2 h3 => (h.ext j l h1 h2 h3).imp id fun ⟨g1, g2⟩ => ⟨look_more g1, g2⟩ }
  · unfold look
    split
    · rfl
    · exact h.dom j l' hj
  · rcases look_cons hq with ⟨rfl, rfl⟩ | ⟨hne, hq⟩
    · exact ho
    · exact (h.objs j q hq).keep (fun _ _ hs => hs) (hg.cells h.sin hS') (fun _ _ _ hl => hl) (fun _ hl => hl) rfl fun b' hb => ⟨hg.block b' (h.ltH hb) (fun e => hne (h.parts j k b (e ▸ hb) (.inl ⟨c, hk⟩))), fun _ hs => hs⟩
  · obtain ⟨q, hq, hnq⟩ := h.subs j i c b hj
    unfold look
    split
    · rename_i e
      subst e
      refine ⟨o', rfl, hn.elim (fun hn => ?_) id⟩
      rw [hko] at hq; cases hq
      rw [hn] at hnq; cases hnq
    · exact ⟨q, hq, hnq⟩
  · refine h.grow.step hg fun i hi e => ?_
    subst e
    rcases h.fresh k _ c hk with h1 | h1
    · exact absurd hi (by omega)
    · exact h1.1
theorem Sim.write (h : Sim B m S σ a w) {k b c : Nat} {o o' : MObj} (hko : look k σ.mem = some o) (hn : isNest o = false ∨ isNest o' = true) (hk : m k = some ⟨some b, c⟩) (hS : ∀ o, ¬ S b o) (hg : Grow (· = b) w w') (ho : ObjOk m w' S k o') : Sim B m S { σ with mem := (k, o') :: σ.mem } a w' :=
  h.world (h.toMemOk.write hko hn hk hS hg ho) (fun _ _ hs => hs) (hg.cells h.sin fun _b' o hs e => hS o (e ▸ hs)) fun _ _ hl => hl

theorem run_storeCells (b t : Nat) : ∀ (vs : List Value) (off i : Nat) (arr : Array Value) (w : World), w.heap[b]? = some (.cells arr t (0, 0)) → off + i + vs.length ≤ arr.size → (∀ v ∈ vs, v.oneCell' = true) →
    ∃ w' arr', (storeCells ⟨b, off, none⟩ vs i).run P w = .ok () w' ∧ Grow (· = b) w w' ∧ w'.heap[b]? = some (.cells arr' t (0, 0)) ∧ arr'.toList = arr.toList.take (off + i) ++ vs ++ arr.toList.drop (off + i + vs.length)
  | [], off, i, arr, w, hb, _, _ => ⟨w, arr, rfl, Grow.refl _ _, hb, by simp⟩
  | v :: vs, off, i, arr, w, hb, hl, h1 => by
    simp only [List.length_cons] at hl
    have hlt : off + i < arr.size := by omega
    have hcell : w.cell? ⟨b, off + i, none⟩ = some arr[off + i] := by simp only [World.cell?, hb]; simp [hlt]
    have hfr : w.frozen? ⟨b, off + i, none⟩ = false := by simp [World.frozen?, hb]
    have hheap : (w.setCell ⟨b, off + i, none⟩ v).heap[b]? = some (.cells (arr.setIfInBounds (off + i) v) t (0, 0)) := by
      simp [World.setCell, Array.getElem?_modify, hb]
    obtain ⟨w', arr', g1, g2, g3, g4⟩ := run_storeCells b t vs off (i + 1) (arr.setIfInBounds (off + i) v) (w.setCell ⟨b, off + i, none⟩ v) hheap (by simp; omega) fun u hu => h1 u (by simp [hu])
    refine ⟨w', arr', ?_, ?_, g3, ?_⟩
    · have e : (⟨b, off, none⟩ : Addr).add i = ⟨b, off + i, none⟩ := Addr.add_lit ..
      simp only [storeCells, Sem.run_bind, e, run_store P w _ v .plain (h1 v (by simp)), hcell, hfr, Bool.false_eq_true, if_false, Result.andThen_ok, g1]
    · exact (Grow.setCell w ⟨b, off + i, none⟩ v).step g2 fun _ _ h => h
    · rw [g4]
      simp only [Array.toList_setIfInBounds, List.length_cons]
      rw [List.take_set, List.drop_set, if_pos (by omega)]
      rw [show off + (i + 1) + vs.length = off + i + (vs.length + 1) from by omega]
      have h1 : (arr.toList.take (off + (i + 1))).set (off + i) v = arr.toList.take (off + i) ++ [v] := by
        have hlt : off + i < arr.toList.length := by simpa using hlt
        rw [show off + (i + 1) = off + i + 1 from by omega, List.take_succ_eq_append_getElem hlt, List.set_append_right _ _ (by rw [List.length_take]; omega)]
        rw [List.length_take, Nat.min_eq_left (by omega), Nat.sub_self]
        rfl
      rw [h1]
      simp

def PV.one : PV → Bool
  | .d (.v x) => x.oneCell'
  | .any | .agg _ | .tup _ => false
  | _ => true
theorem one_ok {v : Value} {p : PV} (h : Rep1 m w S v p) (hp : p.one = true) : v.oneCell' = true := by
  cases p with
  | d x =>
    have h' : RepD w S v x := h
    cases h' with
    | v x => exact hp
    | sl => rfl
  | agg cs => cases hp
  | tup cs => cases hp
  | any => cases hp
  | rw k n => obtain ⟨l, h1, ⟨_, rfl, _⟩ | ⟨b, _, rfl, _⟩⟩ := h <;> rfl
  | ptr k off => obtain ⟨b, c, h1, rfl⟩ := h; rfl
  | rp k sz i off => obtain ⟨b, c, h1, rfl⟩ := h; rfl
  | rs k sz off n fl => obtain ⟨l, h1, ⟨h2, rfl, h3⟩ | ⟨b, ad, cp, h2, rfl, h3⟩⟩ := h <;> rfl
  | ep row off => obtain ⟨b, o, rfl, h1⟩ := h; rfl
  | mp k => obtain ⟨b, c, h1, rfl⟩ := h; rfl
  | ifc t k => obtain ⟨b, c, h1, rfl⟩ := h; rfl
  | fd sz xs => obtain ⟨h1, A, n, rfl⟩ := h; rfl
  | clo f cs => obtain ⟨vs, rfl, ha⟩ := h; rfl
theorem one_all {vs : List Value} {ps : List PV} (h : All2 (Rep1 m w S) vs ps) (hp : ps.all PV.one = true) : ∀ v ∈ vs, v.oneCell' = true := by
  induction vs generalizing ps with
  | nil => intro v hv; cases hv
  | cons u vs ih =>
    cases ps with
    | nil => exact h.elim
    | cons p ps =>
      simp only [List.all_cons, Bool.and_eq_true] at hp
      intro v hv
      rcases List.mem_cons.1 hv with rfl | hv
      · exact one_ok h.1 hp.1
      · exact ih h.2 hp.2 v hv

def vStore (tb : Tab) (σ : Sta) (t : Nat) (x p : PV) : Option (Prop × Mem) :=
  match x, look t tb with
  | .ptr k off, some i => match look k σ.mem with
    | some (.box bt cells) => if p.plain && p.cells.all PV.one && decide (p.cells.length = i.size) then
        some (off + i.size ≤ cells.length, (k, .box bt (cells.take off ++ p.cells ++ cells.drop (off + i.size))) :: σ.mem) else none
    | _ => none
  | _, _ => none
theorem vStore_ok (hT : TabOk P tb) (h : Sim B m S σ a w) {t : Nat} {x p : PV} {c : Prop} {mem' : Mem} (hv : vStore tb σ t x p = some (c, mem')) (hc : c) {u v : Value} (hu : Rep m w S u x) (hw : Rep m w S v p) :
    ∃ w', (Instr.storeAt t u v).run P w = .ok () w' ∧ Sim B m S { σ with mem := mem' } a w' := by
  unfold vStore at hv
  split at hv
  · rename_i k off i hi
    split at hv
    · rename_i bt cells hk
      split at hv
      · rename_i hp
        simp only [Bool.and_eq_true, decide_eq_true_eq] at hp
        obtain ⟨⟨p1, p2⟩, p3⟩ := hp
        cases hv
        obtain ⟨b, cc, hm, rfl⟩ := hu
        obtain ⟨b', c', arr, h2, h3, h4, h5⟩ := h.objs _ _ hk
        rw [hm] at h2; cases h2
        have hcl := cells_plain hw p1
        have e1 : v.cells.size = i.size := by rw [← p3, ← hcl.len]; simp
        have e2 : arr.size = cells.length := by rw [← h4.len]; simp
        obtain ⟨w', arr', g1, g2, g3, g4⟩ := run_storeCells (P := P) b bt v.cells.toList off 0 arr w h3 (by simp [e1, e2]; exact hc) (one_all hcl p2)
        have e3 : (Instr.storeAt t (.pointer (some ⟨b, off, none⟩)) v).run P w = .ok () w' := by
          simp only [Instr.storeAt, Instr.sureAddr, Sem.run_bind, Sem.run_pure, Result.andThen_ok, storeVar, (hT.get hi).sizeOf, e1, ne_eq, not_true, if_false, g1]
        refine ⟨w', e3, h.write hk (.inl rfl) hm h5 g2 ?_⟩
        refine ⟨b, cc, arr', hm, g3, ?_, h5⟩
        rw [g4, Nat.add_zero, Array.length_toList, e1]
        have hcells : ∀ b' o, S b' o → w'.cell? ⟨b', o, none⟩ = w.cell? ⟨b', o, none⟩ := g2.cells h.sin fun b' o hs e => h5 o (e ▸ hs)
        have k1 : ∀ {us : List Value} {qs : List PV}, All2 (Rep1 m w S) us qs → All2 (Rep1 m w' S) us qs := fun hh => hh.imp fun _ _ _ hr => Rep1.keep (fun _ _ hs => hs) hcells (fun _ _ _ hl => hl) hr
        exact ((k1 (h4.take off)).app (k1 hcl)).app (k1 (h4.drop _))
      · cases hv
    · cases hv
  · cases hv

end
end Go.Proofs.YtplooifpgmlofaaGreat
