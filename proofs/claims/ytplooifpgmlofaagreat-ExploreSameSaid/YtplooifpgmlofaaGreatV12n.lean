/- Rows whose cells have slices for themselves: made of a row, looked at closely, let go. No condition. -/
import Derived.Test.YtplooifpgmlofaaGreatV12
namespace Go.Proofs.YtplooifpgmlofaaGreat
open Go.RowKit

section
variable {P : Program} {tb : Tab} {B : Base} {m m' : Map} {S S' : Cells} {σ : Sta} {a : Act} {w w' : World}

theorem flatN_at {sz : Nat} {xs : List (List D)} (h1 : ∀ x ∈ xs, x.length = sz) {i : Nat} {x : List D} (hx : xs[i]? = some x) {c : Nat} {p : D} (hp : x[c]? = some p) : xs.flatten[i * sz + c]? = some p := by
 have hi : i < xs.length := (List.getElem?_eq_some_iff.1 hx).1
 have hc : c < sz := by rw [← h1 x (List.mem_of_getElem? hx)]; exact (List.getElem?_eq_some_iff.1 hp).1
 have h := flatten_get sz xs h1 i hi
 rw [List.getD_eq_getElem?_getD, hx, Option.getD_some] at h
 rw [← h, List.getElem?_take, if_pos hc, List.getElem?_drop] at hp
 exact hp
theorem flat_of {sz : Nat} {xs : List (List D)} (h1 : ∀ x ∈ xs, x.length = sz) {q : Nat} {p : D} (hp : xs.flatten[q]? = some p) : ∃ x, xs[q / sz]? = some x ∧ x[q % sz]? = some p ∧ q / sz * sz + q % sz = q := by
 have hq : q < xs.length * sz := by rw [← flatten_len sz xs h1]; exact (List.getElem?_eq_some_iff.1 hp).1
 obtain ⟨x, p', e1, e2, e3, _, _⟩ := flatten_at sz h1 hq
 rw [e3] at hp; cases hp
 exact ⟨x, e1, e2, by rw [Nat.mul_comm]; exact Nat.div_add_mod q sz⟩

theorem nest_ok (h : Sim B m S σ a w) {k t sz : Nat} {xs : List (List D)} {cs : List (Nat × Nat)} (hk : look k σ.mem = some (.row t sz xs false)) : Sim B m S { σ with mem := (k, .nest t sz xs (fun _ => false) cs none) :: σ.mem } a w := by
 have hs := h.toMemOk.noSub hk rfl
 obtain ⟨h0, h1, l, h2, h3⟩ := h.objs _ _ hk
 refine h.world (h.toMemOk.again hk (.inr rfl) ⟨h0, h1, l, h2, ?_⟩) (fun _ _ hs => hs) (fun _ _ _ => rfl) fun _ _ hl => hl
 rcases h3 with ⟨h3, h4⟩ | ⟨b, arr, us, e, g1, g2, g3, g4, g5, g5', g6, g7, g8⟩
 ·exact .inl ⟨h3, h4, hs, rfl⟩
 ·refine .inr ⟨b, arr, us, e, g1, g2, g3, g4, by rw [g5.len, flatten_len sz xs h1], g5', g6, fun o ho => (by have := (g7 o ho).1; cases this), fun i x hx c p u hp hu => ?_, fun i c b' hb => (by rw [hs] at hb; cases hb), fun i c i' c' b' hb => (by rw [hs] at hb; cases hb), fun ps i hi => (by cases hi)⟩
  obtain ⟨u', e1, e2⟩ := g5.get (flatN_at h1 hx hp)
  rw [hu] at e1; cases e1
  unfold NCell
  dsimp only [focAt]
  split
  ·rw [if_neg (by simp)]; exact e2
  ·exact e2

theorem unnest_ok (h : Sim B m S σ a w) {k t sz : Nat} {xs : List (List D)} {pr : Nat → Bool} {cs : List (Nat × Nat)} (hk : look k σ.mem = some (.nest t sz xs pr cs none)) (hkk : k < 1000000) : ∃ m' S', Sim B m' S' { σ with mem := (k, .row t sz xs true) :: σ.mem } a w := by
 obtain ⟨h0, h1, l, h2, h3⟩ := h.objs _ _ hk
 let m' : Map := ⟨m.locs, fun q => if q = k then fun _ _ => none else m.sub q⟩
 have hhas : ∀ q b, m'.has q b → m.has q b := fun q b hq => by
  rcases hq with ⟨c, hq⟩ | ⟨i, c, hq⟩
  ·exact .inl ⟨c, hq⟩
  ·have hq : (if q = k then fun _ _ => none else m.sub q) i c = some b := hq
   split at hq
   ·cases hq
   ·exact .inr ⟨i, c, hq⟩
 have hsub : ∀ q, q ≠ k → m'.sub q = m.sub q := fun q hq => if_neg hq
 have hdom : ∀ q, (look q ((k, MObj.row t sz xs true) :: σ.mem)).isSome = true → q = k ∨ (look q σ.mem).isSome = true := fun q hq => by
  unfold look at hq
  split at hq
  ·rename_i e; exact .inl e
  ·exact .inr hq
 have fin : ∀ S' : Cells, (∀ b o, S b o → S' b o) → (∀ b o, S' b o → S b o ∨ m.has k b) → ObjOk m' w S' k (.row t sz xs true) → Sim B m' S' { σ with mem := (k, .row t sz xs true) :: σ.mem } a w := fun S' hS hS2 ho => by
  have hyoung : ∀ b, m.has k b → B.w.heap.size ≤ b := fun b hb => by
   rcases h.young k b hb with h4 | h4
   ·exact h4
   ·omega
  refine { dom := fun q lq hq => ?_, objs := fun q o hq => ?_, subs := fun q i c b hq => ?_, subx := fun q q1 q2 i c b hq => ?_, parts := fun q q' b hq hq' => h.parts q q' b (hhas _ _ hq) (hhas _ _ hq'), young := fun q b hq => h.young q b (hhas _ _ hq), grow := h.grow, sold := fun b o hs => hS _ _ (h.sold b o hs), snew := fun b o hs hb => ?_, sin := fun b o hs => ?_, scell := h.scell, ext := fun q lq q1 q2 hq => (h.ext q lq q1 q2 hq).imp id fun ⟨g1, g2⟩ => ⟨look_more g1, g2⟩, marks := fun x hx => ⟨(h.marks x hx).1, (h.marks x hx).2.1, fun o hs => ?_⟩, defers := h.defers, size := h.size, frozen := h.frozen, slots := fun i p hp => ?_ }
  ·exact look_more (h.dom q lq hq)
  ·rcases look_cons hq with ⟨rfl, rfl⟩ | ⟨hne, hq⟩
   ·exact ho
   ·refine ObjOk.keep (m := m) (m' := m') hS (fun _ _ _ => rfl) (fun _ _ _ hl => hl) (fun _ hl => hl) (hsub q hne) (h := h.objs q o hq) (hb := fun b hb => ⟨rfl, fun o hs => ?_⟩)
    rcases hS2 b o hs with hs | hs
    ·exact hs
    ·exact absurd (h.parts q k b hb hs) hne
  ·have hq : (if q = k then fun _ _ => none else m.sub q) i c = some b := hq
   split at hq
   ·cases hq
   ·rename_i hne
    obtain ⟨o, g1, g2⟩ := h.subs q i c b hq
    exact ⟨o, by unfold look; rw [if_neg hne]; exact g1, g2⟩
  ·exact h.subx q q1 q2 i c b (by rw [← hsub q (by omega)]; exact hq)
  ·rcases hS2 b o hs with hs | hs
   ·exact h.snew b o hs hb
   ·have := hyoung b hs; omega
  ·rcases hS2 b o hs with hs | hs
   ·exact h.sin b o hs
   ·exact h.toMemOk.ltH hs
  ·rcases hS2 x.1 o hs with hs | hs
   ·exact (h.marks x hx).2.2 o hs
   ·exact h.toMemOk.noMark hs hx rfl
  ·obtain ⟨v, g1, g2⟩ := h.slots i p hp
   exact ⟨v, g1, g2.keep hS (fun _ _ _ => rfl) fun _ _ _ hl => hl⟩
 rcases h3 with ⟨h3, h4, h5, _⟩ | ⟨b, arr, us, e1, g4, g5, g6, g7, g8, g9, g10, g11, g12, g13, g14, g15⟩
 ·exact ⟨m', S, fin S (fun _ _ hs => hs) (fun _ _ hs => .inl hs) ⟨h0, h1, l, h2, .inl ⟨h3, h4⟩⟩⟩
 ·have hmk : m k = some ⟨some b, l.cap⟩ := by rw [h2]; cases l; cases e1; rfl
  refine ⟨m', fun b' o => S b' o ∨ (b' = b ∧ o < xs.length * sz) ∨ ∃ i c x sz' rows, m.sub k i c = some b' ∧ xs[i]? = some x ∧ x[c]? = some (.sl sz' rows) ∧ o < rows.length * sz', fin _ (fun _ _ hs => .inl hs) (fun b' o hs => ?_) ?_⟩
  ·rcases hs with hs | ⟨rfl, _⟩ | ⟨i, c, _, _, _, hs, _⟩
   ·exact .inl hs
   ·exact .inr (.inl ⟨_, hmk⟩)
   ·exact .inr (.inr ⟨i, c, hs⟩)
  ·refine ⟨h0, h1, l, h2, .inr ⟨b, arr, us, e1, g4, g5, g6, g7, All2.of_index (by rw [g8, flatten_len sz xs h1]) fun q u p hu hp => ?_, g9, g10, fun o hs => ⟨rfl, ?_⟩, fun _ o ho => .inr (.inl ⟨rfl, ho⟩)⟩⟩
   ·obtain ⟨x, k1, k2, k3⟩ := flat_of h1 hp
    have hn := g12 _ x k1 _ p u k2 (by rw [k3]; exact hu)
    have up : RepD w S u p → RepD w (fun b' o => S b' o ∨ (b' = b ∧ o < xs.length * sz) ∨ ∃ i c x sz' rows, m.sub k i c = some b' ∧ xs[i]? = some x ∧ x[c]? = some (.sl sz' rows) ∧ o < rows.length * sz') u p := fun hr => hr.keep (fun _ _ hs => .inl hs) fun _ _ _ => rfl
    unfold NCell at hn
    dsimp only [focAt] at hn
    split at hn
    ·rename_i e he
     split at hn
     ·obtain ⟨sz', rows, cap, rfl, f0, f1, f2, f3⟩ := hn
      have hr : RepD w (fun b' o => S b' o ∨ (b' = b ∧ o < xs.length * sz) ∨ ∃ i c x sz' rows, m.sub k i c = some b' ∧ xs[i]? = some x ∧ x[c]? = some (.sl sz' rows) ∧ o < rows.length * sz') u (.sl sz' (rows.take rows.length)) := by
       refine row_data (m := ⟨fun _ => some ⟨m.sub k (q / sz) (q % sz), cap⟩, fun _ _ _ => none⟩) (k := 0) (t := e) ⟨f0, f1, _, rfl, ?_⟩ ⟨_, rfl, ?_⟩ (Nat.le_refl _)
       ·rcases f2 with ⟨f2, f4⟩ | ⟨b2, arr2, us2, i1, i2, i3, i4, i5, i6, i7, i8, i9, _⟩
        ·exact .inl ⟨f2, f4⟩
        ·have i1 : m.sub k (q / sz) (q % sz) = some b2 := i1
         refine .inr ⟨b2, arr2, us2, i1, i2, i3, i4, i5, i6.imp fun _ _ _ hr => hr.keep (fun _ _ hs => .inl hs) fun _ _ _ => rfl, i7, i8, fun o hs => ⟨rfl, ?_⟩, fun _ o ho => .inr (.inr ⟨_, _, x, sz', rows, i1, k1, k2, ho⟩)⟩
         rcases hs with hs | ⟨e3, _⟩ | ⟨i', c', x', sz2, rows2, hs, e4, e5, e6⟩
         ·have := (i9 o hs).1; cases this
         ·exact absurd e3 (g13 _ _ _ i1).1
         ·obtain ⟨e7, e8⟩ := g14 _ _ _ _ _ hs i1
          rw [e7, k1] at e4; cases e4
          rw [e8, k2] at e5; cases e5
          exact e6
       ·rcases f3 with ⟨f3, f4, f5⟩ | ⟨b2, f3, f4⟩
        ·exact .inl ⟨f3, f4, by rw [f5]; rfl⟩
        ·refine .inr ⟨b2, f3, f4, ?_⟩
         rcases f2 with ⟨f2, f5⟩ | ⟨_, _, _, _, _, i3, _⟩
         ·rw [f5]; exact Nat.zero_le _
         ·exact i3
      rwa [List.take_length] at hr
     ·exact up hn
    ·exact up hn
   ·rcases hs with hs | ⟨_, hs⟩ | ⟨i, c, _, _, _, hs, _⟩
    ·exact absurd hs (g11 o)
    ·exact hs
    ·exact absurd rfl (g13 i c b hs).1

def focM (cs fs : List (Nat × Nat)) : Nat → List D → Mem
 | _, [] => []
 | c, .sl sz xs :: r => match lookN c fs, lookN c cs with
  | some k, some e => (k, .row e sz xs false) :: focM cs fs (c + 1) r
  | _, _ => focM cs fs (c + 1) r
 | c, .v _ :: r => focM cs fs (c + 1) r
def focC (cs fs : List (Nat × Nat)) : Nat → List D → Option (List PV)
 | _, [] => some []
 | c, p :: r => match lookN c cs with
  | some _ => match lookN c fs, p with
   | some k, .sl _ xs => match focC cs fs (c + 1) r with
    | some l => some (.rw k xs.length :: l)
    | none => none
   | _, _ => none
  | none => match focC cs fs (c + 1) r with
   | some l => some (.d p :: l)
   | none => none
theorem focM_look {cs fs : List (Nat × Nat)} {q : Nat} {o : MObj} : ∀ {x : List D} {c0 : Nat}, look q (focM cs fs c0 x) = some o → ∃ c e sz rows, lookN (c0 + c) fs = some q ∧ lookN (c0 + c) cs = some e ∧ x[c]? = some (.sl sz rows) ∧ o = .row e sz rows false
 | [], c0, h => by cases h
 | .v y :: r, c0, h => by
  obtain ⟨c, e, sz, rows, h1, h2, h3, h4⟩ := focM_look (x := r) (c0 := c0 + 1) h
  exact ⟨c + 1, e, sz, rows, by rw [← h1]; congr 1; omega, by rw [← h2]; congr 1; omega, by simpa using h3, h4⟩
 | .sl sz xs :: r, c0, h => by
  have rest : look q (focM cs fs (c0 + 1) r) = some o → ∃ c e sz' rows, lookN (c0 + c) fs = some q ∧ lookN (c0 + c) cs = some e ∧ (D.sl sz xs :: r)[c]? = some (.sl sz' rows) ∧ o = .row e sz' rows false := fun h => by
   obtain ⟨c, e, sz', rows, h1, h2, h3, h4⟩ := focM_look (x := r) (c0 := c0 + 1) h
   exact ⟨c + 1, e, sz', rows, by rw [← h1]; congr 1; omega, by rw [← h2]; congr 1; omega, by simpa using h3, h4⟩
  unfold focM at h
  split at h
  ·rename_i k e h1 h2
   rcases look_cons h with ⟨rfl, rfl⟩ | ⟨_, h⟩
   ·exact ⟨0, e, sz, xs, h1, h2, rfl, rfl⟩
   ·exact rest h
  ·exact rest h
theorem focM_has {cs fs : List (Nat × Nat)} {q : Nat} : ∀ {x : List D} {c0 c e sz : Nat} {rows : List (List D)}, lookN (c0 + c) fs = some q → lookN (c0 + c) cs = some e → x[c]? = some (.sl sz rows) → (look q (focM cs fs c0 x)).isSome = true
 | [], c0, c, e, sz, rows, _, _, h => by simp at h
 | .v y :: r, c0, 0, e, sz, rows, _, _, h => by simp at h
 | .v y :: r, c0, c + 1, e, sz, rows, h1, h2, h => focM_has (x := r) (c0 := c0 + 1) (c := c) (by rw [← h1]; congr 1; omega) (by rw [← h2]; congr 1; omega) (by simpa using h)
 | .sl sz' xs :: r, c0, 0, e, sz, rows, h1, h2, h => by
  unfold focM
  rw [show lookN c0 fs = some q from h1, show lookN c0 cs = some e from h2]
  show (look q ((q, _) :: _)).isSome = true
  unfold look
  rw [if_pos rfl]; rfl
 | .sl sz' xs :: r, c0, c + 1, e, sz, rows, h1, h2, h => by
  have rest := focM_has (x := r) (c0 := c0 + 1) (c := c) (q := q) (fs := fs) (cs := cs) (e := e) (sz := sz) (rows := rows) (by rw [← h1]; congr 1; omega) (by rw [← h2]; congr 1; omega) (by simpa using h)
  unfold focM
  split
  ·exact look_more rest
  ·exact rest
theorem focC_get {cs fs : List (Nat × Nat)} : ∀ {x : List D} {c0 : Nat} {ps : List PV}, focC cs fs c0 x = some ps → ps.length = x.length ∧ ∀ (c : Nat) (p : D), x[c]? = some p → (∃ e k sz rows, lookN (c0 + c) cs = some e ∧ lookN (c0 + c) fs = some k ∧ p = .sl sz rows ∧ ps[c]? = some (.rw k rows.length)) ∨ (lookN (c0 + c) cs = none ∧ ps[c]? = some (.d p))
 | [], c0, ps, h => by
  cases h
  exact ⟨rfl, fun c p hp => by simp at hp⟩
 | p :: r, c0, ps, h => by
  have step : ∀ (q : PV) (l : List PV), focC cs fs (c0 + 1) r = some l → ((∃ e k sz rows, lookN c0 cs = some e ∧ lookN c0 fs = some k ∧ p = .sl sz rows ∧ q = .rw k rows.length) ∨ (lookN c0 cs = none ∧ q = .d p)) → (q :: l).length = (p :: r).length ∧ ∀ (c : Nat) (p' : D), (p :: r)[c]? = some p' → (∃ e k sz rows, lookN (c0 + c) cs = some e ∧ lookN (c0 + c) fs = some k ∧ p' = .sl sz rows ∧ (q :: l)[c]? = some (.rw k rows.length)) ∨ (lookN (c0 + c) cs = none ∧ (q :: l)[c]? = some (.d p')) := fun q l hl hq => by
   obtain ⟨h1, h2⟩ := focC_get hl
   refine ⟨by simp [h1], fun c p' hp' => ?_⟩
   cases c with
   | zero =>
    cases hp'
    rcases hq with ⟨e, k, sz, rows, g1, g2, g3, g4⟩ | ⟨g1, g2⟩
    ·exact .inl ⟨e, k, sz, rows, g1, g2, g3, by rw [g4]; rfl⟩
    ·exact .inr ⟨g1, by rw [g2]; rfl⟩
   | succ c =>
    have := h2 c p' (by simpa using hp')
    rw [show c0 + 1 + c = c0 + (c + 1) from by omega] at this
    simpa using this
  unfold focC at h
  split at h
  ·rename_i e he
   split at h
   ·rename_i k sz xs hk
    split at h
    ·rename_i l hl
     cases h
     exact step _ _ hl (.inl ⟨e, k, sz, xs, he, hk, rfl, rfl⟩)
    ·cases h
   ·cases h
  ·rename_i he
   split at h
   ·rename_i l hl
    cases h
    exact step _ _ hl (.inr ⟨he, rfl⟩)
   ·cases h
def keysFree (mem : Mem) (fs : List (Nat × Nat)) : Bool := nodupB (fs.map (·.2)) && fs.all fun e => decide (e.2 < 1000000) && (look e.2 mem).isNone
theorem lookN_mem {c q : Nat} : ∀ {l : List (Nat × Nat)}, lookN c l = some q → (c, q) ∈ l
 | (d, e) :: r, h => by
  unfold lookN at h
  split at h
  ·rename_i e1; subst e1; cases h; simp
  ·exact List.mem_cons_of_mem _ (lookN_mem h)
theorem lookN_inj {c c' q : Nat} : ∀ {l : List (Nat × Nat)}, (l.map (·.2)).Nodup → lookN c l = some q → lookN c' l = some q → c = c'
 | (d, e) :: r, hn, h, h' => by
  have hn := List.nodup_cons.1 hn
  unfold lookN at h h'
  split at h <;> split at h'
  ·rename_i e1 e2; rw [e1, e2]
  ·rename_i e1 e2
   cases h
   exact absurd (List.mem_map.2 ⟨_, lookN_mem h', rfl⟩) hn.1
  ·rename_i e1 e2
   cases h'
   exact absurd (List.mem_map.2 ⟨_, lookN_mem h, rfl⟩) hn.1
  ·exact lookN_inj hn.2 h h'
open Classical in
theorem focus_ok (h : Sim B m S σ a w) {k t sz j : Nat} {xs : List (List D)} {pr : Nat → Bool} {cs fs : List (Nat × Nat)} {ps : List PV} (hk : look k σ.mem = some (.nest t sz xs pr cs none)) (hkk : k < 1000000) (hj : j < xs.length) (hpr : pr j = true) (hps : focC cs fs 0 (xs.getD j []) = some ps) (hfs : keysFree σ.mem fs = true) :
  ∃ m', Sim B m' S { σ with mem := (k, .nest t sz xs pr cs (some (j, ps))) :: (focM cs fs 0 (xs.getD j []) ++ σ.mem) } a w := by
 obtain ⟨h0, h1, l, h2, h3⟩ := h.objs _ _ hk
 rcases h3 with ⟨_, h3, _⟩ | ⟨b, arr, us, e1, g4, g5, g6, g7, g8, g9, g10, g11, g12, g13, g14, g15⟩
 ·rw [h3] at hj; simp at hj
 have hmk : m k = some ⟨some b, l.cap⟩ := by rw [h2]; cases l; cases e1; rfl
 obtain ⟨x, hx⟩ : ∃ x, xs[j]? = some x := ⟨_, List.getElem?_eq_getElem hj⟩
 have hxg : xs.getD j [] = x := by rw [List.getD_eq_getElem?_getD, hx]; rfl
 rw [hxg] at hps ⊢
 have hxl := h1 x (List.mem_of_getElem? hx)
 unfold keysFree at hfs
 simp only [Bool.and_eq_true, List.all_eq_true, decide_eq_true_eq, Option.isNone_iff_eq_none] at hfs
 obtain ⟨hnd, hfree⟩ := hfs
 have hnd := nodup_of hnd
 have hinj : ∀ {c c' q}, lookN c fs = some q → lookN c' fs = some q → c = c' := fun h1 h2 => lookN_inj hnd h1 h2
 have hkey : ∀ {c q}, lookN c fs = some q → q < 1000000 ∧ look q σ.mem = none := fun h1 => hfree _ (lookN_mem h1)
 obtain ⟨hpl, hpg⟩ := focC_get hps
 -- the cells
 have hcell : ∀ c e, c < sz → lookN c cs = some e → ∃ sz' rows u cap q, x[c]? = some (.sl sz' rows) ∧ us[j * sz + c]? = some u ∧ lookN c fs = some q ∧ ps[c]? = some (.rw q rows.length) ∧ 0 < sz' ∧ (∀ y ∈ rows, y.length = sz') ∧ RowIn w S ⟨m.sub k j c, cap⟩ e sz' rows ∧ ((m.sub k j c = none ∧ u = .slice none 0 0 ∧ rows = []) ∨ ∃ b, m.sub k j c = some b ∧ u = .slice (some ⟨b, 0, none⟩) rows.length cap) := fun c e hc he => by
  obtain ⟨p, hp⟩ : ∃ p, x[c]? = some p := ⟨_, List.getElem?_eq_getElem (by omega)⟩
  obtain ⟨u, hu⟩ : ∃ u, us[j * sz + c]? = some u := ⟨_, List.getElem?_eq_getElem (by rw [g8]; exact flat_lt hj hc)⟩
  have hn := g12 j x hx c p u hp hu
  unfold NCell at hn
  dsimp only [focAt] at hn
  rw [he] at hn
  dsimp only at hn
  rw [if_pos hpr] at hn
  obtain ⟨sz', rows, cap, rfl, f0, f1, f2, f3⟩ := hn
  rcases hpg c _ hp with ⟨e', q, sz2, rows2, k1, k2, k3, k4⟩ | ⟨k1, _⟩
  ·cases k3
   rw [Nat.zero_add] at k2
   exact ⟨sz', rows, u, cap, q, hp, hu, k2, k4, f0, f1, f2, f3⟩
  ·rw [Nat.zero_add, he] at k1; cases k1
 have hcap : ∃ capf : Nat → Nat, ∀ c e, c < sz → lookN c cs = some e → ∃ sz' rows u q, x[c]? = some (.sl sz' rows) ∧ us[j * sz + c]? = some u ∧ lookN c fs = some q ∧ ps[c]? = some (.rw q rows.length) ∧ 0 < sz' ∧ (∀ y ∈ rows, y.length = sz') ∧ RowIn w S ⟨m.sub k j c, capf c⟩ e sz' rows ∧ ((m.sub k j c = none ∧ u = .slice none 0 0 ∧ rows = []) ∨ ∃ b, m.sub k j c = some b ∧ u = .slice (some ⟨b, 0, none⟩) rows.length (capf c)) := by
  have hcap' : ∀ c, ∃ cap, ∀ e, c < sz → lookN c cs = some e → ∃ sz' rows u q, x[c]? = some (.sl sz' rows) ∧ us[j * sz + c]? = some u ∧ lookN c fs = some q ∧ ps[c]? = some (.rw q rows.length) ∧ 0 < sz' ∧ (∀ y ∈ rows, y.length = sz') ∧ RowIn w S ⟨m.sub k j c, cap⟩ e sz' rows ∧ ((m.sub k j c = none ∧ u = .slice none 0 0 ∧ rows = []) ∨ ∃ b, m.sub k j c = some b ∧ u = .slice (some ⟨b, 0, none⟩) rows.length cap) := fun c => by
   by_cases hh : ∃ e, c < sz ∧ lookN c cs = some e
   ·obtain ⟨e, hc, he⟩ := hh
    obtain ⟨sz', rows, u, cap, q, s⟩ := hcell c e hc he
    refine ⟨cap, fun e' _ he' => ?_⟩
    rw [he] at he'; cases he'
    exact ⟨sz', rows, u, q, s⟩
   ·exact ⟨0, fun e hc he => absurd ⟨e, hc, he⟩ hh⟩
  exact ⟨fun c => (hcap' c).choose, fun c e hc he => (hcap' c).choose_spec e hc he⟩
 obtain ⟨capf, hcap⟩ := hcap
 let isK : Nat → Prop := fun q => ∃ c, c < sz ∧ (lookN c cs).isSome = true ∧ lookN c fs = some q
 let m' : Map := ⟨fun q => if hq : isK q then some ⟨m.sub k j hq.choose, capf hq.choose⟩ else m q, fun q i c => if q = k ∧ i = j then none else m.sub q i c⟩
 have hnew : ∀ {c q}, c < sz → (lookN c cs).isSome = true → lookN c fs = some q → m' q = some ⟨m.sub k j c, capf c⟩ := fun {c q} hc he hq => by
  have hK : isK q := ⟨c, hc, he, hq⟩
  have e : hK.choose = c := hinj hK.choose_spec.2.2 hq
  show (if hq : isK q then some (Loc.mk (m.sub k j hq.choose) (capf hq.choose)) else m q) = _
  rw [dif_pos hK, e]
 have hold : ∀ q, (look q σ.mem).isSome = true → m' q = m q := fun q hq => by
  show (if hq : isK q then some (Loc.mk (m.sub k j hq.choose) (capf hq.choose)) else m q) = _
  rw [dif_neg]
  rintro ⟨c, _, _, hq2⟩
  rw [(hkey hq2).2] at hq; cases hq
 have hloc : ∀ q lq, m' q = some lq → (∃ c, c < sz ∧ (lookN c cs).isSome = true ∧ lookN c fs = some q ∧ lq = ⟨m.sub k j c, capf c⟩) ∨ m q = some lq := fun q lq hq => by
  by_cases hK : isK q
  ·obtain ⟨c, c1, c2, c3⟩ := hK
   rw [hnew c1 c2 c3] at hq
   exact .inl ⟨c, c1, c2, c3, (Option.some.inj hq).symm⟩
  ·have hq : (if hq : isK q then some (Loc.mk (m.sub k j hq.choose) (capf hq.choose)) else m q) = some lq := hq
   rw [dif_neg hK] at hq
   exact .inr hq
 have hkeep : ∀ q lq, m q = some lq → m' q = some lq := fun q lq hq => by rw [hold q (h.dom q lq hq)]; exact hq
 have hsub : ∀ q i c b', m'.sub q i c = some b' → m.sub q i c = some b' ∧ ¬ (q = k ∧ i = j) := fun q i c b' hq => by
  have hq : (if q = k ∧ i = j then none else m.sub q i c) = some b' := hq
  split at hq
  ·cases hq
  ·rename_i hne; exact ⟨hq, hne⟩
 have hsubq : ∀ q, q ≠ k → m'.sub q = m.sub q := fun q hq => by
  funext i c
  exact if_neg fun e => hq e.1
 have hlook : ∀ q, (look q σ.mem).isSome = true → q ≠ k → look q ((k, MObj.nest t sz xs pr cs (some (j, ps))) :: (focM cs fs 0 x ++ σ.mem)) = look q σ.mem := fun q hq hne => by
  show (if q = k then _ else look q (focM cs fs 0 x ++ σ.mem)) = _
  rw [if_neg hne, look_app]
  cases hf : look q (focM cs fs 0 x) with
  | none => rfl
  | some o =>
   obtain ⟨c, _, _, _, f1, _⟩ := focM_look hf
   rw [Nat.zero_add] at f1
   rw [(hkey f1).2] at hq; cases hq
 have hlooks : ∀ q, (look q σ.mem).isSome = true → (look q ((k, MObj.nest t sz xs pr cs (some (j, ps))) :: (focM cs fs 0 x ++ σ.mem))).isSome = true := fun q hq => look_more (some_or (.inr hq))
 -- whose block
 have hhas : ∀ q b', m'.has q b' → (∃ c, c < sz ∧ (lookN c cs).isSome = true ∧ lookN c fs = some q ∧ m.sub k j c = some b') ∨ ((∃ c, m q = some ⟨some b', c⟩) ∨ ∃ i c, m.sub q i c = some b' ∧ ¬ (q = k ∧ i = j)) := fun q b' hq => by
  rcases hq with ⟨c, hq⟩ | ⟨i, c, hq⟩
  ·rcases hloc q _ hq with ⟨c', c1, c2, c3, c4⟩ | hq
   ·cases hb' : m.sub k j c' with
    | none => rw [hb'] at c4; cases c4
    | some b2 => rw [hb'] at c4; cases c4; exact .inl ⟨c', c1, c2, c3, hb'⟩
   ·exact .inr (.inl ⟨c, hq⟩)
  ·exact .inr (.inr ⟨i, c, hsub q i c b' hq⟩)
 have hhas2 : ∀ {q b'}, ((∃ c, m q = some ⟨some b', c⟩) ∨ ∃ i c, m.sub q i c = some b' ∧ ¬ (q = k ∧ i = j)) → m.has q b' := fun hq => by
  rcases hq with hq | ⟨i, c, hq, _⟩
  ·exact .inl hq
  ·exact .inr ⟨i, c, hq⟩
 have hcross : ∀ {q' c b'}, m.sub k j c = some b' → ((∃ c, m q' = some ⟨some b', c⟩) ∨ ∃ i c, m.sub q' i c = some b' ∧ ¬ (q' = k ∧ i = j)) → False := fun {q' c b'} hb hq' => by
  have hp := h.parts k q' b' (.inr ⟨j, c, hb⟩) (hhas2 hq')
  subst hp
  rcases hq' with ⟨c2, hq'⟩ | ⟨i, c2, hq', hne⟩
  ·rw [hmk] at hq'; cases hq'
   exact (g13 _ _ _ hb).1 rfl
  ·exact hne ⟨rfl, (g14 _ _ _ _ _ hq' hb).1⟩
 refine ⟨m', { dom := fun q lq hq => ?_, objs := fun q o hq => ?_, subs := fun q i c b' hq => ?_, subx := fun q q1 q2 i c b hq => ?_, parts := fun q q' b' hq hq' => ?_, young := fun q b' hq => ?_, grow := h.grow, sold := h.sold, snew := h.snew, sin := h.sin, scell := h.scell, ext := fun q lq q1 q2 hq => ?_, marks := h.marks, defers := h.defers, size := h.size, frozen := h.frozen, slots := fun i p hp => ?_ }⟩
 ·rcases hloc q lq hq with ⟨c, c1, c2, c3, _⟩ | hq
  ·obtain ⟨e, he⟩ := Option.isSome_iff_exists.1 c2
   obtain ⟨sz', rows, u, q', s1, _, s3, _⟩ := hcap c e c1 he
   exact look_more (some_or (.inl (focM_has (c := c) (by rw [Nat.zero_add]; exact c3) (by rw [Nat.zero_add]; exact he) s1)))
  ·exact hlooks q (h.dom q lq hq)
 ·rcases look_cons hq with ⟨rfl, rfl⟩ | ⟨hne, hq⟩
  ·refine ⟨h0, h1, l, hkeep _ _ h2, .inr ⟨b, arr, us, e1, g4, g5, g6, g7, g8, g9, g10, g11, fun i y hy c p u hp hu => ?_, fun i c b' hb => ?_, fun i c i' c' b' hb hb' => g14 i c i' c' b' (hsub _ _ _ _ hb).1 (hsub _ _ _ _ hb').1, fun ps2 i2 hi2 => ?_⟩⟩
   ·have hn := g12 i y hy c p u hp hu
    unfold NCell at hn ⊢
    dsimp only [focAt] at hn
    by_cases hij : i = j
    ·subst hij
     rw [focAt_self]
     rw [hx] at hy; cases hy
     have hc : c < sz := by rw [← hxl]; exact (List.getElem?_eq_some_iff.1 hp).1
     rcases hpg c _ hp with ⟨e', q, sz2, rows2, k1, k2, rfl, k4⟩ | ⟨k1, k2⟩
     ·rw [Nat.zero_add] at k1 k2
      refine ⟨_, k4, ?_⟩
      obtain ⟨sz', rows, u', q', s1, s2, s3, s4, s5, s6, s7, s8⟩ := hcap c e' hc k1
      rw [hp] at s1; cases s1
      rw [hu] at s2; cases s2
      refine ⟨_, hnew hc (by rw [k1]; rfl) k2, ?_⟩
      rcases s8 with ⟨s8, s9, s10⟩ | ⟨b2, s8, s9⟩
      ·exact .inl ⟨s8, s9, by rw [s10]; rfl⟩
      ·refine .inr ⟨b2, s8, s9, ?_⟩
       rcases s7 with ⟨s7, s10⟩ | ⟨_, _, _, _, _, i3, _⟩
       ·rw [s10]; exact Nat.zero_le _
       ·exact i3
     ·rw [Nat.zero_add] at k1
      rw [k1] at hn
      exact ⟨_, k2, hn⟩
    ·rw [focAt_ne hij]
     dsimp only
     split at hn
     ·split at hn
      ·rename_i hp2
       rw [if_pos hp2]
       exact hn.keep (fun _ _ hs => hs) (fun _ _ _ => rfl) (if_neg fun e => hij e.2) fun _ _ => ⟨rfl, fun _ hs => hs⟩
      ·rename_i hp2
       rw [if_neg hp2]
       exact hn
     ·exact hn
   ·obtain ⟨f1, f2⟩ := hsub _ _ _ _ hb
    obtain ⟨s1, s2, s3, s4, s5, _⟩ := g13 i c b' f1
    exact ⟨s1, s2, s3, s4, s5, focAt_ne fun e => f2 ⟨rfl, e⟩⟩
   ·by_cases hij : i2 = j
    ·subst hij; rw [focAt_self] at hi2; cases hi2; exact ⟨by rw [hpl, hxl], hj⟩
    ·rw [focAt_ne hij] at hi2; cases hi2
  ·rw [look_app] at hq
   split at hq
   ·rename_i o' hf
    cases hq
    obtain ⟨c, e, sz2, rows2, f1, f2, f3, rfl⟩ := focM_look hf
    rw [Nat.zero_add] at f1 f2
    have hc : c < sz := by rw [← hxl]; exact (List.getElem?_eq_some_iff.1 f3).1
    obtain ⟨sz', rows, u', q', s1, s2, s3, s4, s5, s6, s7, s8⟩ := hcap c e hc f2
    rw [f3] at s1; cases s1
    exact ⟨s5, s6, _, hnew hc (by rw [f2]; rfl) f1, s7⟩
   ·exact ObjOk.keep (m := m) (m' := m') (fun _ _ hs => hs) (fun _ _ _ => rfl) (fun i _ l hl => hkeep i l hl) (fun l hl => hkeep q l hl) (hsubq q hne) (fun _ _ => ⟨rfl, fun _ hs => hs⟩) (h.objs q o hq)
 ·obtain ⟨f1, f2⟩ := hsub _ _ _ _ hq
  by_cases hne : q = k
  ·subst hne
   exact ⟨_, by unfold look; rw [if_pos rfl], rfl⟩
  ·obtain ⟨o, o1, o2⟩ := h.subs q i c b' f1
   exact ⟨o, by rw [hlook q (by rw [o1]; rfl) hne]; exact o1, o2⟩
 ·exact h.subx q q1 q2 i c b (by rw [← hsubq q (by omega)]; exact hq)
 ·rcases hhas q b' hq with ⟨c, c1, c2, c3, c4⟩ | hq <;> rcases hhas q' b' hq' with ⟨c', c1', c2', c3', c4'⟩ | hq'
  ·have := (g14 _ _ _ _ _ c4 c4').2
   subst this
   rw [c3] at c3'
   exact Option.some.inj c3'
  ·exact (hcross c4 hq').elim
  ·exact (hcross c4' hq).elim
  ·exact h.parts q q' b' (hhas2 hq) (hhas2 hq')
 ·rcases hhas q b' hq with ⟨c, c1, c2, c3, c4⟩ | hq
  ·rcases h.young k b' (.inr ⟨j, c, c4⟩) with h4 | h4
   ·exact .inl h4
   ·omega
  ·exact h.young q b' (hhas2 hq)
 ·rcases hloc q lq hq with ⟨c, c1, c2, c3, _⟩ | hq
  ·have := (hkey c3).1; omega
  ·exact (h.ext q lq q1 q2 hq).imp id fun ⟨f1, f2⟩ => ⟨hlooks _ f1, f2⟩
 ·obtain ⟨v, f1, f2⟩ := h.slots i p hp
  exact ⟨v, f1, f2.keep (fun _ _ hs => hs) (fun _ _ _ => rfl) fun i _ l hl => hkeep i l hl⟩

def shutC (cs : List (Nat × Nat)) (mem : Mem) : Nat → List PV → Option (List D × List (Nat × Nat))
 | _, [] => some ([], [])
 | c, p :: r => match lookN c cs with
  | some e => match p with
   | .rw q n => match look q mem with
    | some (.row e' sz rows false) => if e' = e ∧ n = rows.length ∧ q < 1000000 then (match shutC cs mem (c + 1) r with
     | some l => some (.sl sz rows :: l.1, (c, q) :: l.2)
     | none => none) else none
    | _ => none
   | _ => none
  | none => match p with
   | .d x => match shutC cs mem (c + 1) r with
    | some l => some (x :: l.1, l.2)
    | none => none
   | _ => none
def deadM : List Nat → Mem
 | [] => []
 | q :: qs => (q, .row 0 1 [] false) :: deadM qs
theorem deadM_look {q : Nat} {o : MObj} : ∀ {qs : List Nat}, look q (deadM qs) = some o → q ∈ qs ∧ o = .row 0 1 [] false
 | q' :: qs, h => by
  rcases look_cons h with ⟨rfl, rfl⟩ | ⟨_, h⟩
  ·exact ⟨by simp, rfl⟩
  ·obtain ⟨h1, h2⟩ := deadM_look h
   exact ⟨by simp [h1], h2⟩
 | [], h => by cases h
theorem deadM_has {q : Nat} : ∀ {qs : List Nat}, q ∈ qs → look q (deadM qs) = some (.row 0 1 [] false)
 | q' :: qs, h => by
  show (if q = q' then _ else look q (deadM qs)) = _
  split
  ·rfl
  ·rename_i hne
   rcases List.mem_cons.1 h with e | h
   ·exact absurd e hne
   ·exact deadM_has h
 | [], h => by cases h
theorem shutC_get {cs : List (Nat × Nat)} {mem : Mem} : ∀ {ps : List PV} {c0 : Nat} {ds : List D} {ks : List (Nat × Nat)}, shutC cs mem c0 ps = some (ds, ks) → ds.length = ps.length ∧
  (∀ (c : Nat) (q : PV), ps[c]? = some q → (∃ e k2 sz rows, lookN (c0 + c) cs = some e ∧ q = .rw k2 rows.length ∧ look k2 mem = some (.row e sz rows false) ∧ ds[c]? = some (.sl sz rows) ∧ lookN (c0 + c) ks = some k2) ∨ (lookN (c0 + c) cs = none ∧ ∃ x, q = .d x ∧ ds[c]? = some x)) ∧
  (∀ c k2, lookN c ks = some k2 → c0 ≤ c ∧ c < c0 + ps.length ∧ (lookN c cs).isSome = true) ∧ ∀ q ∈ ks.map (·.2), q < 1000000 ∧ ∃ e sz rows, look q mem = some (.row e sz rows false)
 | [], c0, ds, ks, h => by
  cases h
  exact ⟨rfl, fun c q hq => (by simp at hq), fun c k2 hc => (by cases hc), fun q hq => (by cases hq)⟩
 | p :: r, c0, ds, ks, h => by
  unfold shutC at h
  split at h
  ·rename_i e he
   split at h
   ·rename_i q n
    split at h
    ·rename_i e' sz rows hq
     split at h
     ·rename_i hc
      obtain ⟨rfl, rfl, hq6⟩ := hc
      split at h
      ·rename_i l hl
       cases h
       obtain ⟨h1, h2, h3, h4⟩ := shutC_get (ds := l.1) (ks := l.2) (by rw [hl])
       refine ⟨by simp [h1], fun c x hx => ?_, fun c k2 hc => ?_, fun x hx => ?_⟩
       ·cases c with
        | zero =>
         cases hx
         refine .inl ⟨_, q, sz, rows, he, rfl, hq, rfl, ?_⟩
         unfold lookN; rw [if_pos (by omega)]
        | succ c =>
         have := h2 c x (by simpa using hx)
         rw [show c0 + 1 + c = c0 + (c + 1) from by omega] at this
         rcases this with ⟨e, k2, sz2, rows2, f1, f2, f3, f4, f5⟩ | ⟨f1, y, f2, f3⟩
         ·refine .inl ⟨e, k2, sz2, rows2, f1, f2, f3, by simpa using f4, ?_⟩
          show (if c0 + (c + 1) = c0 then _ else lookN (c0 + (c + 1)) l.2) = _
          rw [if_neg (by omega)]
          exact f5
         ·exact .inr ⟨f1, y, f2, by simpa using f3⟩
       ·have hc : (if c = c0 then some q else lookN c l.2) = some k2 := hc
        split at hc
        ·rename_i e1; subst e1
         exact ⟨Nat.le_refl _, by simp, by rw [he]; rfl⟩
        ·obtain ⟨f1, f2, f3⟩ := h3 c k2 hc
         exact ⟨by omega, by simp only [List.length_cons]; omega, f3⟩
       ·rcases List.mem_cons.1 (show x ∈ q :: l.2.map (·.2) from hx) with rfl | hx
        ·exact ⟨hq6, _, _, _, hq⟩
        ·exact h4 x hx
      ·cases h
     ·cases h
    ·cases h
   ·cases h
  ·rename_i he
   split at h
   ·rename_i x
    split at h
    ·rename_i l hl
     cases h
     obtain ⟨h1, h2, h3, h4⟩ := shutC_get (ds := l.1) (ks := l.2) (by rw [hl])
     refine ⟨by simp [h1], fun c y hy => ?_, fun c k2 hc => ?_, h4⟩
     ·cases c with
      | zero => cases hy; exact .inr ⟨he, x, rfl, rfl⟩
      | succ c =>
       have := h2 c y (by simpa using hy)
       rw [show c0 + 1 + c = c0 + (c + 1) from by omega] at this
       rcases this with ⟨e, k2, sz2, rows2, f1, f2, f3, f4, f5⟩ | ⟨f1, z, f2, f3⟩
       ·exact .inl ⟨e, k2, sz2, rows2, f1, f2, f3, by simpa using f4, f5⟩
       ·exact .inr ⟨f1, z, f2, by simpa using f3⟩
     ·obtain ⟨f1, f2, f3⟩ := h3 c k2 hc
      exact ⟨by omega, by simp only [List.length_cons]; omega, f3⟩
    ·cases h
   ·cases h
theorem shut_ok (h : Sim B m S σ a w) {k t sz j : Nat} {xs : List (List D)} {pr : Nat → Bool} {cs ks : List (Nat × Nat)} {ps : List PV} {ds : List D} (hk : look k σ.mem = some (.nest t sz xs pr cs (some (j, ps)))) (hkk : k < 1000000) (hsh : shutC cs σ.mem 0 ps = some (ds, ks)) (hnd : nodupB (ks.map (·.2)) = true) :
  ∃ m', Sim B m' S ⟨σ.n, eraseSs (ks.map (·.2)) σ.slots, (k, .nest t sz (xs.set j ds) (fun a => pr a || decide (a = j)) cs none) :: (deadM (ks.map (·.2)) ++ eraseMs (ks.map (·.2)) σ.mem)⟩ a w := by
 obtain ⟨h0, h1, l, h2, h3⟩ := h.objs _ _ hk
 rcases h3 with ⟨_, _, _, h3⟩ | ⟨b, arr, us, e1, g4, g5, g6, g7, g8, g9, g10, g11, g12, g13, g14, g15⟩
 ·cases h3
 have hmk : m k = some ⟨some b, l.cap⟩ := by rw [h2]; cases l; cases e1; rfl
 obtain ⟨hpl, hj⟩ := g15 ps j focAt_self
 obtain ⟨x, hx⟩ : ∃ x, xs[j]? = some x := ⟨_, List.getElem?_eq_getElem hj⟩
 have hxl := h1 x (List.mem_of_getElem? hx)
 obtain ⟨hdl, hcg, hkc, hqs⟩ := shutC_get hsh
 have hnd := nodup_of hnd
 obtain ⟨qs, hqq⟩ : ∃ qs, ks.map (·.2) = qs := ⟨_, rfl⟩
 rw [hqq] at hqs hnd ⊢
 have hinj : ∀ {c c' q}, lookN c ks = some q → lookN c' ks = some q → c = c' := fun h1 h2 => lookN_inj (by rw [hqq]; exact hnd) h1 h2
 have hmem : ∀ {c q}, lookN c ks = some q → q ∈ qs := fun h1 => by rw [← hqq]; exact List.mem_map.2 ⟨_, lookN_mem h1, rfl⟩
 have hkq : k ∉ qs := fun hkq => by
  obtain ⟨_, e, sz2, rows, hr⟩ := hqs k hkq
  rw [hk] at hr; cases hr
 have hqsub : ∀ q ∈ qs, ∀ i c, m.sub q i c = none := fun q hq => by
  obtain ⟨_, e, sz2, rows, hr⟩ := hqs q hq
  exact h.toMemOk.noSub hr rfl
 have hfsub : ∀ c b', m.sub k j c = some b' → False := fun c b' hb => by
  have := (g13 j c b' hb).2.2.2.2.2
  rw [focAt_self] at this; cases this
 let m' : Map := ⟨fun q => if q ∈ qs then some ⟨none, 0⟩ else m q, fun q i c => if q = k ∧ i = j then (lookN c ks).bind fun q2 => (m q2).bind Loc.blk else m.sub q i c⟩
 have hm1 : ∀ q, q ∈ qs → m' q = some ⟨none, 0⟩ := fun q hq => if_pos hq
 have hm2 : ∀ q, q ∉ qs → m' q = m q := fun q hq => if_neg hq
 have hkeep : ∀ q, q ∉ qs → ∀ lq, m q = some lq → m' q = some lq := fun q hq lq hl => by rw [hm2 q hq]; exact hl
 have hsubq : ∀ q, q ≠ k → m'.sub q = m.sub q := fun q hq => by
  funext i c
  exact if_neg fun e => hq e.1
 have hsubi : ∀ i c, i ≠ j → m'.sub k i c = m.sub k i c := fun i c hi => if_neg fun e => hi e.2
 have hsubj : ∀ c, m'.sub k j c = (lookN c ks).bind fun q2 => (m q2).bind Loc.blk := fun c => if_pos ⟨rfl, rfl⟩
 have hsubn : ∀ {c b'}, m'.sub k j c = some b' → ∃ q2 cap, lookN c ks = some q2 ∧ m q2 = some ⟨some b', cap⟩ := fun {c b'} hb => by
  rw [hsubj] at hb
  cases hq2 : lookN c ks with
  | none => rw [hq2] at hb; cases hb
  | some q2 =>
   rw [hq2] at hb
   have hb : (m q2).bind Loc.blk = some b' := hb
   cases hm : m q2 with
   | none => rw [hm] at hb; cases hb
   | some lq =>
    rw [hm] at hb
    have hb : lq.blk = some b' := hb
    exact ⟨q2, lq.cap, rfl, by rw [hm]; cases lq; cases hb; rfl⟩
 have hhas : ∀ q b', m'.has q b' → (q ∉ qs ∧ m.has q b') ∨ (q = k ∧ ∃ c q2 cap, lookN c ks = some q2 ∧ m q2 = some ⟨some b', cap⟩) := fun q b' hq => by
  rcases hq with ⟨c, hq⟩ | ⟨i, c, hq⟩
  ·by_cases hm : q ∈ qs
   ·rw [hm1 q hm] at hq; cases hq
   ·rw [hm2 q hm] at hq; exact .inl ⟨hm, .inl ⟨c, hq⟩⟩
  ·by_cases hne : q = k
   ·subst hne
    by_cases hij : i = j
    ·subst hij
     obtain ⟨q2, cap, f1, f2⟩ := hsubn hq
     exact .inr ⟨rfl, c, q2, cap, f1, f2⟩
    ·rw [hsubi i c hij] at hq
     exact .inl ⟨hkq, .inr ⟨i, c, hq⟩⟩
   ·rw [hsubq q hne] at hq
    refine .inl ⟨fun hm => ?_, .inr ⟨i, c, hq⟩⟩
    rw [hqsub q hm] at hq; cases hq
 have hcross : ∀ {q c q2 cap b'}, lookN c ks = some q2 → m q2 = some ⟨some b', cap⟩ → q ∉ qs → m.has q b' → False := fun {q c q2 cap b'} f1 f2 f3 f4 => by
  have := h.parts q2 q b' (.inl ⟨cap, f2⟩) f4
  exact f3 (this ▸ hmem f1)
 have hset : ∀ y ∈ xs.set j ds, y.length = sz := fun y hy => by
  rcases List.mem_or_eq_of_mem_set hy with hy | rfl
  ·exact h1 y hy
  ·rw [hdl, hpl]
 have hlk : ∀ q, q ≠ k → q ∉ qs → look q ((k, MObj.nest t sz (xs.set j ds) (fun a => pr a || decide (a = j)) cs none) :: (deadM qs ++ eraseMs qs σ.mem)) = (look q σ.mem).map (eraseOs qs) := fun q hne hq => by
  show (if q = k then _ else look q (deadM qs ++ eraseMs qs σ.mem)) = _
  rw [if_neg hne, look_app]
  cases hd : look q (deadM qs) with
  | none => exact look_eraseMs
  | some o => exact absurd (deadM_look hd).1 hq
 have hlks : ∀ q, (look q σ.mem).isSome = true → (look q ((k, MObj.nest t sz (xs.set j ds) (fun a => pr a || decide (a = j)) cs none) :: (deadM qs ++ eraseMs qs σ.mem))).isSome = true := fun q hq =>
  look_more (some_or (.inr (by rw [look_eraseMs, Option.isSome_map]; exact hq)))
 refine ⟨m', { dom := fun q lq hq => ?_, objs := fun q o hq => ?_, subs := fun q i c b' hq => ?_, subx := fun q q1 q2 i c b hq => ?_, parts := fun q q' b' hq hq' => ?_, young := fun q b' hq => ?_, grow := h.grow, sold := h.sold, snew := h.snew, sin := h.sin, scell := h.scell, ext := fun q lq q1 q2 hq => ?_, marks := h.marks, defers := h.defers, size := h.size, frozen := h.frozen, slots := fun i p hp => ?_ }⟩
 ·by_cases hm : q ∈ qs
  ·obtain ⟨_, e, sz2, rows, hr⟩ := hqs q hm
   exact hlks q (by rw [hr]; rfl)
  ·rw [hm2 q hm] at hq
   exact hlks q (h.dom q lq hq)
 ·rcases look_cons hq with ⟨e0, e00⟩ | ⟨hne, hq⟩
  ·have e0 := e0.symm
   subst e0 e00
   refine ⟨h0, hset, l, by rw [hm2 _ hkq]; exact h2, .inr ⟨b, arr, us, e1, g4, by rw [List.length_set]; exact g5, g6, g7, by rw [List.length_set]; exact g8, g9, g10, g11, fun i y hy c p u hp hu => ?_, fun i c b' hb => ?_, fun i c i' c' b' hb hb' => ?_, fun ps2 i2 hi2 => by cases hi2⟩⟩
   ·unfold NCell
    dsimp only [focAt]
    by_cases hij : i = j
    ·subst hij
     rw [List.getElem?_set_self hj] at hy
     cases hy
     have hc : c < sz := by rw [← hpl, ← hdl]; exact (List.getElem?_eq_some_iff.1 hp).1
     obtain ⟨p0, hp0⟩ : ∃ p0, x[c]? = some p0 := ⟨_, List.getElem?_eq_getElem (by omega)⟩
     have hn := g12 i x hx c p0 u hp0 hu
     unfold NCell at hn
     rw [focAt_self] at hn
     obtain ⟨q, hq, hr⟩ := hn
     rcases hcg c q hq with ⟨e, k2, sz2, rows, f1, rfl, f3, f4, f5⟩ | ⟨f1, y, rfl, f3⟩
     ·rw [Nat.zero_add] at f1 f5
      rw [hp] at f4; cases f4
      rw [f1]
      dsimp only
      rw [if_pos (by simp)]
      obtain ⟨i0, i1, lq, i2, i3⟩ := h.objs _ _ f3
      obtain ⟨lq', j1, j2⟩ := hr
      rw [i2] at j1; cases j1
      have hsq : m'.sub k i c = lq.blk := by
       rw [hsubj c, f5]
       show (m k2).bind Loc.blk = _
       rw [i2]; rfl
      refine ⟨sz2, rows, lq.cap, rfl, i0, i1, by rw [hsq]; exact i3, ?_⟩
      rw [hsq]
      rcases j2 with ⟨j2, j3, j4⟩ | ⟨b2, j2, j3, _⟩
      ·exact .inl ⟨j2, j3, List.eq_nil_of_length_eq_zero j4⟩
      ·exact .inr ⟨b2, j2, j3⟩
     ·rw [Nat.zero_add] at f1
      rw [hp] at f3; cases f3
      rw [f1]
      exact hr
    ·rw [List.getElem?_set_ne (fun e => hij e.symm)] at hy
     have hn := g12 i y hy c p u hp hu
     unfold NCell at hn
     rw [focAt_ne hij] at hn
     dsimp only at hn
     have hpe : (fun a => pr a || decide (a = j)) i = pr i := by simp [hij]
     split at hn
     ·split at hn
      ·rename_i hp2
       rw [if_pos (hpe.trans hp2)]
       exact hn.keep (fun _ _ hs => hs) (fun _ _ _ => rfl) (hsubi i c hij) fun _ _ => ⟨rfl, fun _ hs => hs⟩
      ·rename_i hp2
       rw [if_neg (fun e => hp2 (hpe.symm.trans e))]
       exact hn
     ·exact hn
   ·rw [List.length_set]
    by_cases hij : i = j
    ·subst hij
     obtain ⟨q2, cap, f1, f2⟩ := hsubn hb
     obtain ⟨_, k1, k2⟩ := hkc c q2 f1
     refine ⟨fun e => ?_, hj, by omega, by simp, k2, rfl⟩
     subst e
     have := h.parts q2 k b' (.inl ⟨cap, f2⟩) (.inl ⟨_, hmk⟩)
     exact hkq (this ▸ hmem f1)
    ·rw [hsubi i c hij] at hb
     obtain ⟨f1, f2, f3, f4, f5, _⟩ := g13 i c b' hb
     exact ⟨f1, f2, f3, by simp [f4], f5, rfl⟩
   ·have hko : ∀ {i c}, i ≠ j → m'.sub k i c = some b' → m.has k b' := fun {i c} hij hb => by rw [hsubi i c hij] at hb; exact .inr ⟨i, c, hb⟩
    by_cases hij : i = j <;> by_cases hij' : i' = j
    ·subst hij; subst hij'
     obtain ⟨q2, cap, f1, f2⟩ := hsubn hb
     obtain ⟨q2', cap', f1', f2'⟩ := hsubn hb'
     have := h.parts q2 q2' b' (.inl ⟨_, f2⟩) (.inl ⟨_, f2'⟩)
     subst this
     exact ⟨rfl, hinj f1 f1'⟩
    ·subst hij
     obtain ⟨q2, cap, f1, f2⟩ := hsubn hb
     exact (hcross f1 f2 hkq (hko hij' hb')).elim
    ·subst hij'
     obtain ⟨q2, cap, f1, f2⟩ := hsubn hb'
     exact (hcross f1 f2 hkq (hko hij hb)).elim
    ·rw [hsubi i c hij] at hb
     rw [hsubi i' c' hij'] at hb'
     exact g14 i c i' c' b' hb hb'
  ·by_cases hm : q ∈ qs
   ·rw [look_app, deadM_has hm] at hq
    cases hq
    exact ⟨by omega, fun _ hy => (by cases hy), _, hm1 q hm, .inl ⟨rfl, rfl⟩⟩
   ·rw [look_app] at hq
    have hd : look q (deadM qs) = none := by
     cases hd : look q (deadM qs) with
     | none => rfl
     | some o => exact absurd (deadM_look hd).1 hm
    rw [hd] at hq
    have hq : look q (eraseMs qs σ.mem) = some o := hq
    rw [look_eraseMs] at hq
    obtain ⟨o1, ho1, rfl⟩ := Option.map_eq_some_iff.1 hq
    exact ObjOk.erases (m := m) (m' := m') (fun _ _ hs => hs) (fun _ _ _ => rfl) hkeep (fun lq hl => hkeep q hm lq hl) (hsubq q hne) (fun _ _ => ⟨rfl, fun _ hs => hs⟩) (h.objs q o1 ho1)
 ·by_cases hne : q = k
  ·subst hne
   exact ⟨_, by unfold look; rw [if_pos rfl], rfl⟩
  ·rw [hsubq q hne] at hq
   obtain ⟨o, o1, o2⟩ := h.subs q i c b' hq
   refine ⟨eraseOs qs o, ?_, ?_⟩
   ·have hm : q ∉ qs := fun hm => by rw [hqsub q hm] at hq; cases hq
    rw [hlk q hne hm, o1]
    rfl
   ·cases o with
    | nest => rw [eraseOs_nest]; rfl
    | sys H => rw [eraseOs_of fun _ => rfl]; rfl
    | _ => cases o2
 ·exact h.subx q q1 q2 i c b (by rw [← hsubq q (by omega)]; exact hq)
 ·rcases hhas q b' hq with ⟨f1, f2⟩ | ⟨rfl, c, q2, cap, f1, f2⟩ <;> rcases hhas q' b' hq' with ⟨f1', f2'⟩ | ⟨e', c', q2', cap', f1', f2'⟩
  ·exact h.parts q q' b' f2 f2'
  ·exact (hcross f1' f2' f1 f2).elim
  ·exact (hcross f1 f2 f1' f2').elim
  ·exact e'.symm
 ·rcases hhas q b' hq with ⟨f1, f2⟩ | ⟨rfl, c, q2, cap, f1, f2⟩
  ·exact h.young q b' f2
  ·rcases h.young q2 b' (.inl ⟨_, f2⟩) with h4 | h4
   ·exact .inl h4
   ·have := (hqs q2 (hmem f1)).1; omega
 ·have hm : q ∉ qs := fun hm => by have := (hqs q hm).1; omega
  rw [hm2 q hm] at hq
  exact (h.ext q lq q1 q2 hq).imp id fun ⟨f1, f2⟩ => ⟨hlks _ f1, f2⟩
 ·have hp : look i (eraseSs qs σ.slots) = some p := hp
  rw [look_eraseSs] at hp
  obtain ⟨p0, hp0, rfl⟩ := Option.map_eq_some_iff.1 hp
  obtain ⟨v, f1, f2⟩ := h.slots i p0 hp0
  exact ⟨v, f1, f2.erases (fun _ _ hs => hs) (fun _ _ _ => rfl) hkeep⟩
theorem focus0_ok (h : Sim B m S σ a w) {k t sz j : Nat} {xs : List (List D)} {pr : Nat → Bool} {cs : List (Nat × Nat)} (hk : look k σ.mem = some (.nest t sz xs pr cs none)) (hj : j < xs.length) (hpr : pr j = false) :
  Sim B m S { σ with mem := (k, .nest t sz xs pr cs (some (j, (xs.getD j []).map .d))) :: σ.mem } a w := by
 refine h.world (h.toMemOk.again hk (.inr rfl) ?_) (fun _ _ hs => hs) (fun _ _ _ => rfl) fun _ _ hl => hl
 obtain ⟨h0, h1, l, h2, h3⟩ := h.objs _ _ hk
 refine ⟨h0, h1, l, h2, ?_⟩
 rcases h3 with ⟨_, h3, _⟩ | ⟨b, arr, us, e1, g4, g5, g6, g7, g8, g9, g10, g11, g12, g13, g14, g15⟩
 ·rw [h3] at hj; simp at hj
 obtain ⟨x, hx⟩ : ∃ x, xs[j]? = some x := ⟨_, List.getElem?_eq_getElem hj⟩
 have hxg : xs.getD j [] = x := by rw [List.getD_eq_getElem?_getD, hx]; rfl
 rw [hxg]
 have hxl := h1 x (List.mem_of_getElem? hx)
 refine .inr ⟨b, arr, us, e1, g4, g5, g6, g7, g8, g9, g10, g11, fun i y hy c p u hp hu => ?_, fun i c b' hb => ?_, g14, fun ps2 i2 hi2 => ?_⟩
 ·have hn := g12 i y hy c p u hp hu
  unfold NCell at hn ⊢
  dsimp only [focAt] at hn
  by_cases hij : i = j
  ·subst hij
   rw [focAt_self]
   rw [hx] at hy; cases hy
   refine ⟨.d p, by rw [List.getElem?_map, hp]; rfl, ?_⟩
   split at hn
   ·rw [if_neg (by rw [hpr]; simp)] at hn; exact hn
   ·exact hn
  ·rw [focAt_ne hij]; exact hn
 ·obtain ⟨f1, f2, f3, f4, f5, _⟩ := g13 i c b' hb
  exact ⟨f1, f2, f3, f4, f5, focAt_ne fun e => by rw [e, hpr] at f4; cases f4⟩
 ·by_cases hij : i2 = j
  ·subst hij; rw [focAt_self] at hi2; cases hi2; exact ⟨by rw [List.length_map, hxl], hj⟩
  ·rw [focAt_ne hij] at hi2; cases hi2
def unD : List PV → Option (List D)
 | [] => some []
 | .d x :: r => match unD r with
  | some l => some (x :: l)
  | none => none
 | _ => none
theorem unD_get : ∀ {ps : List PV} {ds : List D}, unD ps = some ds → ps = ds.map .d
 | [], ds, h => by cases h; rfl
 | .d x :: r, ds, h => by
  unfold unD at h
  split at h
  ·rename_i l hl
   cases h
   rw [unD_get hl]; rfl
  ·cases h
 | .rw .. :: _, _, h | .ptr .. :: _, _, h | .rp .. :: _, _, h | .rs .. :: _, _, h | .mp .. :: _, _, h | .ep .. :: _, _, h | .any :: _, _, h | .agg .. :: _, _, h | .tup .. :: _, _, h | .clo .. :: _, _, h => by cases h
theorem shut0_ok (h : Sim B m S σ a w) {k t sz j : Nat} {xs : List (List D)} {pr : Nat → Bool} {cs : List (Nat × Nat)} {ps : List PV} {ds : List D} (hk : look k σ.mem = some (.nest t sz xs pr cs (some (j, ps)))) (hd : unD ps = some ds) :
  Sim B m S { σ with mem := (k, .nest t sz (xs.set j ds) (fun a => pr a && !decide (a = j)) cs none) :: σ.mem } a w := by
 refine h.world (h.toMemOk.again hk (.inr rfl) ?_) (fun _ _ hs => hs) (fun _ _ _ => rfl) fun _ _ hl => hl
 have hd := unD_get hd
 subst hd
 obtain ⟨h0, h1, l, h2, h3⟩ := h.objs _ _ hk
 rcases h3 with ⟨_, _, _, h3⟩ | ⟨b, arr, us, e1, g4, g5, g6, g7, g8, g9, g10, g11, g12, g13, g14, g15⟩
 ·cases h3
 obtain ⟨hpl, hj⟩ := g15 _ j focAt_self
 rw [List.length_map] at hpl
 obtain ⟨x, hx⟩ : ∃ x, xs[j]? = some x := ⟨_, List.getElem?_eq_getElem hj⟩
 have hxl := h1 x (List.mem_of_getElem? hx)
 have hset : ∀ y ∈ xs.set j ds, y.length = sz := fun y hy => by
  rcases List.mem_or_eq_of_mem_set hy with hy | rfl
  ·exact h1 y hy
  ·exact hpl
 refine ⟨h0, hset, l, h2, .inr ⟨b, arr, us, e1, g4, by rw [List.length_set]; exact g5, g6, g7, by rw [List.length_set]; exact g8, g9, g10, g11, fun i y hy c p u hp hu => ?_, fun i c b' hb => ?_, g14, fun ps2 i2 hi2 => by cases hi2⟩⟩
 ·unfold NCell
  dsimp only [focAt]
  by_cases hij : i = j
  ·subst hij
   rw [List.getElem?_set_self hj] at hy
   cases hy
   have hc : c < sz := by rw [← hpl]; exact (List.getElem?_eq_some_iff.1 hp).1
   obtain ⟨p0, hp0⟩ : ∃ p0, x[c]? = some p0 := ⟨_, List.getElem?_eq_getElem (by omega)⟩
   have hn := g12 i x hx c p0 u hp0 hu
   unfold NCell at hn
   rw [focAt_self] at hn
   obtain ⟨q, hq, hr⟩ := hn
   rw [List.getElem?_map, hp] at hq
   cases hq
   have hr : RepD w S u p := hr
   split
   ·rw [if_neg (by simp)]; exact hr
   ·exact hr
  ·rw [List.getElem?_set_ne (fun e => hij e.symm)] at hy
   have hn := g12 i y hy c p u hp hu
   unfold NCell at hn
   rw [focAt_ne hij] at hn
   dsimp only at hn
   have hpe : (fun a => pr a && !decide (a = j)) i = pr i := by simp [hij]
   split at hn
   ·split at hn
    ·rename_i hp2
     rw [if_pos (hpe.trans hp2)]; exact hn
    ·rename_i hp2
     rw [if_neg (fun e => hp2 (hpe.symm.trans e))]; exact hn
   ·exact hn
 ·obtain ⟨f1, f2, f3, f4, f5, f6⟩ := g13 i c b' hb
  have hij : i ≠ j := fun e => by rw [e, focAt_self] at f6; cases f6
  rw [List.length_set]
  exact ⟨f1, f2, f3, by simp [f4, hij], f5, rfl⟩
theorem seenN_ok (h : Sim B m S σ a w) {k t sz j i q n e esz : Nat} {xs rows : List (List D)} {lk : Bool} {pr : Nat → Bool} {cs : List (Nat × Nat)} {ps : List PV} (hk : look k σ.mem = some (.nest t sz xs pr cs (some (j, ps)))) (hi : ps[i]? = some (.rw q n)) (hq : look q σ.mem = some (.row e esz rows lk)) (hqq : q < 1000000) (hn : n ≤ rows.length) :
  ∃ S', Sim B m S' { σ with mem := (k, .nest t sz xs pr cs (some (j, ps.set i (.d (.sl esz (rows.take n)))))) :: (q, .row e esz rows true) :: σ.mem } a w := by
 have hkq : k ≠ q := fun e => by rw [e, hq] at hk; cases hk
 obtain ⟨S', s1, s2⟩ := leak_ok h hq hqq
 have hk1 : look k ((q, MObj.row e esz rows true) :: σ.mem) = some (.nest t sz xs pr cs (some (j, ps))) := by
  show (if k = q then _ else look k σ.mem) = _
  rw [if_neg hkq]; exact hk
 refine ⟨S', s1.world (s1.toMemOk.again hk1 (.inr rfl) ?_) (fun _ _ hs => hs) (fun _ _ _ => rfl) fun _ _ hl => hl⟩
 obtain ⟨h0, h1, l, h2, h3⟩ := s1.objs _ _ hk1
 refine ⟨h0, h1, l, h2, h3.keep (fun _ _ hs => hs) (fun _ _ _ => rfl) rfl (fun _ _ => ⟨rfl, fun _ hs => hs⟩) (fun _ _ _ _ => ⟨rfl, fun _ hs => hs⟩) fun i2 => ?_⟩
 by_cases hij : i2 = j
 ·subst hij
  rw [focAt_self, focAt_self]
  refine ⟨_, rfl, by rw [List.length_set], fun c p u hp hr => ?_⟩
  by_cases hc : c = i
  ·subst hc
   rw [hi] at hp; cases hp
   exact ⟨_, List.getElem?_set_self (List.getElem?_eq_some_iff.1 hi).1, row_data (t := e) (s1.objs q _ (by simp [look])) (Rep.of2 (Rep2.of1 hr)) hn⟩
  ·exact ⟨p, by rw [List.getElem?_set_ne (fun e => hc e.symm)]; exact hp, hr⟩
 ·rw [focAt_ne hij, focAt_ne hij]
theorem cellN_ok (h : Sim B m S σ a w) {k t sz q i j e esz : Nat} {xs : List (List D)} {pr : Nat → Bool} {cs : List (Nat × Nat)} {ps : List PV} (hk : look k σ.mem = some (.nest t sz xs pr cs (some (q, ps)))) (hi : ps[i]? = some (.d (.v (.slice none 0 0)))) (hj : look j σ.mem = none) (hjj : j < 1000000) (h0 : 0 < esz) :
  ∃ m', Sim B m' S { σ with mem := (k, .nest t sz xs pr cs (some (q, ps.set i (.rw j 0)))) :: (j, .row e esz [] false) :: σ.mem } a w := by
 have hkj : k ≠ j := fun e => by rw [e, hj] at hk; cases hk
 obtain ⟨m', s1, s2, _⟩ := nil_ok (e := e) h hjj hj h0
 have hk1 : look k ((j, MObj.row e esz [] false) :: σ.mem) = some (.nest t sz xs pr cs (some (q, ps))) := by
  show (if k = j then _ else look k σ.mem) = _
  rw [if_neg hkj]; exact hk
 refine ⟨m', s1.world (s1.toMemOk.again hk1 (.inr rfl) ?_) (fun _ _ hs => hs) (fun _ _ _ => rfl) fun _ _ hl => hl⟩
 obtain ⟨h0, h1, l, h2, h3⟩ := s1.objs _ _ hk1
 refine ⟨h0, h1, l, h2, h3.keep (fun _ _ hs => hs) (fun _ _ _ => rfl) rfl (fun _ _ => ⟨rfl, fun _ hs => hs⟩) (fun _ _ _ _ => ⟨rfl, fun _ hs => hs⟩) fun i2 => ?_⟩
 by_cases hij : i2 = q
 ·subst hij
  rw [focAt_self, focAt_self]
  refine ⟨_, rfl, by rw [List.length_set], fun c p u hp hr => ?_⟩
  by_cases hc : c = i
  ·subst hc
   rw [hi] at hp; cases hp
   have hr : RepD w S u (.v (.slice none 0 0)) := hr
   cases hr
   exact ⟨_, List.getElem?_set_self (List.getElem?_eq_some_iff.1 hi).1, s2⟩
  ·exact ⟨p, by rw [List.getElem?_set_ne (fun e => hc e.symm)]; exact hp, hr⟩
 ·rw [focAt_ne hij, focAt_ne hij]
end
end Go.Proofs.YtplooifpgmlofaaGreat
