/- What a call needs and what it leaves, in plain values, whatever else there is: contracts, and how a call is met by one. No condition. -/
import Derived.Test.YtplooifpgmlofaaGreatV10m
namespace Go.Proofs.YtplooifpgmlofaaGreat
open Go.RowKit

instance : Inhabited MObj := ⟨.box 0 []⟩
def PV.ren0 (f : Nat → Nat) : PV → PV
  | .rw k n => .rw (f k) n
  | .ptr k o => .ptr (f k) o
  | .rp k s i o => .rp (f k) s i o
  | .rs k s o n fl => .rs (f k) s o n fl
  | .mp k => .mp (f k)
  | .ifc t k => .ifc t (f k)
  | p => p
def PV.ren1 (f : Nat → Nat) : PV → PV
  | .clo g caps => .clo g (caps.map (PV.ren0 f))
  | p => p.ren0 f
def PV.ren2 (f : Nat → Nat) : PV → PV
  | .agg cs => .agg (cs.map (PV.ren1 f))
  | p => p.ren1 f
def PV.ren (f : Nat → Nat) : PV → PV
  | .tup cs => .tup (cs.map (PV.ren2 f))
  | p => p.ren2 f
def MObj.ren (f : Nat → Nat) : MObj → MObj
  | .box t cells => .box t (cells.map (PV.ren1 f))
  | .nest t sz xs pr cs foc => .nest t sz xs pr cs (focMap (PV.ren1 f) foc)
  | o => o

section
variable {P : Program} {tb : Tab} {B : Base} {m m' m0 : Map} {S S' : Cells} {σ : Sta} {a : Act} {w w' : World} {mem mem' : Mem} {f : Nat → Nat}

theorem All2.maps {α β γ : Type} {R : α → β → Prop} {R' : α → γ → Prop} {g : β → γ} : ∀ {as : List α} {bs : List β}, (∀ a b, b ∈ bs → R a b → R' a (g b)) → All2 R as bs → All2 R' as (bs.map g)
  | [], [], _, _ => trivial
  | _ :: _, _ :: _, h, ⟨h1, h2⟩ => ⟨h _ _ (by simp) h1, h2.maps fun a b hb => h a b (by simp [hb])⟩
  | [], _ :: _, _, h => h.elim
  | _ :: _, [], _, h => h.elim
theorem Rep0.ren {v : Value} {p : PV} (hf : ∀ k ∈ p.keys0, ∀ l, m k = some l → m0 (f k) = some l) (h : Rep0 m w S v p) : Rep0 m0 w S v (p.ren0 f) := by
  cases p with
  | rw k n => obtain ⟨l, h1, h2⟩ := h; exact ⟨l, hf k (by simp [PV.keys0]) _ h1, h2⟩
  | ptr k off => obtain ⟨b, c, h1, h2⟩ := h; exact ⟨b, c, hf k (by simp [PV.keys0]) _ h1, h2⟩
  | rp k sz i off => obtain ⟨b, c, h1, h2⟩ := h; exact ⟨b, c, hf k (by simp [PV.keys0]) _ h1, h2⟩
  | rs k sz off n fl => obtain ⟨l, h1, h2⟩ := h; exact ⟨l, hf k (by simp [PV.keys0]) _ h1, h2⟩
  | mp k => obtain ⟨b, c, h1, h2⟩ := h; exact ⟨b, c, hf k (by simp [PV.keys0]) _ h1, h2⟩
  | ifc t k => obtain ⟨b, c, h1, h2⟩ := h; exact ⟨b, c, hf k (by simp [PV.keys0]) _ h1, h2⟩
  | fd sz xs => exact h
  | d x => exact h
  | ep row off => exact h
  | any => trivial
  | agg cs => exact h
  | tup cs => exact h
  | clo f cs => exact h
theorem Rep1.ren {v : Value} {p : PV} (hf : ∀ k ∈ p.keys1, ∀ l, m k = some l → m0 (f k) = some l) (h : Rep1 m w S v p) : Rep1 m0 w S v (p.ren1 f) := by
  cases p with
  | clo g caps =>
    obtain ⟨vs, e, ha⟩ := h
    exact ⟨vs, e, ha.maps fun a b hb hab => Rep0.ren (fun k hk => hf k (by simp only [PV.keys1, List.mem_flatMap]; exact ⟨b, hb, hk⟩)) hab⟩
  | rw k n => exact Rep0.ren (w := w) (S := S) (p := .rw k n) hf h
  | ptr k off => exact Rep0.ren (w := w) (S := S) (p := .ptr k off) hf h
  | rp k sz i off => exact Rep0.ren (w := w) (S := S) (p := .rp k sz i off) hf h
  | rs k sz off n fl => exact Rep0.ren (w := w) (S := S) (p := .rs k sz off n fl) hf h
  | mp k => exact Rep0.ren (w := w) (S := S) (p := .mp k) hf h
  | ifc t k => exact Rep0.ren (w := w) (S := S) (p := .ifc t k) hf h
  | fd sz xs => exact h
  | d x => exact h
  | ep row off => exact h
  | any => trivial
  | agg cs => exact h
  | tup cs => exact h
theorem Rep2.ren {v : Value} {p : PV} (hf : ∀ k ∈ p.keys2, ∀ l, m k = some l → m0 (f k) = some l) (h : Rep2 m w S v p) : Rep2 m0 w S v (p.ren2 f) := by
  cases p with
  | agg cs =>
    obtain ⟨vs, e, ha⟩ := h
    exact ⟨vs, e, ha.maps fun a b hb hab => Rep1.ren (fun k hk => hf k (by simp only [PV.keys2, List.mem_flatMap]; exact ⟨b, hb, hk⟩)) hab⟩
  | rw k n => exact Rep1.ren (w := w) (S := S) (p := .rw k n) hf h
  | ptr k off => exact Rep1.ren (w := w) (S := S) (p := .ptr k off) hf h
  | rp k sz i off => exact Rep1.ren (w := w) (S := S) (p := .rp k sz i off) hf h
  | rs k sz off n fl => exact Rep1.ren (w := w) (S := S) (p := .rs k sz off n fl) hf h
  | mp k => exact Rep1.ren (w := w) (S := S) (p := .mp k) hf h
  | ifc t k => exact Rep1.ren (w := w) (S := S) (p := .ifc t k) hf h
  | fd sz xs => exact h
  | clo g cs => exact Rep1.ren (w := w) (S := S) (p := .clo g cs) hf h
  | d x => exact h
  | ep row off => exact h
  | any => trivial
  | tup cs => exact h
theorem Rep.ren {v : Value} {p : PV} (hf : ∀ k ∈ p.keys, ∀ l, m k = some l → m0 (f k) = some l) (h : Rep m w S v p) : Rep m0 w S v (p.ren f) := by
  cases p with
  | tup cs =>
    obtain ⟨vs, e, ha⟩ := h
    exact ⟨vs, e, ha.maps fun a b hb hab => Rep2.ren (fun k hk => hf k (by simp only [PV.keys, List.mem_flatMap]; exact ⟨b, hb, hk⟩)) hab⟩
  | rw k n => exact Rep2.ren (w := w) (S := S) (p := .rw k n) hf h
  | ptr k off => exact Rep2.ren (w := w) (S := S) (p := .ptr k off) hf h
  | rp k sz i off => exact Rep2.ren (w := w) (S := S) (p := .rp k sz i off) hf h
  | rs k sz off n fl => exact Rep2.ren (w := w) (S := S) (p := .rs k sz off n fl) hf h
  | mp k => exact Rep2.ren (w := w) (S := S) (p := .mp k) hf h
  | ifc t k => exact Rep2.ren (w := w) (S := S) (p := .ifc t k) hf h
  | fd sz xs => exact h
  | clo g cs => exact Rep2.ren (w := w) (S := S) (p := .clo g cs) hf h
  | agg cs => exact Rep2.ren (w := w) (S := S) (p := .agg cs) hf h
  | d x => exact h
  | ep row off => exact h
  | any => trivial
theorem ObjOk.ren {k : Nat} {o : MObj} (hf : ∀ j ∈ o.keys, ∀ l, m j = some l → m0 (f j) = some l) {k' : Nat} (hk : ∀ l, m k = some l → m0 k' = some l) (hs : m0.sub k' = m.sub k) (h : ObjOk m w S k o) : ObjOk m0 w S k' (o.ren f) := by
  cases o with
  | box t cells =>
    obtain ⟨b, c, arr, h1, h2, h3, h4⟩ := h
    exact ⟨b, c, arr, hk _ h1, h2, h3.maps fun _ p hp hr => Rep1.ren (fun j hj => hf j (by simp only [MObj.keys, List.mem_flatMap]; exact ⟨p, hp, hj⟩)) hr, h4⟩
  | row t sz xs l =>
    obtain ⟨h0, h1, lc, h2, h3⟩ := h
    exact ⟨h0, h1, lc, hk _ h2, h3⟩
  | map es =>
    obtain ⟨b, c, ents, clock, h1, h2, h3, h4⟩ := h
    exact ⟨b, c, ents, clock, hk _ h1, h2, h3, h4⟩
  | grown t sz xs =>
    obtain ⟨h0, h1, lc, h2, h3⟩ := h
    exact ⟨h0, h1, lc, hk _ h2, h3⟩
  | nest t sz xs pr cs foc =>
    obtain ⟨h0, h1, lc, h2, h3⟩ := h
    refine ⟨h0, h1, lc, hk _ h2, h3.keep (fun _ _ hs => hs) (fun _ _ _ => rfl) hs (fun _ _ => ⟨rfl, fun _ hs => hs⟩) (fun _ _ _ _ => ⟨rfl, fun _ hs => hs⟩) fun i => ?_⟩
    rw [focAt_map]
    cases hq : focAt foc i with
    | none => rfl
    | some ps => exact ⟨ps.map (PV.ren1 f), rfl, by simp, fun c q u h4 h5 => ⟨q.ren1 f, by rw [List.getElem?_map, h4]; rfl, Rep1.ren (fun j hj => hf j (focAt_keys hq h4 hj)) h5⟩⟩
  | sys H =>
    obtain ⟨b, c, h1, h2⟩ := h
    exact ⟨b, c, hk _ h1, by rw [hs]; exact h2⟩

def extMem (k : Nat) : List MObj → Mem
  | [] => []
  | o :: r => (k, o) :: extMem (k + 1) r
theorem look_ext : ∀ {l : List MObj} {k j : Nat}, look j (extMem k l) = if k ≤ j then l[j - k]? else none
  | [], k, j => by simp [extMem, look]
  | o :: l, k, j => by
    unfold extMem look
    split
    · rename_i e; subst e; simp
    · rename_i e
      rw [look_ext (l := l)]
      by_cases hk : k ≤ j
      · rw [if_pos hk, if_pos (by omega)]
        rw [show j - k = (j - (k + 1)) + 1 from by omega, List.getElem?_cons_succ]
      · rw [if_neg hk, if_neg (by omega)]
theorem look_app {α : Type} {i : Nat} : ∀ {l r : List (Nat × α)}, look i (l ++ r) = match look i l with | some p => some p | none => look i r
  | [], r => rfl
  | (j, p) :: l, r => by
    rw [List.cons_append]
    simp only [look]
    split
    · rfl
    · exact look_app

structure Res where
  val : PV
  ext : List MObj := []
  new : List MObj := []

def Plain (P : Program) (f : Nat) : Prop := ∀ (args : Array Value) (w : World), (callFunc f args).run P w = .ok (.enter f args) w
def isGrown : MObj → Bool
  | .grown .. => true
  | .box .. => false
  | .row .. => false
  | .map _ => false
  | .nest .. => false
  | .sys _ => false
def back1 : MObj → MObj
  | .grown t sz xs => .row t sz xs false
  | .box t cs => .box t cs
  | .row t sz xs l => .row t sz xs l
  | .map es => .map es
  | .nest t sz xs pr cs foc => .nest t sz xs pr cs foc
  | .sys H => .sys H
theorem ObjOk.back1 {k : Nat} {o : MObj} (h : ObjOk m w S k o) : ObjOk m w S k (back1 o) := by cases o <;> exact h
theorem back1_of {o : MObj} (h : isGrown o = false) : back1 o = o := by cases o <;> first | rfl | cases h
def grownAt (ext : List MObj) (k : Nat) : Bool := decide (1000000 ≤ k) && match ext[k - 1000000]? with
  | some o => isGrown o
  | none => false
def KeptM (w : World) (m m' : Map) (ext : List MObj) : Prop := (∀ k l, m k = some l → ∃ l', m' k = some l' ∧ (l' = l ∨ (grownAt ext k = true ∧ ∀ b, l'.blk = some b → w.heap.size ≤ b ∨ l.blk = some b))) ∧ ∀ k, 1000000 ≤ k → k < 1000000 + ext.length → ∀ i c b, m'.sub k i c = some b → w.heap.size ≤ b ∨ m.has k b
def Meets (P : Program) (f : Nat) (args : List PV) (ext : List MObj) (Q : Res → Prop) : Prop :=
  Plain P f ∧ ∀ (w : World) (S : Cells) (m : Map) (T : Nat → Prop) (vs : Array Value), All2 (Rep m w S) vs.toList args → MemOk ⟨w, T, S, m, [], [], fun _ => none, w⟩ m S (extMem 1000000 ext) w →
    Calls P f vs w fun e w' => ∃ r v m' S', Q r ∧ e = .returned v ∧ Rep m' w' S' v r.val ∧ MemOk ⟨w, T, S, m', [], [], fun _ => none, w⟩ m' S' (extMem 1000000 r.ext ++ extMem 2000000 r.new) w' ∧ KeptM w m m' r.ext ∧ r.ext.length = ext.length ∧ r.new.length ≤ 90
theorem Meets.mono {f : Nat} {args : List PV} {ext : List MObj} {Q Q' : Res → Prop} (h : Meets P f args ext Q) (hq : ∀ r, Q r → Q' r) : Meets P f args ext Q' := ⟨h.1, fun w S m T vs ha hm =>
  (h.2 w S m T vs ha hm).mono fun _ _ ⟨r, v, m', S', h1, h2⟩ => ⟨r, v, m', S', hq r h1, h2⟩⟩

def toE (ks : List Nat) (k : Nat) : Nat := 1000000 + ks.idxOf k
def ofE (ks : List Nat) (d : Nat) (j : Nat) : Nat := if j < 2000000 then ks.getD (j - 1000000) 0 else d + 10000 * (j - 2000000)
def backMem (g : Nat → Nat) : List Nat → List MObj → Mem
  | k :: ks, o :: os => (k, (back1 o).ren g) :: backMem g ks os
  | _, _ => []
def newMem (g : Nat → Nat) (d : Nat) : Nat → List MObj → Mem
  | _, [] => []
  | j, o :: os => (d + 10000 * j, o.ren g) :: newMem g d (j + 1) os
theorem look_back {g : Nat → Nat} : ∀ {ks : List Nat} {os : List MObj} {k : Nat} {o : MObj}, look k (backMem g ks os) = some o → ∃ (i : Nat) (o' : MObj), ks[i]? = some k ∧ os[i]? = some o' ∧ o = (back1 o').ren g
  | k :: ks, o :: os, j, q, h => by
    rcases look_cons h with ⟨rfl, rfl⟩ | ⟨_, h⟩
    · exact ⟨0, o, rfl, rfl, rfl⟩
    · obtain ⟨i, o', h1, h2, h3⟩ := look_back h
      exact ⟨i + 1, o', by simpa using h1, by simpa using h2, h3⟩
  | [], _, _, _, h => by simp [backMem, look] at h
  | _ :: _, [], _, _, h => by simp [backMem, look] at h
theorem look_back_some {g : Nat → Nat} : ∀ {ks : List Nat} {os : List MObj} {k : Nat}, ks.length = os.length → k ∈ ks → (look k (backMem g ks os)).isSome = true
  | k :: ks, o :: os, j, hl, h => by
    unfold backMem look
    split
    · rfl
    · rename_i hne
      rcases List.mem_cons.1 h with rfl | h
      · exact absurd rfl hne
      · exact look_back_some (by simpa using hl) h
  | [], _, _, _, h => by cases h
  | _ :: _, [], _, hl, _ => by simp at hl
theorem look_new {g : Nat → Nat} {d : Nat} : ∀ {os : List MObj} {j k : Nat} {o : MObj}, look k (newMem g d j os) = some o → ∃ (i : Nat) (o' : MObj), k = d + 10000 * (j + i) ∧ os[i]? = some o' ∧ o = o'.ren g
  | o :: os, j, k, q, h => by
    rcases look_cons h with ⟨rfl, rfl⟩ | ⟨_, h⟩
    · exact ⟨0, o, rfl, rfl, rfl⟩
    · obtain ⟨i, o', h1, h2, h3⟩ := look_new h
      exact ⟨i + 1, o', by rw [h1]; omega, by simpa using h2, h3⟩
theorem look_new_some {g : Nat → Nat} {d : Nat} : ∀ {os : List MObj} {j i : Nat}, i < os.length → (look (d + 10000 * (j + i)) (newMem g d j os)).isSome = true
  | o :: os, j, i, h => by
    unfold newMem look
    split
    · rfl
    · rename_i hne
      cases i with
      | zero => exact absurd rfl hne
      | succ i =>
        rw [show j + (i + 1) = j + 1 + i from by omega]
        exact look_new_some (by simpa using h)

theorem look_new_get {g : Nat → Nat} {d : Nat} : ∀ {os : List MObj} {j i : Nat} {o : MObj}, os[i]? = some o → look (d + 10000 * (j + i)) (newMem g d j os) = some (o.ren g)
  | o :: os, j, 0, q, h => by
    cases h
    unfold newMem look
    rw [if_pos (by omega)]
  | o :: os, j, i + 1, q, h => by
    unfold newMem look
    rw [if_neg (by omega), show j + (i + 1) = j + 1 + i from by omega]
    exact look_new_get (by simpa using h)
  | [], _, _, _, h => by simp at h
theorem look_back_get {g : Nat → Nat} : ∀ {ks : List Nat} {os : List MObj} {i k : Nat} {o : MObj}, ks.Nodup → ks[i]? = some k → os[i]? = some o → look k (backMem g ks os) = some ((back1 o).ren g)
  | k :: ks, o :: os, 0, j, q, _, h1, h2 => by
    cases h1; cases h2
    unfold backMem look
    rw [if_pos rfl]
  | k :: ks, o :: os, i + 1, j, q, hn, h1, h2 => by
    have h1 : ks[i]? = some j := by simpa using h1
    have hjk : j ≠ k := by
      rintro rfl
      exact (List.nodup_cons.1 hn).1 (List.mem_of_getElem? h1)
    unfold backMem look
    rw [if_neg hjk]
    exact look_back_get (List.nodup_cons.1 hn).2 h1 (by simpa using h2)
  | [], _, _, _, _, _, h, _ => by simp at h
  | _ :: _, [], _, _, _, _, _, h => by simp at h
theorem some_or {α : Type} {i : Nat} {l r : List (Nat × α)} (h : (look i l).isSome = true ∨ (look i r).isSome = true) : (look i (l ++ r)).isSome = true := by
  rw [look_app]
  cases hl : look i l with
  | some p => rfl
  | none =>
    rcases h with h | h
    · rw [hl] at h; cases h
    · exact h

def PV.sc0 : PV → Bool
  | .d (.v _) => true
  | .any => true
  | _ => false
def PV.sc2 : PV → Bool
  | .agg cs => cs.all PV.sc0
  | p => p.sc0
def PV.sc : PV → Bool
  | .tup cs => cs.all PV.sc2
  | p => p.sc2
def MObj.sc : MObj → Bool
  | .box _ cells => cells.all PV.sc0
  | _ => false
def calmRes (r : Res) : Bool := r.val.sc && r.ext.all MObj.sc && r.new.isEmpty
theorem sc0_ren {p : PV} (h : p.sc0 = true) : (p.ren0 f).sc0 = true ∧ (p.ren1 f).sc0 = true := by
  cases p <;> first | exact ⟨h, h⟩ | cases h
theorem Rep0.calm {v : Value} {p : PV} (hp : p.sc0 = true) (h : Rep0 m w S v p) : Rep0 m0 w S' v p := by
  cases p with
  | d x => cases x with
    | v y =>
      have h : RepD w S v (.v y) := h
      cases h
      exact RepD.v _
    | sl => cases hp
  | any => trivial
  | _ => cases hp
theorem Rep1.calm {v : Value} {p : PV} (hp : p.sc0 = true) (h : Rep1 m w S v p) : Rep1 m0 w S' v p := by
  cases p with
  | d x => exact Rep0.calm (m := m) (m0 := m0) (S := S) (p := .d x) hp h
  | any => trivial
  | _ => cases hp
theorem Rep2.calm {v : Value} {p : PV} (hp : p.sc2 = true) (h : Rep2 m w S v p) : Rep2 m0 w S' v p := by
  cases p with
  | agg cs =>
    obtain ⟨vs, e, ha⟩ := h
    exact ⟨vs, e, ha.imp fun a b hb hab => hab.calm (List.all_eq_true.1 hp b hb)⟩
  | d x => exact Rep1.calm (m := m) (m0 := m0) (S := S) (p := .d x) hp h
  | any => trivial
  | _ => cases hp
theorem Rep.calm {v : Value} {p : PV} (hp : p.sc = true) (h : Rep m w S v p) : Rep m0 w S' v p := by
  cases p with
  | tup cs =>
    obtain ⟨vs, e, ha⟩ := h
    exact ⟨vs, e, ha.imp fun a b hb hab => hab.calm (List.all_eq_true.1 hp b hb)⟩
  | agg cs => exact Rep2.calm (m := m) (m0 := m0) (S := S) (p := .agg cs) hp h
  | d x => exact Rep2.calm (m := m) (m0 := m0) (S := S) (p := .d x) hp h
  | any => trivial
  | _ => cases hp
theorem ObjOk.calm {k : Nat} {o : MObj} (ho : (o.ren f).sc = true) (hS : ∀ b o, S' b o → S b o) (h : ObjOk m w S k (o.ren f)) : ObjOk m w S' k (o.ren f) := by
  cases o with
  | box t cells =>
    obtain ⟨b, c, arr, h1, h2, h3, h4⟩ := h
    exact ⟨b, c, arr, h1, h2, h3.imp fun a p hp hr => hr.calm (List.all_eq_true.1 ho p hp), fun o hs => h4 o (hS b o hs)⟩
  | row => cases ho
  | map => cases ho
  | grown => cases ho
  | nest => cases ho
  | sys => cases ho
theorem mobj_sc_ren {o : MObj} (h : o.sc = true) : (o.ren f).sc = true := by
  cases o with
  | box t cells =>
    show (cells.map (PV.ren1 f)).all PV.sc0 = true
    rw [List.all_map, List.all_eq_true]
    exact fun x hx => (sc0_ren (List.all_eq_true.1 h x hx)).2
  | row => cases h
  | map => cases h
  | grown => cases h
  | nest => cases h
  | sys => cases h

def grownKs : List Nat → List MObj → List Nat
  | k :: ks, o :: os => bif isGrown o then k :: grownKs ks os else grownKs ks os
  | _, _ => []
theorem grownKs_sub : ∀ {ks : List Nat} {os : List MObj} {k : Nat}, k ∈ grownKs ks os → k ∈ ks
  | k :: ks, o :: os, j, h => by
    unfold grownKs at h
    cases ho : isGrown o <;> rw [ho] at h <;> dsimp only [cond] at h
    · exact List.mem_cons_of_mem _ (grownKs_sub h)
    · rcases List.mem_cons.1 h with rfl | h
      · simp
      · exact List.mem_cons_of_mem _ (grownKs_sub h)
  | [], [], _, h => by cases h
  | [], _ :: _, _, h => by cases h
  | _ :: _, [], _, h => by cases h
theorem grownKs_has : ∀ {ks : List Nat} {os : List MObj} {i k : Nat} {o : MObj}, ks[i]? = some k → os[i]? = some o → isGrown o = true → k ∈ grownKs ks os
  | k :: ks, o :: os, 0, j, q, h1, h2, h3 => by
    cases h1; cases h2
    unfold grownKs
    rw [h3]
    simp
  | k :: ks, o :: os, i + 1, j, q, h1, h2, h3 => by
    have := grownKs_has (ks := ks) (os := os) (i := i) (by simpa using h1) (by simpa using h2) h3
    unfold grownKs
    cases isGrown o
    · exact this
    · exact List.mem_cons_of_mem _ this
  | [], _, _, _, _, h1, _, _ => by simp at h1
  | _ :: _, [], _, _, _, _, h2, _ => by simp at h2
theorem grownKs_sc : ∀ {ks : List Nat} {os : List MObj}, os.all MObj.sc = true → grownKs ks os = []
  | k :: ks, o :: os, h => by
    simp only [List.all_cons, Bool.and_eq_true] at h
    unfold grownKs
    have ho : isGrown o = false := by
      cases o <;> first | rfl | cases h.1
    rw [ho]
    exact grownKs_sc h.2
  | [], [], _ => rfl
  | [], _ :: _, _ => rfl
  | _ :: _, [], _ => rfl
def eraseSs : List Nat → Slots → Slots
  | [], s => s
  | k :: ks, s => eraseS k (eraseSs ks s)
def eraseMs : List Nat → Mem → Mem
  | [], s => s
  | k :: ks, s => eraseM k (eraseMs ks s)
def erasePs : List Nat → PV → PV
  | [], p => p
  | k :: ks, p => eraseP k (erasePs ks p)
def eraseOs : List Nat → MObj → MObj
  | [], o => o
  | k :: ks, o => eraseO k (eraseOs ks o)
def markMs : List Nat → Mem → Mem
  | [], s => s
  | k :: ks, s => markM k (markMs ks s)
theorem look_eraseSs : ∀ {ks : List Nat} {i : Nat} {l : Slots}, look i (eraseSs ks l) = (look i l).map (erasePs ks)
  | [], i, l => by cases h : look i l <;> simp [eraseSs, erasePs, h]
  | k :: ks, i, l => by
    unfold eraseSs
    rw [look_eraseS, look_eraseSs, Option.map_map]
    rfl
theorem look_eraseMs : ∀ {ks : List Nat} {i : Nat} {l : Mem}, look i (eraseMs ks l) = (look i l).map (eraseOs ks)
  | [], i, l => by cases h : look i l <;> simp [eraseMs, eraseOs, h]
  | k :: ks, i, l => by
    unfold eraseMs
    rw [look_eraseM, look_eraseMs, Option.map_map]
    rfl
theorem erasePs_spec : ∀ (ks : List Nat) (p : PV), erasePs ks p = .any ∨ (erasePs ks p = p ∧ ∀ k ∈ ks, k ∉ p.keys)
  | [], p => .inr ⟨rfl, fun k hk => by cases hk⟩
  | k :: ks, p => by
    unfold erasePs
    rcases erasePs_spec ks p with e | ⟨e, hn⟩
    · rw [e]; left; unfold eraseP; split <;> rfl
    · rw [e]
      unfold eraseP
      split
      · exact .inl rfl
      · rename_i hk
        refine .inr ⟨rfl, fun j hj => ?_⟩
        rcases List.mem_cons.1 hj with rfl | hj
        · exact hk
        · exact hn j hj
theorem eraseOs_box {t : TypeId} {cells : List PV} : ∀ {ks : List Nat}, eraseOs ks (.box t cells) = .box t (cells.map (erasePs ks))
  | [] => by unfold eraseOs; rw [show erasePs [] = id from rfl, List.map_id]
  | k :: ks => by
    unfold eraseOs
    rw [eraseOs_box]
    show MObj.box t (((cells.map (erasePs ks))).map (eraseP k)) = _
    rw [List.map_map]
    rfl
theorem eraseOs_nest {t : TypeId} {sz : Nat} {xs : List (List D)} {pr : Nat → Bool} {cs : List (Nat × Nat)} {foc : Option (Nat × List PV)} : ∀ {ks : List Nat}, eraseOs ks (.nest t sz xs pr cs foc) = .nest t sz xs pr cs (focMap (erasePs ks) foc)
  | [] => by
    unfold eraseOs
    rw [show erasePs [] = id from rfl]
    cases foc with
    | none => rfl
    | some e => simp [focMap]
  | k :: ks => by
    unfold eraseOs
    rw [eraseOs_nest]
    cases foc with
    | none => rfl
    | some e =>
      show MObj.nest t sz xs pr cs (some (e.1, ((e.2.map (erasePs ks))).map (eraseP k))) = _
      rw [List.map_map]
      rfl
theorem eraseOs_of {o : MObj} (h : ∀ k, eraseO k o = o) : ∀ {ks : List Nat}, eraseOs ks o = o
  | [] => rfl
  | k :: ks => by unfold eraseOs; rw [eraseOs_of h, h]
theorem Rep.erases {ks : List Nat} {v : Value} {p : PV} (hS : ∀ b o, S b o → S' b o) (hc : ∀ b o, S b o → w'.cell? ⟨b, o, none⟩ = w.cell? ⟨b, o, none⟩) (hm : ∀ j, j ∉ ks → ∀ l, m j = some l → m' j = some l) (h : Rep m w S v p) : Rep m' w' S' v (erasePs ks p) := by
  rcases erasePs_spec ks p with e | ⟨e, hn⟩
  · rw [e]; trivial
  · rw [e]; exact h.keep hS hc fun j hj => hm j fun hg => hn j hg hj
theorem Rep1.erases {ks : List Nat} {v : Value} {p : PV} (hS : ∀ b o, S b o → S' b o) (hc : ∀ b o, S b o → w'.cell? ⟨b, o, none⟩ = w.cell? ⟨b, o, none⟩) (hm : ∀ j, j ∉ ks → ∀ l, m j = some l → m' j = some l) (h : Rep1 m w S v p) : Rep1 m' w' S' v (erasePs ks p) := by
  rcases erasePs_spec ks p with e | ⟨e, hn⟩
  · rw [e]; trivial
  · rw [e]; exact Rep1.keep hS hc (fun j hj => hm j fun hg => hn j hg (keys_of1 hj)) h
theorem ObjOk.erases {ks : List Nat} {k : Nat} {o : MObj} (hS : ∀ b o, S b o → S' b o) (hc : ∀ b o, S b o → w'.cell? ⟨b, o, none⟩ = w.cell? ⟨b, o, none⟩) (hm : ∀ j, j ∉ ks → ∀ l, m j = some l → m' j = some l) (hk : ∀ l, m k = some l → m' k = some l) (hs : m'.sub k = m.sub k)
    (hb : ∀ b, m.has k b → w'.heap[b]? = w.heap[b]? ∧ ∀ o, S' b o → S b o) (h : ObjOk m w S k o) : ObjOk m' w' S' k (eraseOs ks o) := by
  cases o with
  | box t cells =>
    obtain ⟨b, c, arr, h1, h2, h3, h4⟩ := h
    obtain ⟨g1, g2⟩ := hb b (.inl ⟨c, h1⟩)
    rw [eraseOs_box]
    exact ⟨b, c, arr, hk _ h1, g1.trans h2, h3.maps fun _ p _ hr => Rep1.erases hS hc hm hr, fun o ho => h4 o (g2 o ho)⟩
  | row t sz xs l => rw [eraseOs_of fun _ => rfl]; exact h.keep hS hc (fun _ hj => by cases hj) hk hs hb
  | map es => rw [eraseOs_of fun _ => rfl]; exact h.keep hS hc (fun _ hj => by cases hj) hk hs hb
  | grown t sz xs => rw [eraseOs_of fun _ => rfl]; exact h.keep hS hc (fun _ hj => by cases hj) hk hs hb
  | sys H => rw [eraseOs_of fun _ => rfl]; exact h.keep hS hc (fun _ hj => by cases hj) hk hs hb
  | nest t sz xs pr cs foc =>
    rw [eraseOs_nest]
    obtain ⟨h0, h1, lc, h2, h3⟩ := h
    refine ⟨h0, h1, lc, hk _ h2, h3.keep hS hc hs (fun b e => hb b (.inl ⟨lc.cap, by rw [h2, ← e]⟩)) (fun i c b e => hb b (.inr ⟨i, c, e⟩)) fun i => ?_⟩
    rw [focAt_map]
    cases hq : focAt foc i with
    | none => rfl
    | some ps => exact ⟨ps.map (erasePs ks), rfl, by simp, fun c q u h4 h5 => ⟨erasePs ks q, by rw [List.getElem?_map, h4]; rfl, Rep1.erases hS hc hm h5⟩⟩
theorem look_markMs {j : Nat} {mem : Mem} : ∀ {ks : List Nat}, (∀ k ∈ ks, j ≠ k + 3000000) → look j (markMs ks mem) = look j mem
  | [], _ => rfl
  | k :: ks, h => by
    unfold markMs
    rw [look_markM (h k (by simp)), look_markMs fun k hk => h k (by simp [hk])]
theorem look_markMs_has {k : Nat} {mem : Mem} (h0 : 1000000 ≤ k) : ∀ {ks : List Nat}, k ∈ ks → (look (k + 3000000) (markMs ks mem)).isSome = true
  | j :: ks, h => by
    unfold markMs
    rcases List.mem_cons.1 h with rfl | h
    · exact look_markM_has h0
    · exact look_markM_more (look_markMs_has h0 h)
theorem Sim.markMs (h : Sim B m S σ a w) : ∀ (ks : List Nat), ∃ m', Sim B m' S { σ with mem := markMs ks σ.mem } a w ∧ (∀ j l, m j = some l → m' j = some l) ∧ m'.sub = m.sub
  | [] => ⟨m, h, fun _ _ hl => hl, rfl⟩
  | k :: ks => by
    obtain ⟨m1, h1, h2, h3⟩ := Sim.markMs h ks
    obtain ⟨m2, g1, g2, _, g3⟩ := h1.markM k
    exact ⟨m2, g1, fun j l hl => g2 j l (h2 j l hl), g3.trans h3⟩
theorem ofE_toE {ks : List Nat} {k d : Nat} (h : k ∈ ks) (hl : ks.length < 1000000) : ofE ks d (toE ks k) = k := by
  have hlt := List.idxOf_lt_length_of_mem h
  unfold ofE toE
  rw [if_pos (by omega), Nat.add_sub_cancel_left, List.getD_eq_getElem?_getD, List.getElem?_eq_getElem hlt, List.getElem_idxOf hlt]
  rfl

theorem call_okC {C : (Ending → World → Prop) → Prop} (hC : ∀ R R' : Ending → World → Prop, C R → (∀ e w', R e w' → R' e w') → C R') (h : Sim B m S σ a w) {S0 : Cells} {mem0 : Mem} (h0 : Sim B m S0 { σ with mem := mem0 } a w) (hS0 : ∀ b o, S0 b o → S b o) (hdom0 : ∀ k, (look k σ.mem).isSome = true → (look k mem0).isSome = true) {vs : Array Value} {ps : List PV} (hps : All2 (Rep m w S) vs.toList ps) {ks : List Nat} (hnd : ks.Nodup) (hk : ∀ k ∈ ks, (look k σ.mem).isSome = true) (hcl : ∀ k ∈ ks, ∀ o, look k σ.mem = some o → ∀ j ∈ o.keys, j ∈ ks)
    (hkeys : ∀ p ∈ ps, ∀ k ∈ p.keys, k ∈ ks) (hlen : ks.length < 1000000) (d : Nat) (hd : d < 10000) {Q : Res → Prop} (hm : ∀ (S : Cells) (m : Map) (T : Nat → Prop), All2 (Rep m w S) vs.toList (ps.map (PV.ren (toE ks))) → MemOk ⟨w, T, S, m, [], [], fun _ => none, w⟩ m S (extMem 1000000 (ks.map fun k => ((look k σ.mem).getD default).ren (toE ks))) w →
      C fun e w' => ∃ r v m' S', Q r ∧ e = .returned v ∧ Rep m' w' S' v r.val ∧ MemOk ⟨w, T, S, m', [], [], fun _ => none, w⟩ m' S' (extMem 1000000 r.ext ++ extMem 2000000 r.new) w' ∧ KeptM w m m' r.ext ∧ r.ext.length = (ks.map fun k => ((look k σ.mem).getD default).ren (toE ks)).length ∧ r.new.length ≤ 90) :
    C fun e w' => ∃ r v m' S', Q r ∧ e = .returned v ∧ ((∀ i, i < r.new.length → look (d + 10000 * i) σ.mem = none) →
      (Sim B m' S' { σ with slots := eraseSs (grownKs ks r.ext) σ.slots, mem := backMem (ofE ks d) ks r.ext ++ (newMem (ofE ks d) d 0 r.new ++ eraseMs (grownKs ks r.ext) (markMs (grownKs ks r.ext) σ.mem)) } a w' ∧ Rep m' w' S' v (r.val.ren (ofE ks d))) ∧
      (calmRes r = true → Sim B m' S0 { σ with mem := backMem (ofE ks d) ks r.ext ++ (newMem (ofE ks d) d 0 r.new ++ mem0) } a w' ∧ Rep m' w' S0 v (r.val.ren (ofE ks d)))) := by
  have hidx : ∀ k ∈ ks, ks[ks.idxOf k]? = some k := fun k hk => by
    have hlt := List.idxOf_lt_length_of_mem hk
    rw [List.getElem?_eq_getElem hlt, List.getElem_idxOf hlt]
  have hidl : ∀ k ∈ ks, ks.idxOf k < 1000000 := fun k hk => Nat.lt_trans (List.idxOf_lt_length_of_mem hk) hlen
  have hto : ∀ k ∈ ks, ∀ l, m k = some l → (if 1000000 ≤ toE ks k then (ks[toE ks k - 1000000]?).bind m else none) = some l := fun k hk l hl => by
    unfold toE
    rw [if_pos (by omega), Nat.add_sub_cancel_left, hidx k hk]
    exact hl
  have hsubT : ∀ k ∈ ks, (if 1000000 ≤ toE ks k then (ks[toE ks k - 1000000]?).elim (fun _ _ => none) m.sub else fun _ _ => none) = m.sub k := fun k hk => by
    unfold toE
    rw [if_pos (by omega), Nat.add_sub_cancel_left, hidx k hk]
    rfl
  refine hC _ _ (hm S ⟨fun j => if 1000000 ≤ j then (ks[j - 1000000]?).bind m else none, fun j => if 1000000 ≤ j then (ks[j - 1000000]?).elim (fun _ _ => none) m.sub else fun _ _ => none⟩ (fun b => ∃ k ∈ ks, m.has k b) ?_ ?_) ?_
  · exact hps.maps fun v p hp hr => hr.ren fun k hk => hto k (hkeys p hp k hk)
  · have hget : ∀ j l, (if 1000000 ≤ j then (ks[j - 1000000]?).bind m else none) = some l → 1000000 ≤ j ∧ ∃ k, ks[j - 1000000]? = some k ∧ m k = some l := fun j l hj => by
      split at hj
      · rename_i h1
        refine ⟨h1, ?_⟩
        cases hk : ks[j - 1000000]? with
        | none => rw [hk] at hj; cases hj
        | some k => rw [hk] at hj; exact ⟨k, rfl, hj⟩
      · cases hj
    have hgeth : ∀ j b, (Map.mk (fun j => if 1000000 ≤ j then (ks[j - 1000000]?).bind m else none) fun j => if 1000000 ≤ j then (ks[j - 1000000]?).elim (fun _ _ => none) m.sub else fun _ _ => none).has j b → 1000000 ≤ j ∧ ∃ k, ks[j - 1000000]? = some k ∧ m.has k b := fun j b hj => by
      rcases hj with ⟨c, hj⟩ | ⟨i, c, hj⟩
      · obtain ⟨h1, k, h2, h3⟩ := hget j _ hj
        exact ⟨h1, k, h2, .inl ⟨c, h3⟩⟩
      · have hj : (if 1000000 ≤ j then (ks[j - 1000000]?).elim (fun _ _ => none) m.sub else fun _ _ => none) i c = some b := hj
        split at hj
        · rename_i h1
          refine ⟨h1, ?_⟩
          cases hk : ks[j - 1000000]? with
          | none => rw [hk] at hj; cases hj
          | some k => rw [hk] at hj; exact ⟨k, rfl, .inr ⟨i, c, hj⟩⟩
        · cases hj
    refine { dom := fun j l hj => ?_, objs := fun j o ho => ?_, subs := fun j i c b hj => ?_, subx := fun _ _ _ _ _ _ hb => .inr (.inr ⟨_, _, hb⟩), parts := fun j j' b hj hj' => ?_, young := fun j b hj => ?_, grow := Grow.refl _ _, sold := fun _ _ hs => hs, snew := fun _ _ hs _ => hs, sin := h.sin, scell := fun _ _ _ => rfl, ext := fun _ _ _ _ hl => .inl hl, marks := fun _ hx => nomatch hx }
    · obtain ⟨h1, k, h2, _⟩ := hget j l hj
      rw [look_ext, if_pos h1, List.getElem?_map, h2]
      rfl
    · rw [look_ext] at ho
      split at ho
      · rename_i h1
        rw [List.getElem?_map] at ho
        obtain ⟨k, h2, h3⟩ := Option.map_eq_some_iff.1 ho
        have hkm := List.mem_of_getElem? h2
        obtain ⟨o1, h4⟩ := Option.isSome_iff_exists.1 (hk k hkm)
        rw [h4, Option.getD_some] at h3
        subst h3
        refine (h.objs k o1 h4).ren (fun j' hj' l hl => hto j' (hcl k hkm o1 h4 j' hj') l hl) (fun l hl => ?_) ?_
        · show (if 1000000 ≤ j then (ks[j - 1000000]?).bind m else none) = some l
          rw [if_pos h1, h2]
          exact hl
        · show (if 1000000 ≤ j then (ks[j - 1000000]?).elim (fun _ _ => none) m.sub else fun _ _ => none) = _
          rw [if_pos h1, h2]
          rfl
      · cases ho
    · have hj : (if 1000000 ≤ j then (ks[j - 1000000]?).elim (fun _ _ => none) m.sub else fun _ _ => none) i c = some b := hj
      split at hj
      · rename_i h1
        cases h2 : ks[j - 1000000]? with
        | none => rw [h2] at hj; cases hj
        | some k =>
          rw [h2] at hj
          obtain ⟨o1, h3, h4⟩ := h.subs k i c b hj
          refine ⟨o1.ren (toE ks), ?_, by cases o1 <;> first | rfl | cases h4⟩
          rw [look_ext, if_pos h1, List.getElem?_map, h2, Option.map_some, h3]
          rfl
      · cases hj
    · obtain ⟨h1, k, h2, h3⟩ := hgeth j _ hj
      obtain ⟨h1', k', h2', h3'⟩ := hgeth j' _ hj'
      have e := h.parts k k' b h3 h3'
      subst e
      have hlt := (List.getElem?_eq_some_iff.1 h2).1
      have := (List.getElem?_inj hlt hnd).1 (h2.trans h2'.symm)
      omega
    · obtain ⟨h1, k, h2, h3⟩ := hgeth j _ hj
      have hlt := (List.getElem?_eq_some_iff.1 h2).1
      exact .inr ⟨⟨k, List.mem_of_getElem? h2, h3⟩, h1, by omega⟩
  · rintro e w' ⟨r, v, m1, S1, hq, he, hr, hM, ⟨hsub1, hsub2⟩, hlen1, hlen2⟩
    rw [List.length_map] at hlen1
    obtain ⟨gs, hgs⟩ : ∃ gs, grownKs ks r.ext = gs := ⟨_, rfl⟩
    have hgk : ∀ k ∈ gs, k ∈ ks := fun k hk => grownKs_sub (hgs ▸ hk)
    obtain ⟨mK, hK, hKm, hKs⟩ := h.markMs gs
    have hkm0 := hk
    have hsubk : ∀ k ∈ ks, ∀ i c b, m1.sub (toE ks k) i c = some b → w.heap.size ≤ b ∨ m.has k b := fun k hk i c b hb => by
      have hlt := List.idxOf_lt_length_of_mem hk
      refine (hsub2 (toE ks k) (by unfold toE; omega) (by unfold toE; omega) i c b hb).imp id fun h1 => ?_
      rcases h1 with ⟨c', h1⟩ | ⟨i', c', h1⟩
      · obtain ⟨o1, h4⟩ := Option.isSome_iff_exists.1 (hkm0 k hk)
        obtain ⟨l, hl⟩ := (h.objs k o1 h4).loc
        have h2 := hto k hk l hl
        rw [show (if 1000000 ≤ toE ks k then (ks[toE ks k - 1000000]?).bind m else none) = some ⟨some b, c'⟩ from h1] at h2
        cases h2
        exact .inl ⟨c', hl⟩
      · exact .inr ⟨i', c', by rw [← hsubT k hk]; exact h1⟩
    refine ⟨r, v, ⟨fun j => if d ≤ j ∧ (j - d) % 10000 = 0 ∧ (j - d) / 10000 < r.new.length then m1 (2000000 + (j - d) / 10000) else if j ∈ gs then m1 (toE ks j) else mK j, fun j => if d ≤ j ∧ (j - d) % 10000 = 0 ∧ (j - d) / 10000 < r.new.length then m1.sub (2000000 + (j - d) / 10000) else if j ∈ ks then m1.sub (toE ks j) else mK.sub j⟩, S1, hq, he, ?_⟩
    rw [hgs]
    intro hnew
    have hnewK : ∀ i, i < r.new.length → look (d + 10000 * i) (markMs gs σ.mem) = none := fun i hi => by
      cases hl : look (d + 10000 * i) (YtplooifpgmlofaaGreat.markMs gs σ.mem) with
      | none => rfl
      | some o =>
        have : look (d + 10000 * i) (YtplooifpgmlofaaGreat.markMs gs σ.mem) = look (d + 10000 * i) σ.mem := by
          by_cases hz : ∀ k ∈ gs, d + 10000 * i ≠ k + 3000000
          · exact look_markMs hz
          · exfalso
            apply hz
            intro k _
            omega
        rw [this, hnew i hi] at hl
        cases hl
    have hnk : ∀ j, (look j (YtplooifpgmlofaaGreat.markMs gs σ.mem)).isSome = true → ¬ (d ≤ j ∧ (j - d) % 10000 = 0 ∧ (j - d) / 10000 < r.new.length) := by
      rintro j hj ⟨h1, h2, h3⟩
      have h4 := hnewK _ h3
      rw [show d + 10000 * ((j - d) / 10000) = j from by omega] at h4
      rw [h4] at hj
      cases hj
    have hloc : ∀ k ∈ ks, ∃ l, m k = some l := fun k hkm => by
      obtain ⟨o1, h4⟩ := Option.isSome_iff_exists.1 (hk k hkm)
      exact (h.objs k o1 h4).loc
    have hnew_ks : ∀ k ∈ ks, ¬ (d ≤ k ∧ (k - d) % 10000 = 0 ∧ (k - d) / 10000 < r.new.length) := fun k hkm => by
      obtain ⟨l, hl⟩ := hloc k hkm
      exact hnk k (hK.dom k l (hKm k l hl))
    have hm0 : ∀ k ∈ ks, ∀ l, m k = some l → ∃ l', m1 (toE ks k) = some l' ∧ ((k ∉ gs ∧ l' = l) ∨ (k ∈ gs ∧ ∀ b, l'.blk = some b → w.heap.size ≤ b ∨ l.blk = some b)) := fun k hkm l hl => by
      obtain ⟨l', h1, h2⟩ := hsub1 _ _ (hto k hkm l hl)
      refine ⟨l', h1, ?_⟩
      by_cases hg : k ∈ gs
      · refine .inr ⟨hg, fun b hb => ?_⟩
        rcases h2 with rfl | ⟨_, h2⟩
        · exact .inr hb
        · exact h2 b hb
      · refine .inl ⟨hg, ?_⟩
        rcases h2 with h2 | ⟨h2, _⟩
        · exact h2
        · exfalso
          unfold grownAt toE at h2
          rw [Nat.add_sub_cancel_left] at h2
          simp only [Bool.and_eq_true] at h2
          have h2 := h2.2
          split at h2
          · rename_i o ho
            exact hg (hgs ▸ grownKs_has (hidx k hkm) ho h2)
          · cases h2
    have hat : ∀ k ∈ ks, ∀ l, m1 (toE ks k) = some l → (if d ≤ k ∧ (k - d) % 10000 = 0 ∧ (k - d) / 10000 < r.new.length then m1 (2000000 + (k - d) / 10000) else if k ∈ gs then m1 (toE ks k) else mK k) = some l := fun k hkm l hl => by
      rw [if_neg (hnew_ks k hkm)]
      split
      · exact hl
      · rename_i hg
        obtain ⟨l0, hl0⟩ := hloc k hkm
        obtain ⟨l', h1, h2⟩ := hm0 k hkm l0 hl0
        rw [hl] at h1
        cases h1
        rcases h2 with ⟨_, rfl⟩ | ⟨h2, _⟩
        · exact hKm _ _ hl0
        · exact absurd h2 hg
    have hsub : ∀ k, k ∉ gs → ∀ l, mK k = some l → (if d ≤ k ∧ (k - d) % 10000 = 0 ∧ (k - d) / 10000 < r.new.length then m1 (2000000 + (k - d) / 10000) else if k ∈ gs then m1 (toE ks k) else mK k) = some l := fun k hg l hl => by
      rw [if_neg (hnk k (hK.dom k l hl)), if_neg hg]
      exact hl
    have hback : ∀ j l, m1 j = some l → (if d ≤ ofE ks d j ∧ (ofE ks d j - d) % 10000 = 0 ∧ (ofE ks d j - d) / 10000 < r.new.length then m1 (2000000 + (ofE ks d j - d) / 10000) else if ofE ks d j ∈ gs then m1 (toE ks (ofE ks d j)) else mK (ofE ks d j)) = some l := fun j l hj => by
      have h1 := hM.dom j l hj
      rw [look_app, look_ext, look_ext] at h1
      by_cases h2 : 1000000 ≤ j ∧ j - 1000000 < ks.length
      · have e1 : ofE ks d j = ks.getD (j - 1000000) 0 := by unfold ofE; rw [if_pos (by omega)]
        have h3 : ks[j - 1000000]? = some (ofE ks d j) := by rw [e1, List.getD_eq_getElem?_getD, List.getElem?_eq_getElem h2.2]; rfl
        have hkm := List.mem_of_getElem? h3
        have e2 : toE ks (ofE ks d j) = j := by
          have hi := hidx _ hkm
          have := (List.getElem?_inj h2.2 hnd).1 (h3.trans hi.symm)
          unfold toE
          omega
        exact hat _ hkm l (by rw [e2]; exact hj)
      · have h3 : 2000000 ≤ j ∧ j - 2000000 < r.new.length := by
          split at h1
          · rename_i o ho
            split at ho
            · have := (List.getElem?_eq_some_iff.1 ho).1
              omega
            · cases ho
          · split at h1
            · obtain ⟨o, ho⟩ := Option.isSome_iff_exists.1 h1
              have := (List.getElem?_eq_some_iff.1 ho).1
              omega
            · cases h1
        have e1 : ofE ks d j = d + 10000 * (j - 2000000) := by unfold ofE; rw [if_neg (by omega)]
        rw [e1, if_pos ⟨by omega, by omega, by omega⟩]
        rw [show 2000000 + (d + 10000 * (j - 2000000) - d) / 10000 = j from by omega]
        exact hj
    have hcells : ∀ b o, S b o → w'.cell? ⟨b, o, none⟩ = w.cell? ⟨b, o, none⟩ := hM.scell
    have hS : ∀ b o, S b o → S1 b o := hM.sold
    have hnewb : ∀ i b, m1.has (2000000 + i) b → w.heap.size ≤ b := fun i b hi => by
      rcases hM.young _ b hi with h1 | ⟨_, h1⟩
      · exact h1
      · omega
    have hsn : ∀ b o, S1 b o → b < B.w.heap.size → B.S b o := fun b o hs hb => by
      have h1 := h.grow.size
      exact h.snew b o (hM.snew b o hs (Nat.lt_of_lt_of_le hb h1)) hb
    have hsc : ∀ b o, B.S b o → w'.cell? ⟨b, o, none⟩ = B.cw.cell? ⟨b, o, none⟩ := fun b o hs => (hcells b o (h.sold b o hs)).trans (h.scell b o hs)
    have hside : ∀ j b, (Map.mk (fun j => if d ≤ j ∧ (j - d) % 10000 = 0 ∧ (j - d) / 10000 < r.new.length then m1 (2000000 + (j - d) / 10000) else if j ∈ gs then m1 (toE ks j) else mK j) fun j => if d ≤ j ∧ (j - d) % 10000 = 0 ∧ (j - d) / 10000 < r.new.length then m1.sub (2000000 + (j - d) / 10000) else if j ∈ ks then m1.sub (toE ks j) else mK.sub j).has j b →
        (∃ q, m1.has q b ∧ ofE ks d q = j) ∨ (j ∉ ks ∧ mK.has j b) := fun j b hj => by
      rcases hj with ⟨c, hj⟩ | ⟨i, c, hj⟩
      · have hj : (if d ≤ j ∧ (j - d) % 10000 = 0 ∧ (j - d) / 10000 < r.new.length then m1 (2000000 + (j - d) / 10000) else if j ∈ gs then m1 (toE ks j) else mK j) = some ⟨some b, c⟩ := hj
        split at hj
        · rename_i hc
          refine .inl ⟨_, .inl ⟨c, hj⟩, ?_⟩
          unfold ofE
          rw [if_neg (by omega)]
          omega
        · split at hj
          · rename_i hg
            exact .inl ⟨_, .inl ⟨c, hj⟩, ofE_toE (hgk j hg) hlen⟩
          · rename_i hg
            by_cases hjk : j ∈ ks
            · obtain ⟨l0, hl0⟩ := hloc j hjk
              obtain ⟨l', h1, h2⟩ := hm0 j hjk l0 hl0
              rw [hKm j l0 hl0] at hj
              cases hj
              rcases h2 with ⟨_, rfl⟩ | ⟨h2, _⟩
              · exact .inl ⟨_, .inl ⟨c, h1⟩, ofE_toE hjk hlen⟩
              · exact absurd h2 hg
            · exact .inr ⟨hjk, .inl ⟨c, hj⟩⟩
      · have hj : (if d ≤ j ∧ (j - d) % 10000 = 0 ∧ (j - d) / 10000 < r.new.length then m1.sub (2000000 + (j - d) / 10000) else if j ∈ ks then m1.sub (toE ks j) else mK.sub j) i c = some b := hj
        split at hj
        · rename_i hc
          refine .inl ⟨_, .inr ⟨i, c, hj⟩, ?_⟩
          unfold ofE
          rw [if_neg (by omega)]
          omega
        · by_cases hjk : j ∈ ks
          · rw [if_pos hjk] at hj
            exact .inl ⟨toE ks j, .inr ⟨i, c, hj⟩, ofE_toE hjk hlen⟩
          · rw [if_neg hjk] at hj
            exact .inr ⟨hjk, .inr ⟨i, c, hj⟩⟩
    have hcross : ∀ j j' q b, m1.has q b → j' ∉ ks → mK.has j' b → j = j' := fun j j' q b hq hj' hb => by
      exfalso
      rcases hM.young q b hq with h1 | ⟨⟨k, hkm, h1⟩, _⟩
      · have h1 : w.heap.size ≤ b := h1
        have := hK.toMemOk.ltH hb; omega
      · refine hj' ?_
        have hk1 : mK.has k b := by
          rcases h1 with ⟨c, h1⟩ | ⟨i, c, h1⟩
          · exact .inl ⟨c, hKm _ _ h1⟩
          · exact .inr ⟨i, c, by rw [hKs]; exact h1⟩
        rw [hK.parts j' k b hb hk1]
        exact hkm
    have hKh : ∀ k b, m.has k b → mK.has k b := fun k b h1 => by
      rcases h1 with ⟨c, h1⟩ | ⟨i, c, h1⟩
      · exact .inl ⟨c, hKm _ _ h1⟩
      · exact .inr ⟨i, c, by rw [hKs]; exact h1⟩
    have hsubF : ∀ j, j ∈ ks → (if d ≤ j ∧ (j - d) % 10000 = 0 ∧ (j - d) / 10000 < r.new.length then m1.sub (2000000 + (j - d) / 10000) else if j ∈ ks then m1.sub (toE ks j) else mK.sub j) = m1.sub (toE ks j) := fun j hj => by
      rw [if_neg (hnew_ks j hj), if_pos hj]
    have F : Sim B ⟨fun j => if d ≤ j ∧ (j - d) % 10000 = 0 ∧ (j - d) / 10000 < r.new.length then m1 (2000000 + (j - d) / 10000) else if j ∈ gs then m1 (toE ks j) else mK j, fun j => if d ≤ j ∧ (j - d) % 10000 = 0 ∧ (j - d) / 10000 < r.new.length then m1.sub (2000000 + (j - d) / 10000) else if j ∈ ks then m1.sub (toE ks j) else mK.sub j⟩ S1 { σ with slots := eraseSs gs σ.slots, mem := backMem (ofE ks d) ks r.ext ++ (newMem (ofE ks d) d 0 r.new ++ eraseMs gs (YtplooifpgmlofaaGreat.markMs gs σ.mem)) } a w' := by
     refine { dom := fun j l hj => ?_, objs := fun j o ho => ?_, subs := fun j i c b hj => ?_, subx := fun j hj1 hj2 i c b hj => ?_, parts := fun j j' b hj hj' => ?_, young := fun j b hj => ?_, grow := h.grow.step hM.grow ?_, sold := fun b o hs => hS b o (h.sold b o hs), snew := hsn, sin := hM.sin, scell := hsc, ext := fun j l hj1 hj2 hj => ?_, marks := fun x hx => ⟨(h.marks x hx).1, (hM.grow.block x.1 (Array.getElem?_eq_some_iff.1 (h.marks x hx).2.1).1 (fun ⟨k, _, hc'⟩ => h.toMemOk.noMark hc' hx rfl)).trans (h.marks x hx).2.1, fun o hs => (h.marks x hx).2.2 o (hM.snew x.1 o hs (Array.getElem?_eq_some_iff.1 (h.marks x hx).2.1).1)⟩, defers := h.defers, size := h.size, frozen := h.frozen, slots := fun i p hp => ?_ }
     · have hj : (if d ≤ j ∧ (j - d) % 10000 = 0 ∧ (j - d) / 10000 < r.new.length then m1 (2000000 + (j - d) / 10000) else if j ∈ gs then m1 (toE ks j) else mK j) = some l := hj
       split at hj
       · rename_i hc
         have := look_new_some (g := ofE ks d) (d := d) (os := r.new) (j := 0) (i := (j - d) / 10000) hc.2.2
         rw [Nat.zero_add, show d + 10000 * ((j - d) / 10000) = j from by omega] at this
         exact some_or (.inr (some_or (.inl this)))
       · split at hj
         · rename_i hg
           exact some_or (.inl (look_back_some hlen1.symm (hgk j hg)))
         · exact some_or (.inr (some_or (.inr (by rw [look_eraseMs, Option.isSome_map]; exact hK.dom j l hj))))
     · rw [look_app] at ho
       split at ho
       · rename_i q hq'
         cases ho
         obtain ⟨i, o', h1, h2, rfl⟩ := look_back hq'
         have hlt := (List.getElem?_eq_some_iff.1 h2).1
         have h3 := (hM.objs (1000000 + i) o' (by rw [look_app, look_ext, if_pos (by omega), Nat.add_sub_cancel_left, h2])).back1
         have hkm := List.mem_of_getElem? h1
         refine h3.ren (fun j' _ l hl => hback j' l hl) (fun l hl => ?_) ?_
         · have := hback _ l hl
           have e1 : ofE ks d (1000000 + i) = j := by unfold ofE; rw [if_pos (by omega), Nat.add_sub_cancel_left, List.getD_eq_getElem?_getD, h1]; rfl
           rw [e1] at this
           exact this
         · have e1 : toE ks j = 1000000 + i := by
             have hi := hidx _ hkm
             have hlt := (List.getElem?_eq_some_iff.1 h1).1
             have := (List.getElem?_inj hlt hnd).1 (h1.trans hi.symm)
             unfold toE
             omega
           rw [← e1]
           exact hsubF j hkm
       · rename_i hnb
         have hjk : j ∉ ks := fun hj => by
           have := look_back_some (g := ofE ks d) (ks := ks) (os := r.ext) hlen1.symm hj
           rw [hnb] at this
           cases this
         rw [look_app] at ho
         split at ho
         · rename_i q hq'
           cases ho
           obtain ⟨i, o', h1, h2, rfl⟩ := look_new hq'
           have hlt := (List.getElem?_eq_some_iff.1 h2).1
           have h3 := hM.objs (2000000 + i) o' (by
             rw [look_app, look_ext, look_ext, if_pos (by omega), List.getElem?_eq_none (by omega), if_pos (by omega), Nat.add_sub_cancel_left, h2])
           refine h3.ren (fun j' _ l hl => hback j' l hl) (fun l hl => ?_) ?_
           · have := hback _ l hl
             have e1 : ofE ks d (2000000 + i) = j := by unfold ofE; rw [if_neg (by omega), Nat.add_sub_cancel_left, h1, Nat.zero_add]
             rw [e1] at this
             exact this
           · show (if d ≤ j ∧ (j - d) % 10000 = 0 ∧ (j - d) / 10000 < r.new.length then m1.sub (2000000 + (j - d) / 10000) else if j ∈ ks then m1.sub (toE ks j) else mK.sub j) = _
             rw [if_pos (by rw [h1]; omega), h1]
             congr 1
             omega
         · rw [look_eraseMs] at ho
           obtain ⟨o1, ho1, rfl⟩ := Option.map_eq_some_iff.1 ho
           have hnj : ¬ (d ≤ j ∧ (j - d) % 10000 = 0 ∧ (j - d) / 10000 < r.new.length) := hnk j (by rw [ho1]; rfl)
           refine (hK.objs j o1 ho1).erases hS hcells (fun j' hg l hl => hsub j' hg l hl) (fun l hl => hsub j (fun hg => hjk (hgk j hg)) l hl) ((if_neg hnj).trans (if_neg hjk)) fun b hb => ⟨hM.grow.block b (hK.toMemOk.ltH hb) ?_, fun o' hs => hM.snew b o' hs (hK.toMemOk.ltH hb)⟩
           rintro ⟨k, hkm, h1⟩
           exact hjk (hK.parts j k b hb (hKh k b h1) ▸ hkm)
     · have hj : (if d ≤ j ∧ (j - d) % 10000 = 0 ∧ (j - d) / 10000 < r.new.length then m1.sub (2000000 + (j - d) / 10000) else if j ∈ ks then m1.sub (toE ks j) else mK.sub j) i c = some b := hj
       split at hj
       · rename_i hc
         obtain ⟨o1, h1, h2⟩ := hM.subs _ i c b hj
         refine ⟨o1.ren (ofE ks d), ?_, by cases o1 <;> first | rfl | cases h2⟩
         rw [look_app, look_ext, look_ext] at h1
         have hjk : j ∉ ks := fun hjk => hnew_ks j hjk hc
         have hb0 : look j (backMem (ofE ks d) ks r.ext) = none := by
           cases hl : look j (backMem (ofE ks d) ks r.ext) with
           | none => rfl
           | some q =>
             obtain ⟨i', o', g1, _⟩ := look_back hl
             exact absurd (List.mem_of_getElem? g1) hjk
         show look j (_ ++ (_ ++ _)) = _
         rw [look_app, hb0]
         show look j (_ ++ _) = _
         rw [look_app]
         have h3 : (if 1000000 ≤ 2000000 + (j - d) / 10000 then r.ext[2000000 + (j - d) / 10000 - 1000000]? else none) = none := by
           rw [if_pos (by omega)]
           exact List.getElem?_eq_none (by omega)
         rw [h3] at h1
         rw [if_pos (by omega), Nat.add_sub_cancel_left] at h1
         have h4 := look_new_get (g := ofE ks d) (d := d) (os := r.new) (j := 0) (i := (j - d) / 10000) h1
         rw [Nat.zero_add, show d + 10000 * ((j - d) / 10000) = j from by omega] at h4
         rw [h4]
       · rename_i hc
         by_cases hjk : j ∈ ks
         · obtain ⟨o1, h1, h2⟩ := hM.subs (toE ks j) i c b (by rw [if_pos hjk] at hj; exact hj)
           rw [look_app, look_ext] at h1
           have hge : 1000000 ≤ toE ks j := by unfold toE; omega
           rw [if_pos hge] at h1
           have hlt : toE ks j - 1000000 < r.ext.length := by
             have := List.idxOf_lt_length_of_mem hjk
             unfold toE; omega
           rw [List.getElem?_eq_getElem hlt] at h1
           cases h1
           have h4 := look_back_get (g := ofE ks d) (ks := ks) (os := r.ext) hnd (i := toE ks j - 1000000) (k := j) (by unfold toE; rw [Nat.add_sub_cancel_left]; exact hidx j hjk) (List.getElem?_eq_getElem hlt)
           refine ⟨_, by show look j (_ ++ (_ ++ _)) = _; rw [look_app, h4], ?_⟩
           revert h2
           generalize r.ext[toE ks j - 1000000] = q
           intro h2
           cases q <;> first | rfl | cases h2
         · rw [if_neg hjk] at hj
           obtain ⟨o1, h1, h2⟩ := hK.subs j i c b hj
           refine ⟨eraseOs gs o1, ?_, ?_⟩
           · have hb0 : look j (backMem (ofE ks d) ks r.ext) = none := by
               cases hl : look j (backMem (ofE ks d) ks r.ext) with
               | none => rfl
               | some q =>
                 obtain ⟨i', o', g1, _⟩ := look_back hl
                 exact absurd (List.mem_of_getElem? g1) hjk
             have hn0 : look j (newMem (ofE ks d) d 0 r.new) = none := by
               cases hl : look j (newMem (ofE ks d) d 0 r.new) with
               | none => rfl
               | some q =>
                 obtain ⟨i', o', g1, g2, _⟩ := look_new hl
                 have := (List.getElem?_eq_some_iff.1 g2).1
                 exact absurd ⟨by omega, by omega, by omega⟩ hc
             show look j (_ ++ (_ ++ _)) = _
             rw [look_app, hb0]
             show look j (_ ++ _) = _
             rw [look_app, hn0]
             show look j (eraseMs _ _) = _
             rw [look_eraseMs, h1]
             rfl
           · cases o1 with
             | nest t sz xs pr cs foc => rw [eraseOs_nest]; rfl
             | sys H => rw [eraseOs_of fun _ => rfl]; rfl
             | _ => cases h2
     · have hnj : ¬ (d ≤ j ∧ (j - d) % 10000 = 0 ∧ (j - d) / 10000 < r.new.length) := by omega
       have hj : (if d ≤ j ∧ (j - d) % 10000 = 0 ∧ (j - d) / 10000 < r.new.length then m1.sub (2000000 + (j - d) / 10000) else if j ∈ ks then m1.sub (toE ks j) else mK.sub j) i c = some b := hj
       rw [if_neg hnj] at hj
       by_cases hjk : j ∈ ks
       · rw [if_pos hjk] at hj
         rcases hsubk j hjk i c b hj with h1 | ⟨c', h1⟩ | ⟨i', c', h1⟩
         · have := h.grow.size
           exact .inl (by omega)
         · rcases h.ext j _ hj1 hj2 h1 with h2 | ⟨_, h2⟩
           · exact .inr (.inl ⟨c', h2⟩)
           · rcases h2 b rfl with h2 | ⟨l0, h2, h3⟩
             · exact .inl h2
             · exact .inr (.inl ⟨l0.cap, by rw [h2, ← h3]⟩)
         · exact h.subx j hj1 hj2 i' c' b h1
       · rw [if_neg hjk] at hj
         exact hK.subx j hj1 hj2 i c b hj
     · rcases hside j b hj with ⟨q, h1, h2⟩ | ⟨h1, h2⟩ <;> rcases hside j' b hj' with ⟨q', h1', h2'⟩ | ⟨h1', h2'⟩
       · have := hM.parts _ _ b h1 h1'
         rw [← h2, ← h2', this]
       · exact hcross j j' q b h1 h1' h2'
       · exact (hcross j' j q' b h1' h1 h2).symm
       · exact hK.parts j j' b h2 h2'
     · rcases hj with ⟨c, hj⟩ | ⟨i, c, hj⟩
       · have hj : (if d ≤ j ∧ (j - d) % 10000 = 0 ∧ (j - d) / 10000 < r.new.length then m1 (2000000 + (j - d) / 10000) else if j ∈ gs then m1 (toE ks j) else mK j) = some ⟨some b, c⟩ := hj
         split at hj
         · have := hnewb _ b (.inl ⟨c, hj⟩)
           have := h.grow.size
           exact .inl (by omega)
         · split at hj
           · rename_i hg
             obtain ⟨l0, hl0⟩ := hloc j (hgk j hg)
             obtain ⟨l', h1, h2⟩ := hm0 j (hgk j hg) l0 hl0
             rw [hj] at h1
             cases h1
             rcases h2 with ⟨h2, _⟩ | ⟨_, h2⟩
             · exact absurd hg h2
             · rcases h2 b rfl with h2 | h2
               · have := h.grow.size
                 exact .inl (by omega)
               · refine h.fresh j b l0.cap ?_
                 rw [hl0]; cases l0; cases h2; rfl
           · exact hK.fresh j b c hj
       · have hj : (if d ≤ j ∧ (j - d) % 10000 = 0 ∧ (j - d) / 10000 < r.new.length then m1.sub (2000000 + (j - d) / 10000) else if j ∈ ks then m1.sub (toE ks j) else mK.sub j) i c = some b := hj
         split at hj
         · have := hnewb _ b (.inr ⟨i, c, hj⟩)
           have := h.grow.size
           exact .inl (by omega)
         · by_cases hjk : j ∈ ks
           · rw [if_pos hjk] at hj
             rcases hsubk j hjk i c b hj with h1 | h1
             · have := h.grow.size
               exact .inl (by omega)
             · exact h.young j b h1
           · rw [if_neg hjk] at hj
             exact hK.young j b (.inr ⟨i, c, hj⟩)
     · rintro i hi ⟨k, hkm, h1⟩
       rcases h.young k i h1 with h2 | h2
       · exact absurd hi (by omega)
       · exact h2.1
     · have hj : (if d ≤ j ∧ (j - d) % 10000 = 0 ∧ (j - d) / 10000 < r.new.length then m1 (2000000 + (j - d) / 10000) else if j ∈ gs then m1 (toE ks j) else mK j) = some l := hj
       have more : ∀ {i : Nat}, (look i (YtplooifpgmlofaaGreat.markMs gs σ.mem)).isSome = true → (look i (backMem (ofE ks d) ks r.ext ++ (newMem (ofE ks d) d 0 r.new ++ eraseMs gs (YtplooifpgmlofaaGreat.markMs gs σ.mem)))).isSome = true := fun hi => some_or (.inr (some_or (.inr (by rw [look_eraseMs, Option.isSome_map]; exact hi))))
       split at hj
       · omega
       · split at hj
         · rename_i hg
           obtain ⟨l0, hl0⟩ := hloc j (hgk j hg)
           obtain ⟨l', h1, h2⟩ := hm0 j (hgk j hg) l0 hl0
           rw [hj] at h1
           cases h1
           rcases h2 with ⟨h2, _⟩ | ⟨_, h2⟩
           · exact absurd hg h2
           · refine .inr ⟨more (look_markMs_has hj1 hg), fun b hb => ?_⟩
             rcases h2 b hb with h2 | h2
             · have := h.grow.size
               exact .inl (by omega)
             · rcases h.ext j l0 hj1 hj2 hl0 with h3 | ⟨_, h3⟩
               · exact .inr ⟨l0, h3, h2⟩
               · exact h3 b h2
         · exact (hK.ext j l hj1 hj2 hj).imp id fun ⟨g1, g2⟩ => ⟨more g1, g2⟩
     · rw [look_eraseSs] at hp
       obtain ⟨q, hq1, rfl⟩ := Option.map_eq_some_iff.1 hp
       obtain ⟨v', h1, h2⟩ := hK.slots i q hq1
       exact ⟨v', h1, h2.erases hS hcells fun k hg l hl => hsub k hg l hl⟩
    refine ⟨⟨F, hr.ren fun j _ l hl => hback j l hl⟩, fun hcalm => ?_⟩
    unfold calmRes at hcalm
    simp only [Bool.and_eq_true, List.isEmpty_iff] at hcalm
    obtain ⟨⟨q1, q2⟩, q3⟩ := hcalm
    have hgn : gs = [] := by rw [← hgs]; exact grownKs_sc q2
    have hc0 : ∀ b o, S0 b o → w'.cell? ⟨b, o, none⟩ = w.cell? ⟨b, o, none⟩ := fun b o hs => hcells b o (hS0 b o hs)
    have hsubm : ∀ k l, m k = some l → (if d ≤ k ∧ (k - d) % 10000 = 0 ∧ (k - d) / 10000 < r.new.length then m1 (2000000 + (k - d) / 10000) else if k ∈ gs then m1 (toE ks k) else mK k) = some l := fun k l hl => hsub k (by rw [hgn]; exact List.not_mem_nil) l (hKm k l hl)
    have more0 : ∀ {i : Nat}, (look i (backMem (ofE ks d) ks r.ext ++ (newMem (ofE ks d) d 0 r.new ++ eraseMs gs (YtplooifpgmlofaaGreat.markMs gs σ.mem)))).isSome = true → (look i (backMem (ofE ks d) ks r.ext ++ (newMem (ofE ks d) d 0 r.new ++ mem0))).isSome = true := fun {i} this => by
      rw [look_app] at this
      split at this
      · rename_i q hq'
        exact some_or (.inl (by rw [hq']; rfl))
      · rw [look_app] at this
        split at this
        · rename_i q hq'
          exact some_or (.inr (some_or (.inl (by rw [hq']; rfl))))
        · rw [hgn] at this
          exact some_or (.inr (some_or (.inr (hdom0 i this))))
    refine ⟨{ dom := fun j l hj => more0 (F.dom j l hj), objs := fun j o ho => ?_, subs := fun j i c b hj => ?_, subx := F.subx, parts := F.parts, young := F.young, grow := F.grow, sold := h0.sold, snew := h0.snew, sin := fun b o hs => Nat.lt_of_lt_of_le (h0.sin b o hs) hM.grow.size, scell := hsc, ext := fun j l hj1 hj2 hj => (F.ext j l hj1 hj2 hj).imp id fun ⟨g1, g2⟩ => ⟨more0 g1, g2⟩, marks := fun x hx => ⟨(F.marks x hx).1, (F.marks x hx).2.1, (h0.marks x hx).2.2⟩, defers := h0.defers, size := h0.size, frozen := h0.frozen, slots := fun i p hp => ?_ }, (hr.calm q1).ren fun j _ l hl => hback j l hl⟩
    · rw [look_app] at ho
      split at ho
      · rename_i q hq'
        cases ho
        have hF := F.objs j _ (by show look j (_ ++ _) = _; rw [look_app, hq'])
        obtain ⟨i, o', h1, h2, rfl⟩ := look_back hq'
        have hsc' : o'.sc = true := List.all_eq_true.1 q2 o' (List.mem_of_getElem? h2)
        have hb1 : back1 o' = o' := back1_of (by cases o' <;> first | rfl | cases hsc')
        rw [hb1] at hF ⊢
        exact hF.calm (mobj_sc_ren hsc') fun b o hs => hS b o (hS0 b o hs)
      · rename_i hnb
        have hjk : j ∉ ks := fun hj => by
          have := look_back_some (g := ofE ks d) (ks := ks) (os := r.ext) hlen1.symm hj
          rw [hnb] at this
          cases this
        rw [look_app] at ho
        split at ho
        · rename_i q hq'
          obtain ⟨i, o', h1, h2, rfl⟩ := look_new hq'
          rw [q3] at h2
          simp at h2
        · have hsj : (if d ≤ j ∧ (j - d) % 10000 = 0 ∧ (j - d) / 10000 < r.new.length then m1.sub (2000000 + (j - d) / 10000) else if j ∈ ks then m1.sub (toE ks j) else mK.sub j) = m.sub j := by
            rw [q3, if_neg (by simp), if_neg hjk, hKs]
          refine (h0.objs j o ho).keep (fun _ _ hs => hs) hc0 (fun j' _ l hl => hsubm j' l hl) (fun l hl => hsubm j l hl) hsj fun b hb => ⟨hM.grow.block b (h.toMemOk.ltH hb) ?_, fun o' hs => hs⟩
          rintro ⟨k, hkm, h1⟩
          exact hjk (h.parts j k b hb h1 ▸ hkm)
    · have hj : (if d ≤ j ∧ (j - d) % 10000 = 0 ∧ (j - d) / 10000 < r.new.length then m1.sub (2000000 + (j - d) / 10000) else if j ∈ ks then m1.sub (toE ks j) else mK.sub j) i c = some b := hj
      rw [q3, if_neg (by simp)] at hj
      have hjk : j ∉ ks := fun hjk => by
        rw [if_pos hjk] at hj
        obtain ⟨o1, h1, h2⟩ := hM.subs (toE ks j) i c b hj
        rw [look_app, look_ext] at h1
        have hge : 1000000 ≤ toE ks j := by unfold toE; omega
        rw [if_pos hge] at h1
        have hlt : toE ks j - 1000000 < r.ext.length := by
          have := List.idxOf_lt_length_of_mem hjk
          unfold toE; omega
        rw [List.getElem?_eq_getElem hlt] at h1
        cases h1
        have h3 := List.all_eq_true.1 q2 _ (List.getElem_mem hlt)
        revert h2 h3
        generalize r.ext[toE ks j - 1000000] = q
        intro h2 h3
        cases q <;> first | (cases h3; done) | (cases h2; done)
      rw [if_neg hjk, hKs] at hj
      obtain ⟨o1, h1, h2⟩ := h0.subs j i c b hj
      refine ⟨o1, ?_, h2⟩
      have hb0 : look j (backMem (ofE ks d) ks r.ext) = none := by
        cases hl : look j (backMem (ofE ks d) ks r.ext) with
        | none => rfl
        | some q =>
          obtain ⟨i', o', g1, _⟩ := look_back hl
          exact absurd (List.mem_of_getElem? g1) hjk
      have hn0 : look j (newMem (ofE ks d) d 0 r.new) = none := by rw [q3]; rfl
      show look j (_ ++ (_ ++ _)) = _
      rw [look_app, hb0]
      show look j (_ ++ _) = _
      rw [look_app, hn0]
      exact h1
    · obtain ⟨v', h1, h2⟩ := h0.slots i p hp
      exact ⟨v', h1, h2.keep (fun _ _ hs => hs) hc0 fun k _ l hl => hsubm k l hl⟩
theorem call_ok (h : Sim B m S σ a w) {S0 : Cells} {mem0 : Mem} (h0 : Sim B m S0 { σ with mem := mem0 } a w) (hS0 : ∀ b o, S0 b o → S b o) (hdom0 : ∀ k, (look k σ.mem).isSome = true → (look k mem0).isSome = true) {g : Nat} {vs : Array Value} {ps : List PV} (hps : All2 (Rep m w S) vs.toList ps) {ks : List Nat} (hnd : ks.Nodup) (hk : ∀ k ∈ ks, (look k σ.mem).isSome = true) (hcl : ∀ k ∈ ks, ∀ o, look k σ.mem = some o → ∀ j ∈ o.keys, j ∈ ks)
    (hkeys : ∀ p ∈ ps, ∀ k ∈ p.keys, k ∈ ks) (hlen : ks.length < 1000000) (d : Nat) (hd : d < 10000) {Q : Res → Prop} (hm : Meets P g (ps.map (PV.ren (toE ks))) (ks.map fun k => ((look k σ.mem).getD default).ren (toE ks)) Q) :
    Calls P g vs w fun e w' => ∃ r v m' S', Q r ∧ e = .returned v ∧ ((∀ i, i < r.new.length → look (d + 10000 * i) σ.mem = none) →
      (Sim B m' S' { σ with slots := eraseSs (grownKs ks r.ext) σ.slots, mem := backMem (ofE ks d) ks r.ext ++ (newMem (ofE ks d) d 0 r.new ++ eraseMs (grownKs ks r.ext) (markMs (grownKs ks r.ext) σ.mem)) } a w' ∧ Rep m' w' S' v (r.val.ren (ofE ks d))) ∧
      (calmRes r = true → Sim B m' S0 { σ with mem := backMem (ofE ks d) ks r.ext ++ (newMem (ofE ks d) d 0 r.new ++ mem0) } a w' ∧ Rep m' w' S0 v (r.val.ren (ofE ks d)))) :=
  call_okC (C := Calls P g vs w) (fun _ _ h hr => h.mono hr) h h0 hS0 hdom0 hps hnd hk hcl hkeys hlen d hd fun S m T ha hM => hm.2 w S m T vs ha hM
end
end Go.Proofs.YtplooifpgmlofaaGreat
