/- The statement ExploreNormalSaid: for every input the call returns true, and its arguments read afterwards as before. No condition. -/
import Derived.Test.YtplooifpgmlofaaRows
import Derived.Test.YtplooifpgmlofaaN15
import Derived.ProofKit
import Derived.OpenShut
import Derived.ChangeOld
namespace Go.Proofs.Ytplooifpgmlofaa
open Go.RowKit

/-- The step of a task, if it can come first. -/
def frontS : List Stp → Int → Option Stp
  | [], _ => none
  | x :: l, t => if x.task = t then some x else match frontS l t with
    | some s => if indy x.uses s.uses then some s else none
    | none => none
/-- Without the first step of a task. -/
def remS : List Stp → Int → List Stp
  | [], _ => []
  | x :: l, t => if x.task = t then l else x :: remS l t
theorem front_free : ∀ (l : List Stp) (i : Nat) (s : Stp), l[i]? = some s → heldBy (l.take i) s = false → frontS l s.task = some s ∧ remS l s.task = l.eraseIdx i
  | [], i, s, h, _ => by simp at h
  | x :: l, 0, s, h, _ => by
    obtain rfl : x = s := by simpa using h
    simp [frontS, remS]
  | x :: l, i + 1, s, h, hh => by
    simp only [List.getElem?_cons_succ] at h
    simp only [heldBy, List.take_succ_cons, List.any_cons, Bool.or_eq_false_iff, beq_eq_false_iff_ne, Bool.not_eq_false'] at hh
    obtain ⟨⟨h1, h2⟩, h3⟩ := hh
    obtain ⟨e1, e2⟩ := front_free l i s h (by unfold heldBy; exact h3)
    simp [frontS, remS, h1, e1, e2, h2]
theorem free_front : ∀ (l : List Stp) (t : Int) (s : Stp), frontS l t = some s → s.task = t ∧ ∃ i, l[i]? = some s ∧ heldBy (l.take i) s = false
  | [], t, s, h => by cases h
  | x :: l, t, s, h => by
    unfold frontS at h
    split at h
    · rename_i hx
      obtain rfl := Option.some.inj h
      exact ⟨hx, 0, rfl, rfl⟩
    · rename_i hx
      split at h
      · rename_i s' hs'
        split at h
        · rename_i hi
          obtain rfl := Option.some.inj h
          obtain ⟨ht, i, h1, h2⟩ := free_front l t s' hs'
          refine ⟨ht, i + 1, by simpa using h1, ?_⟩
          unfold heldBy at h2 ⊢
          rw [List.take_succ_cons, List.any_cons, h2, hi]
          simp
          exact fun e => hx (e.trans ht)
        · cases h
      · cases h
/-- What bestTo finds. -/
theorem best_free (l : List Stp) : ∀ k, k ≤ l.length → (0 ≤ bestTo l k → ∃ s, l[(bestTo l k).toNat]? = some s ∧ heldBy (l.take (bestTo l k).toNat) s = false) ∧
    ∀ i s, i < k → l[i]? = some s → heldBy (l.take i) s = false → 0 ≤ bestTo l k ∧ taskAt l (bestTo l k) ≤ s.task
  | 0, _ => ⟨fun h => by simp [bestTo] at h, fun i s h => by omega⟩
  | k + 1, hk => by
    obtain ⟨ih1, ih2⟩ := best_free l k (by omega)
    obtain ⟨s, hs, _⟩ := at_lt (show k < l.length by omega)
    have hb := bestTo_lt l k
    have e : bestTo l (k + 1) = if 0 ≤ bestTo l k ∧ taskAt l (bestTo l k) ≤ s.task then bestTo l k else if heldBy (l.take k) s = true then bestTo l k else k := by
      rw [bestTo, hs]
    rw [e]
    have htk : taskAt l (k : Int) = s.task := by simp [taskAt, hs]
    by_cases h1 : 0 ≤ bestTo l k ∧ taskAt l (bestTo l k) ≤ s.task
    · rw [if_pos h1]
      refine ⟨ih1, fun i u hi hu hf => ?_⟩
      rcases Nat.lt_or_ge i k with hik | hik
      · exact ih2 i u hik hu hf
      · obtain rfl : i = k := by omega
        rw [hs] at hu; cases hu
        exact h1
    · rw [if_neg h1]
      by_cases h2 : heldBy (l.take k) s = true
      · rw [if_pos h2]
        refine ⟨ih1, fun i u hi hu hf => ?_⟩
        rcases Nat.lt_or_ge i k with hik | hik
        · exact ih2 i u hik hu hf
        · obtain rfl : i = k := by omega
          rw [hs] at hu; cases hu
          rw [h2] at hf; cases hf
      · rw [if_neg h2]
        refine ⟨fun _ => ⟨s, by simpa using hs, by simpa using h2⟩, fun i u hi hu hf => ⟨by omega, ?_⟩⟩
        rw [htk]
        rcases Nat.lt_or_ge i k with hik | hik
        · have := ih2 i u hik hu hf
          have h3 : ¬ taskAt l (bestTo l k) ≤ s.task := fun h => h1 ⟨this.1, h⟩
          omega
        · obtain rfl : i = k := by omega
          rw [hs] at hu; cases hu
          exact Int.le_refl _
/-- The least task that can come first. -/
def leastS (l : List Stp) (t : Int) : Prop := (frontS l t).isSome = true ∧ ∀ u, (frontS l u).isSome = true → t ≤ u
theorem leastS_unique {l : List Stp} {t u : Int} (h1 : leastS l t) (h2 : leastS l u) : t = u := by
  have := h1.2 u h2.1
  have := h2.2 t h1.1
  omega
theorem best_least (l : List Stp) (h : l ≠ []) : leastS l (taskAt l (bestTo l l.length)) ∧ l.eraseIdx (bestTo l l.length).toNat = remS l (taskAt l (bestTo l l.length)) := by
  have hb := bestTo_pos l l.length (List.length_pos_iff.2 h) (Nat.le_refl _)
  obtain ⟨h1, h2⟩ := best_free l l.length (Nat.le_refl _)
  obtain ⟨s, hs, hf⟩ := h1 hb
  obtain ⟨f1, f2⟩ := front_free l _ s hs hf
  have ht : taskAt l (bestTo l l.length) = s.task := by simp [taskAt, hs]
  rw [ht]
  refine ⟨⟨by rw [f1]; rfl, fun u hu => ?_⟩, f2.symm⟩
  obtain ⟨s', hs'⟩ := Option.isSome_iff_exists.1 hu
  obtain ⟨e, i, g1, g2⟩ := free_front l u s' hs'
  have := h2 i s' (List.getElem?_eq_some_iff.1 g1).1 g1 g2
  rw [ht] at this
  omega
theorem normX_least {n : Nat} {l : List Stp} {t : Int} (h : leastS l t) : normX (n + 1) l = t :: normX n (remS l t) := by
  have h0 : l ≠ [] := fun e => by rw [e] at h; exact absurd h.1 (by simp [frontS])
  obtain ⟨h1, h2⟩ := best_least l h0
  obtain rfl := leastS_unique h h1
  rw [normX, if_neg h0, h2]
theorem has_least {l : List Stp} (h : l ≠ []) : ∃ t, leastS l t := ⟨_, (best_least l h).1⟩
theorem remS_len : ∀ {l : List Stp} {t : Int}, (frontS l t).isSome = true → (remS l t).length + 1 = l.length
  | [], t, h => by cases h
  | x :: l, t, h => by
    unfold remS
    split
    · rfl
    · rename_i hx
      unfold frontS at h
      rw [if_neg hx] at h
      have : (frontS l t).isSome = true := by
        split at h
        · rename_i e; rw [e]; rfl
        · cases h
      simp [remS_len this]
/-- Two neighbours that are independent are exchanged. -/
inductive Swp : List Stp → List Stp → Prop
  | mk (u : List Stp) (x y : Stp) (v : List Stp) (ht : x.task ≠ y.task) (hi : indy x.uses y.uses = true) : Swp (u ++ x :: y :: v) (u ++ y :: x :: v)
theorem Swp.cons {l m : List Stp} (x : Stp) (h : Swp l m) : Swp (x :: l) (x :: m) := by
  obtain ⟨u, a, b, v, ht, hi⟩ := h
  exact .mk (x :: u) a b v ht hi
theorem Swp.length {l m : List Stp} (h : Swp l m) : l.length = m.length := by
  obtain ⟨u, a, b, v, ht, hi⟩ := h
  simp
theorem frontS_swp2 (x y : Stp) (v : List Stp) (ht : x.task ≠ y.task) (hi : indy x.uses y.uses = true) (t : Int) : frontS (x :: y :: v) t = frontS (y :: x :: v) t := by
  have hi' : indy y.uses x.uses = true := by rw [indy_comm]; exact hi
  by_cases hx : x.task = t
  · have hy : y.task ≠ t := fun e => ht (hx.trans e.symm)
    simp [frontS, hx, hy, hi']
  · by_cases hy : y.task = t
    · simp [frontS, hx, hy, hi]
    · simp only [frontS, if_neg hx, if_neg hy]
      cases frontS v t with
      | none => rfl
      | some s =>
        dsimp only
        cases h1 : indy y.uses s.uses <;> cases h2 : indy x.uses s.uses <;> simp [h1, h2]
theorem frontS_swp {l m : List Stp} (h : Swp l m) (t : Int) : frontS l t = frontS m t := by
  obtain ⟨u, x, y, v, ht, hi⟩ := h
  induction u with
  | nil => exact frontS_swp2 x y v ht hi t
  | cons a u ih => simp only [List.cons_append, frontS, ih]
theorem remS_swp {l m : List Stp} (h : Swp l m) (t : Int) : remS l t = remS m t ∨ Swp (remS l t) (remS m t) := by
  obtain ⟨u, x, y, v, ht, hi⟩ := h
  induction u with
  | nil =>
    show remS (x :: y :: v) t = remS (y :: x :: v) t ∨ Swp (remS (x :: y :: v) t) (remS (y :: x :: v) t)
    by_cases hx : x.task = t
    · have hy : y.task ≠ t := fun e => ht (hx.trans e.symm)
      exact .inl (by simp [remS, hx, hy])
    · by_cases hy : y.task = t
      · exact .inl (by simp [remS, hx, hy])
      · refine .inr ?_
        simp only [remS, if_neg hx, if_neg hy]
        exact .mk [] x y _ ht hi
  | cons a u ih =>
    simp only [List.cons_append, remS]
    by_cases ha : a.task = t
    · rw [if_pos ha, if_pos ha]
      exact .inr (.mk u x y v ht hi)
    · rw [if_neg ha, if_neg ha]
      rcases ih with e | h
      · exact .inl (by rw [e])
      · exact .inr (h.cons a)
theorem leastS_swp {l m : List Stp} (h : Swp l m) {t : Int} (ht : leastS l t) : leastS m t := ⟨by rw [← frontS_swp h]; exact ht.1, fun u hu => ht.2 u (by rw [frontS_swp h]; exact hu)⟩
theorem normX_swp : ∀ (n : Nat) {l m : List Stp}, l.length = n → Swp l m → normX n l = normX n m
  | 0, _, _, _, _ => rfl
  | n + 1, l, m, hl, h => by
    have h0 : l ≠ [] := fun e => by rw [e] at hl; cases hl
    obtain ⟨t, ht⟩ := has_least h0
    rw [normX_least ht, normX_least (leastS_swp h ht)]
    have hr := remS_len ht.1
    rcases remS_swp h t with e | h'
    · rw [e]
    · rw [normX_swp n (by omega) h']
/-- Several exchanges. -/
inductive Sws : List Stp → List Stp → Prop
  | refl (l : List Stp) : Sws l l
  | step {l m n : List Stp} (h : Swp l m) (h2 : Sws m n) : Sws l n
theorem Sws.trans {l m n : List Stp} (h1 : Sws l m) (h2 : Sws m n) : Sws l n := by
  induction h1 with
  | refl => exact h2
  | step h _ ih => exact .step h (ih h2)
theorem Sws.cons {l m : List Stp} (x : Stp) (h : Sws l m) : Sws (x :: l) (x :: m) := by
  induction h with
  | refl => exact .refl _
  | step h _ ih => exact .step (h.cons x) ih
theorem Sws.length {l m : List Stp} (h : Sws l m) : l.length = m.length := by
  induction h with
  | refl => rfl
  | step h _ ih => rw [h.length, ih]
theorem normX_sws {n : Nat} {l m : List Stp} (hl : l.length = n) (h : Sws l m) : normX n l = normX n m := by
  induction h with
  | refl => rfl
  | step h _ ih => rw [normX_swp n hl h, ih (by rw [← h.length]; exact hl)]
/-- Whoever can come first comes there by exchanges. -/
theorem sws_front : ∀ (l : List Stp) (t : Int) (s : Stp), frontS l t = some s → Sws l (s :: remS l t)
  | [], t, s, h => by cases h
  | x :: l, t, s, h => by
    unfold frontS at h
    unfold remS
    split at h
    · rename_i hx
      obtain rfl := Option.some.inj h
      rw [if_pos hx]
      exact .refl _
    · rename_i hx
      rw [if_neg hx]
      split at h
      · rename_i s' hs'
        split at h
        · rename_i hi
          obtain rfl := Option.some.inj h
          have ht := (free_front l t s' hs').1
          exact ((sws_front l t s' hs').cons x).trans (.step (.mk [] x s' _ (by rw [ht]; exact hx) hi) (.refl _))
        · cases h
      · cases h
/-- The steps in the least order. -/
theorem norm_sws : ∀ (n : Nat) (l : List Stp), l.length = n → ∃ m, Sws l m ∧ m.map Stp.task = normX n l
  | 0, l, h => ⟨l, .refl _, by rw [List.eq_nil_of_length_eq_zero h]; rfl⟩
  | n + 1, l, h => by
    obtain ⟨t, ht⟩ := has_least (l := l) (fun e => by rw [e] at h; cases h)
    obtain ⟨s, hs⟩ := Option.isSome_iff_exists.1 ht.1
    have hr := remS_len ht.1
    obtain ⟨m, h1, h2⟩ := norm_sws n (remS l t) (by omega)
    refine ⟨s :: m, (sws_front l t s hs).trans (h1.cons s), ?_⟩
    rw [normX_least ht, List.map_cons, h2, (free_front l t s hs).1]

/-- The steps of turns that come behind others. -/
def stepsF (Y : Sys) (q : List Int) : List Int → List Stp
  | [] => []
  | t :: r => ⟨t, Y.foot q t⟩ :: stepsF Y (q ++ [t]) r
/-- Turns that can be had behind others. -/
def legalF (Y : Sys) (q : List Int) : List Int → Prop
  | [] => True
  | t :: r => t ∈ Y.en q ∧ legalF Y (q ++ [t]) r
theorem legalF_at {Y : Sys} : ∀ {r q : List Int}, legalF Y q r ↔ ∀ i t, r[i]? = some t → t ∈ Y.en (q ++ r.take i)
  | [], q => by simp [legalF]
  | t :: r, q => by
    unfold legalF
    rw [legalF_at (r := r)]
    constructor
    · rintro ⟨h1, h2⟩ i u hu
      cases i with
      | zero => simp at hu; subst hu; simpa using h1
      | succ i => simpa using h2 i u (by simpa using hu)
    · intro h
      refine ⟨by simpa using h 0 t rfl, fun i u hu => ?_⟩
      have := h (i + 1) u (by simpa using hu)
      simpa using this
theorem legal_F {Y : Sys} {p : List Int} : legal Y p ↔ p.length ≤ 60 ∧ legalF Y [] p := by
  unfold legal
  rw [legalF_at]
  simp
theorem legalF_append {Y : Sys} : ∀ {r q s : List Int}, legalF Y q (r ++ s) ↔ legalF Y q r ∧ legalF Y (q ++ r) s
  | [], q, s => by simp [legalF]
  | t :: r, q, s => by
    rw [List.cons_append, legalF, legalF, legalF_append, List.append_assoc, and_assoc]
    rfl
theorem stepsF_append {Y : Sys} : ∀ {r q s : List Int}, stepsF Y q (r ++ s) = stepsF Y q r ++ stepsF Y (q ++ r) s
  | [], q, s => by simp [stepsF]
  | t :: r, q, s => by
    rw [List.cons_append, stepsF, stepsF, stepsF_append, List.append_assoc]
    rfl
theorem stepsF_task {Y : Sys} : ∀ {r q : List Int}, (stepsF Y q r).map Stp.task = r
  | [], _ => rfl
  | t :: r, q => by rw [stepsF, List.map_cons, stepsF_task]
theorem stepsF_len {Y : Sys} (r q : List Int) : (stepsF Y q r).length = r.length := by
  have := congrArg List.length (stepsF_task (Y := Y) (r := r) (q := q))
  simpa using this
theorem stepsK_F {Y : Sys} (p : List Int) : ∀ k, k ≤ p.length → stepsK Y p k = stepsF Y [] (p.take k)
  | 0, _ => by simp [stepsK, stepsF]
  | k + 1, h => by
    obtain ⟨t, ht, _⟩ := at_lt (show k < p.length by omega)
    rw [stepsK_succ ht, stepsK_F p k (by omega), take_step ht, stepsF_append]
    rfl
theorem steps_all (Y : Sys) (p : List Int) : stepsK Y p p.length = stepsF Y [] p := by
  rw [stepsK_F p p.length (Nat.le_refl _), List.take_length]
/-- Whatever comes behind is the same. -/
structure Alike (Y : Sys) (p p' : List Int) : Prop where
  en : ∀ v, Y.en (p ++ v) = Y.en (p' ++ v)
  foot : ∀ v t, Y.foot (p ++ v) t = Y.foot (p' ++ v) t
  done : ∀ v, Y.done (p ++ v) = Y.done (p' ++ v)
  out : ∀ v, Y.out (p ++ v) = Y.out (p' ++ v)
theorem Alike.refl (Y : Sys) (p : List Int) : Alike Y p p := ⟨fun _ => rfl, fun _ _ => rfl, fun _ => rfl, fun _ => rfl⟩
theorem Alike.trans {Y : Sys} {p q r : List Int} (h1 : Alike Y p q) (h2 : Alike Y q r) : Alike Y p r := ⟨fun v => (h1.en v).trans (h2.en v), fun v t => (h1.foot v t).trans (h2.foot v t), fun v => (h1.done v).trans (h2.done v), fun v => (h1.out v).trans (h2.out v)⟩
theorem Alike.app {Y : Sys} {p q : List Int} (h : Alike Y p q) (r : List Int) : Alike Y (p ++ r) (q ++ r) := ⟨fun v => by simpa using h.en (r ++ v), fun v t => by simpa using h.foot (r ++ v) t, fun v => by simpa using h.done (r ++ v), fun v => by simpa using h.out (r ++ v)⟩
theorem Alike.steps {Y : Sys} : ∀ {r p q : List Int}, Alike Y p q → stepsF Y p r = stepsF Y q r
  | [], _, _, _ => rfl
  | t :: r, p, q, h => by
    rw [stepsF, stepsF, (h.app [t]).steps]
    have := h.foot [] t
    simp only [List.append_nil] at this
    rw [this]
theorem Alike.legal {Y : Sys} : ∀ {r p q : List Int}, Alike Y p q → legalF Y p r → legalF Y q r
  | [], _, _, _, _ => trivial
  | t :: r, p, q, h, hl => by
    have := h.en []
    simp only [List.append_nil] at this
    exact ⟨by rw [← this]; exact hl.1, (h.app [t]).legal hl.2⟩
/-- Neighbours that are independent may be exchanged. -/
def Comm (Y : Sys) : Prop := ∀ p a b, legal Y (p ++ [a, b]) → a ≠ b → indy (Y.foot p a) (Y.foot (p ++ [a]) b) = true →
  b ∈ Y.en p ∧ a ∈ Y.en (p ++ [b]) ∧ Y.foot p b = Y.foot (p ++ [a]) b ∧ Y.foot (p ++ [b]) a = Y.foot p a ∧ Alike Y (p ++ [a, b]) (p ++ [b, a])
/-- Turns whose steps are exchanged. -/
theorem swp_turns {Y : Sys} (hY : Comm Y) {p : List Int} (hp : legal Y p) {m : List Stp} (h : Swp (stepsF Y [] p) m) : ∃ p', legal Y p' ∧ stepsF Y [] p' = m ∧ Alike Y p p' := by
  obtain ⟨h60, hl⟩ := legal_F.1 hp
  generalize hs : stepsF Y [] p = l at h
  obtain ⟨u, x, y, v, ht, hi⟩ := h
  have hpm : p = u.map Stp.task ++ x.task :: y.task :: v.map Stp.task := by
    have := stepsF_task (Y := Y) (r := p) (q := [])
    rw [hs] at this
    rw [← this]; simp
  generalize hu : u.map Stp.task = pu at hpm
  generalize hv : v.map Stp.task = pv at hpm
  obtain ⟨a, f⟩ := x
  obtain ⟨b, g⟩ := y
  dsimp only at ht hi hpm
  subst hpm
  have hul : (stepsF Y [] pu).length = u.length := by rw [stepsF_len, ← hu]; simp
  rw [stepsF_append] at hs
  obtain ⟨e1, e2⟩ := List.append_inj hs hul
  simp only [List.nil_append, stepsF, List.cons.injEq, Stp.mk.injEq, true_and] at e2
  obtain ⟨rfl, rfl, e3⟩ := e2
  rw [legalF_append] at hl
  obtain ⟨hl1, hl2, hl3, hl4⟩ := hl
  simp only [List.nil_append] at hl2 hl3 hl4
  simp only [List.length_append, List.length_cons] at h60
  have hab : legal Y (pu ++ [a, b]) := legal_F.2 ⟨by simp; omega, legalF_append.2 ⟨hl1, by simpa [legalF] using ⟨hl2, hl3⟩⟩⟩
  obtain ⟨c1, c2, c3, c4, c5⟩ := hY pu a b hab ht hi
  refine ⟨pu ++ b :: a :: pv, legal_F.2 ⟨by simp; omega, legalF_append.2 ⟨hl1, ?_⟩⟩, ?_, ?_⟩
  · simp only [List.nil_append, legalF]
    refine ⟨c1, c2, ?_⟩
    have := c5.legal (r := pv) (by simpa using hl4)
    simpa using this
  · rw [stepsF_append, e1]
    simp only [List.nil_append, stepsF, c3, c4]
    have := c5.steps (r := pv)
    simp only [List.append_assoc, List.cons_append, List.nil_append] at this e3 ⊢
    rw [← this, e3]
  · have := c5.app pv
    simpa using this
theorem sws_turns {Y : Sys} (hY : Comm Y) {l m : List Stp} (h : Sws l m) : ∀ {p : List Int}, legal Y p → stepsF Y [] p = l → ∃ p', legal Y p' ∧ stepsF Y [] p' = m ∧ Alike Y p p' := by
  induction h with
  | refl => exact fun hp he => ⟨_, hp, he, .refl _ _⟩
  | step h _ ih =>
    intro p hp he
    obtain ⟨p1, h1, h2, h3⟩ := swp_turns hY hp (by rw [he]; exact h)
    obtain ⟨p2, g1, g2, g3⟩ := ih h1 h2
    exact ⟨p2, g1, g2, h3.trans g3⟩
theorem normal_F (Y : Sys) (p : List Int) : normal Y p = normX p.length (stepsF Y [] p) := by rw [normal, steps_all]
/-- The least turns that are alike can be had, and come to the same. -/
theorem normal_legal {Y : Sys} (hY : Comm Y) {p : List Int} (hp : legal Y p) : legal Y (normal Y p) ∧ Alike Y p (normal Y p) ∧ normal Y (normal Y p) = normal Y p ∧ (normal Y p).length = p.length := by
  obtain ⟨m, h1, h2⟩ := norm_sws p.length (stepsF Y [] p) (stepsF_len _ _)
  rw [← normal_F] at h2
  obtain ⟨p', g1, g2, g3⟩ := sws_turns hY h1 hp rfl
  have e : p' = normal Y p := by rw [← h2, ← g2, stepsF_task]
  subst e
  have hlen : (normal Y p).length = p.length := by
    rw [← stepsF_len (Y := Y) (normal Y p) [], g2, ← h1.length, stepsF_len]
  refine ⟨g1, g3, ?_, hlen⟩
  rw [normal_F Y (normal Y p), g2, hlen, ← normX_sws (stepsF_len _ _) h1, ← normal_F]
/-- Neighbours that are exchanged make no difference. -/
theorem normal_swap {Y : Sys} (hY : Comm Y) {p : List Int} {a b : Int} {v : List Int} (hp : legal Y (p ++ a :: b :: v)) (ht : a ≠ b) (hi : indy (Y.foot p a) (Y.foot (p ++ [a]) b) = true) : legal Y (p ++ b :: a :: v) ∧ normal Y (p ++ b :: a :: v) = normal Y (p ++ a :: b :: v) := by
  have hs : Swp (stepsF Y [] (p ++ a :: b :: v)) (stepsF Y [] p ++ ⟨b, Y.foot (p ++ [a]) b⟩ :: ⟨a, Y.foot p a⟩ :: stepsF Y (p ++ [a] ++ [b]) v) := by
    rw [stepsF_append]
    exact .mk _ ⟨a, _⟩ ⟨b, _⟩ _ ht hi
  obtain ⟨p', h1, h2, h3⟩ := swp_turns hY hp hs
  have e : p' = p ++ b :: a :: v := by
    rw [← stepsF_task (Y := Y) (r := p') (q := []), h2]
    simp [stepsF_task]
  subst e
  refine ⟨h1, ?_⟩
  rw [normal_F, normal_F, h2, ← normX_swp _ (by rw [stepsF_len]; simp) hs]
  simp
end Go.Proofs.Ytplooifpgmlofaa
namespace Go.Proofs.Ytplooifpgmlofaa
open Go.RowKit
open Lo (Sy Lk Qu onLock onQueue addS lockF unlockF rlockF runlockF sendF recvF shutF recvV recvB thereS chk Fits known queueE groupE hasT putIn lower asc inT)

inductive Kd | lk | qu | gr | no
deriving DecidableEq
inductive Cel | lk (l : Lk) | qu (u : Qu) | gr (g : Int) | no
def getC (s : Sy) (n : Int) : Kd → Option Cel
  | .lk => if n < 0 then none else s.locks[n.toNat]?.map .lk
  | .qu => if n < 0 then none else s.queues[n.toNat]?.map .qu
  | .gr => if n < 0 then none else s.groups[n.toNat]?.map .gr
  | .no => some .no
theorem getC_lk (s : Sy) (n : Int) : getC s n .lk = if n < 0 then none else s.locks[n.toNat]?.map .lk := rfl
theorem getC_qu (s : Sy) (n : Int) : getC s n .qu = if n < 0 then none else s.queues[n.toNat]?.map .qu := rfl
theorem getC_gr (s : Sy) (n : Int) : getC s n .gr = if n < 0 then none else s.groups[n.toNat]?.map .gr := rfl
def putC (s : Sy) (n : Int) : Kd → Cel → Sy
  | .lk, .lk l => ⟨s.locks.set n.toNat l, s.queues, s.groups⟩
  | .qu, .qu u => ⟨s.locks, s.queues.set n.toNat u, s.groups⟩
  | .gr, .gr g => ⟨s.locks, s.queues, s.groups.set n.toNat g⟩
  | _, _ => s
/-- What is done to one object. -/
structure Ax where
  kd : Kd
  at_ : Int
  f : Cel → Cel × Int × List Int
def doA (s : Sy) (a : Ax) : Sy × Int × List Int := match getC s a.at_ a.kd with
  | none => (s, 4, [])
  | some c => (putC s a.at_ a.kd (a.f c).1, (a.f c).2.1, (a.f c).2.2)
def lkA (F : Lk → Int × Lk) : Cel → Cel × Int × List Int
  | .lk l => (.lk (F l).2, (F l).1, [])
  | c => (c, 0, [])
def quA (F : Qu → Int × Qu) : Cel → Cel × Int × List Int
  | .qu u => (.qu (F u).2, (F u).1, [])
  | c => (c, 0, [])
def rcA : Cel → Cel × Int × List Int
  | .qu u => (.qu (recvF u).2, (recvF u).1, if (recvF u).1 = 0 then [if decide (0 < u.items.length) = true then u.items.headD 0 else -1] else [])
  | c => (c, 0, [])
def grA (v : Int) : Cel → Cel × Int × List Int
  | .gr g => if v < -g ∨ 1000 - g < v then (.gr g, 7, []) else (.gr (g + v), 0, [])
  | c => (c, 0, [])
/-- What an instruction does. -/
def axOf (t : Int) (x : Ins) : Ax :=
  if x.op = 0 then ⟨.no, 0, fun c => (c, 0, [x.val])⟩
  else if x.op = 1 then ⟨.lk, x.obj, lkA (lockF t)⟩
  else if x.op = 2 then ⟨.lk, x.obj, lkA (unlockF t)⟩
  else if x.op = 3 then ⟨.lk, x.obj, lkA (rlockF t)⟩
  else if x.op = 4 then ⟨.lk, x.obj, lkA (runlockF t)⟩
  else if x.op = 5 then ⟨.qu, x.obj, quA (sendF x.val)⟩
  else if x.op = 6 then ⟨.qu, x.obj, rcA⟩
  else if x.op = 7 then ⟨.qu, x.obj, quA shutF⟩
  else if x.op = 8 then ⟨.gr, x.obj, grA x.val⟩
  else if x.op = 9 then ⟨.gr, x.obj, grA (-1)⟩
  else ⟨.no, 0, fun c => (c, 0, [])⟩
theorem set_self {α : Type} {l : List α} {i : Nat} {x : α} (h : l[i]? = some x) : l.set i x = l := by
  apply List.ext_getElem?
  intro j
  rw [List.getElem?_set]
  split
  · rename_i e
    subst e
    rw [if_pos (List.getElem?_eq_some_iff.1 h).1, h]
  · rfl
theorem range_some {α : Type} {l : List α} {n : Int} (h : ¬ (n < 0 ∨ (l.length : Int) ≤ n)) : ∃ x, l[n.toNat]? = some x := ⟨_, List.getElem?_eq_getElem (by omega)⟩
theorem range_none {α : Type} {l : List α} {n : Int} (h : n < 0 ∨ (l.length : Int) ≤ n) (h0 : ¬ n < 0) : l[n.toNat]? = none := List.getElem?_eq_none (by omega)
theorem onLock_run (s : Sy) (n t : Int) (F : Lk → Int × Lk) (hc : chk s = 0) (ht : inT t = true) (hF : ∀ l, (F l).1 ≠ 0 → (F l).2 = l) : onLock s n t F = ((doA s ⟨.lk, n, lkA F⟩).1, (doA s ⟨.lk, n, lkA F⟩).2.1) ∧ (doA s ⟨.lk, n, lkA F⟩).2.2 = [] := by
  by_cases hr : n < 0 ∨ (s.locks.length : Int) ≤ n
  · have hk : known s n t = 4 := by unfold known; rw [if_neg (by simp [hc]), if_pos hr]
    have hg : getC s n .lk = none := by
      rw [getC_lk]
      by_cases h0 : n < 0
      · rw [if_pos h0]
      · rw [if_neg h0, range_none hr h0]; rfl
    unfold onLock doA
    rw [hk, hg]
    simp
  · have hk : known s n t = 0 := by unfold known; rw [if_neg (by simp [hc]), if_neg hr, if_pos ht]
    obtain ⟨l, hl⟩ := range_some hr
    have hg : getC s n .lk = some (.lk l) := by rw [getC_lk]; rw [if_neg (by omega), hl]; rfl
    have hd : s.locks.getD n.toNat default = l := by rw [List.getD_eq_getElem?_getD, hl]; rfl
    unfold onLock doA
    rw [hk, hg, hd]
    simp only [ne_eq, not_true_eq_false, if_false, lkA, putC]
    by_cases he : (F l).1 = 0
    · simp [he]
    · simp only [he, not_false_eq_true, if_true, hF l he, set_self hl, and_self]
theorem onQueue_run (s : Sy) (n : Int) (F : Qu → Int × Qu) (hc : chk s = 0) (hF : ∀ l, (F l).1 ≠ 0 → (F l).2 = l) : onQueue s n F = ((doA s ⟨.qu, n, quA F⟩).1, (doA s ⟨.qu, n, quA F⟩).2.1) ∧ (doA s ⟨.qu, n, quA F⟩).2.2 = [] := by
  by_cases hr : n < 0 ∨ (s.queues.length : Int) ≤ n
  · have hk : queueE s n = 4 := by unfold queueE; rw [if_neg (by simp [hc]), if_pos hr]
    have hg : getC s n .qu = none := by
      rw [getC_qu]
      by_cases h0 : n < 0
      · rw [if_pos h0]
      · rw [if_neg h0, range_none hr h0]; rfl
    unfold onQueue doA
    rw [hk, hg]
    simp
  · have hk : queueE s n = 0 := by unfold queueE; rw [if_neg (by simp [hc]), if_neg hr]
    obtain ⟨l, hl⟩ := range_some hr
    have hg : getC s n .qu = some (.qu l) := by rw [getC_qu]; rw [if_neg (by omega), hl]; rfl
    have hd : s.queues.getD n.toNat default = l := by rw [List.getD_eq_getElem?_getD, hl]; rfl
    unfold onQueue doA
    rw [hk, hg, hd]
    simp only [ne_eq, not_true_eq_false, if_false, quA, putC]
    by_cases he : (F l).1 = 0
    · simp [he]
    · simp only [he, not_false_eq_true, if_true, hF l he, set_self hl, and_self]
theorem recvF_same : ∀ l, (recvF l).1 ≠ 0 → (recvF l).2 = l := fun l h => by
  unfold recvF at h ⊢
  repeat' split
  all_goals simp_all
theorem recv_run (s : Sy) (n : Int) (hc : chk s = 0) : onQueue s n recvF = ((doA s ⟨.qu, n, rcA⟩).1, (doA s ⟨.qu, n, rcA⟩).2.1) ∧ (doA s ⟨.qu, n, rcA⟩).2.2 = if (onQueue s n recvF).2 = 0 then [if recvB s n = true then recvV s n else -1] else [] := by
  obtain ⟨h1, _⟩ := onQueue_run s n recvF hc recvF_same
  have e : (doA s ⟨.qu, n, rcA⟩).1 = (doA s ⟨.qu, n, quA recvF⟩).1 ∧ (doA s ⟨.qu, n, rcA⟩).2.1 = (doA s ⟨.qu, n, quA recvF⟩).2.1 := by
    unfold doA
    dsimp only
    cases hg : getC s n .qu with
    | none => exact ⟨rfl, rfl⟩
    | some c => cases c <;> exact ⟨rfl, rfl⟩
  refine ⟨by rw [e.1, e.2]; exact h1, ?_⟩
  by_cases hr : n < 0 ∨ (s.queues.length : Int) ≤ n
  · have hk : queueE s n = 4 := by unfold queueE; rw [if_neg (by simp [hc]), if_pos hr]
    have hg : getC s n .qu = none := by
      rw [getC_qu]
      by_cases h0 : n < 0
      · rw [if_pos h0]
      · rw [if_neg h0, range_none hr h0]; rfl
    unfold onQueue doA
    rw [hk, hg]
    simp
  · have hk : queueE s n = 0 := by unfold queueE; rw [if_neg (by simp [hc]), if_neg hr]
    obtain ⟨l, hl⟩ := range_some hr
    have hg : getC s n .qu = some (.qu l) := by rw [getC_qu]; rw [if_neg (by omega), hl]; rfl
    have hd : s.queues.getD n.toNat default = l := by rw [List.getD_eq_getElem?_getD, hl]; rfl
    unfold onQueue doA recvB recvV
    rw [hk, hg, hd]
    simp only [ne_eq, not_true_eq_false, if_false, rcA, if_true]
    by_cases he : (recvF l).1 = 0
    · simp [he]
    · simp [he]
theorem addS_run (s : Sy) (n v : Int) (hc : chk s = 0) : addS s n v = ((doA s ⟨.gr, n, grA v⟩).1, (doA s ⟨.gr, n, grA v⟩).2.1) ∧ (doA s ⟨.gr, n, grA v⟩).2.2 = [] := by
  by_cases hr : n < 0 ∨ (s.groups.length : Int) ≤ n
  · have hk : groupE s n = 4 := by unfold groupE; rw [if_neg (by simp [hc]), if_pos hr]
    have hg : getC s n .gr = none := by
      rw [getC_gr]
      by_cases h0 : n < 0
      · rw [if_pos h0]
      · rw [if_neg h0, range_none hr h0]; rfl
    unfold addS doA
    rw [hk, hg]
    simp
  · have hk : groupE s n = 0 := by unfold groupE; rw [if_neg (by simp [hc]), if_neg hr]
    obtain ⟨l, hl⟩ := range_some hr
    have hg : getC s n .gr = some (.gr l) := by rw [getC_gr]; rw [if_neg (by omega), hl]; rfl
    have hd : s.groups.getD n.toNat 0 = l := by rw [List.getD_eq_getElem?_getD, hl]; rfl
    unfold addS doA
    rw [hk, hg, hd]
    simp only [ne_eq, not_true_eq_false, if_false, grA]
    split
    · simp only [putC, set_self hl, and_self]
    · simp only [putC, and_self]
theorem lockF_same (t : Int) : ∀ l, (lockF t l).1 ≠ 0 → (lockF t l).2 = l := fun l h => by
  unfold lockF at h ⊢
  repeat' split
  all_goals simp_all
theorem unlockF_same (t : Int) : ∀ l, (unlockF t l).1 ≠ 0 → (unlockF t l).2 = l := fun l h => by
  unfold unlockF at h ⊢
  repeat' split
  all_goals simp_all
theorem rlockF_same (t : Int) : ∀ l, (rlockF t l).1 ≠ 0 → (rlockF t l).2 = l := fun l h => by
  unfold rlockF at h ⊢
  repeat' split
  all_goals simp_all
theorem runlockF_same (t : Int) : ∀ l, (runlockF t l).1 ≠ 0 → (runlockF t l).2 = l := fun l h => by
  unfold runlockF at h ⊢
  repeat' split
  all_goals simp_all
theorem sendF_same (t : Int) : ∀ l, (sendF t l).1 ≠ 0 → (sendF t l).2 = l := fun l h => by
  unfold sendF at h ⊢
  repeat' split
  all_goals simp_all
theorem shutF_same : ∀ l, (shutF l).1 ≠ 0 → (shutF l).2 = l := fun l h => by
  unfold shutF at h ⊢
  repeat' split
  all_goals simp_all
theorem act_run {b : Bn} (hc : chk b.s = 0) {t : Int} (ht : inT t = true) (x : Ins) : actB b t x = (⟨(doA b.s (axOf t x)).1, b.rs ++ (doA b.s (axOf t x)).2.2.map fun v => ⟨t, v, 0⟩⟩, (doA b.s (axOf t x)).2.1) := by
  unfold actB axOf
  by_cases h0 : x.op = 0
  · rw [if_pos h0, if_pos h0]
    simp [noteB, doA, getC, putC]
  rw [if_neg h0, if_neg h0]
  by_cases h1 : x.op = 1
  · rw [if_pos h1, if_pos h1]
    obtain ⟨h1, h2⟩ := onLock_run b.s x.obj t (lockF t) hc ht (lockF_same t)
    simp [h1, h2]
  rw [if_neg h1, if_neg h1]
  by_cases h2 : x.op = 2
  · rw [if_pos h2, if_pos h2]
    obtain ⟨h1, h2⟩ := onLock_run b.s x.obj t (unlockF t) hc ht (unlockF_same t)
    simp [h1, h2]
  rw [if_neg h2, if_neg h2]
  by_cases h3 : x.op = 3
  · rw [if_pos h3, if_pos h3]
    obtain ⟨h1, h2⟩ := onLock_run b.s x.obj t (rlockF t) hc ht (rlockF_same t)
    simp [h1, h2]
  rw [if_neg h3, if_neg h3]
  by_cases h4 : x.op = 4
  · rw [if_pos h4, if_pos h4]
    obtain ⟨h1, h2⟩ := onLock_run b.s x.obj t (runlockF t) hc ht (runlockF_same t)
    simp [h1, h2]
  rw [if_neg h4, if_neg h4]
  by_cases h5 : x.op = 5
  · rw [if_pos h5, if_pos h5]
    obtain ⟨h1, h2⟩ := onQueue_run b.s x.obj (sendF x.val) hc (sendF_same x.val)
    simp [h1, h2]
  rw [if_neg h5, if_neg h5]
  by_cases h6 : x.op = 6
  · rw [if_pos h6, if_pos h6]
    obtain ⟨h1, h2⟩ := recv_run b.s x.obj hc
    rw [h2, h1]
    dsimp only
    split <;> simp
  rw [if_neg h6, if_neg h6]
  by_cases h7 : x.op = 7
  · rw [if_pos h7, if_pos h7]
    obtain ⟨h1, h2⟩ := onQueue_run b.s x.obj shutF hc shutF_same
    simp [h1, h2]
  rw [if_neg h7, if_neg h7]
  by_cases h8 : x.op = 8
  · rw [if_pos h8, if_pos h8]
    obtain ⟨h1, h2⟩ := addS_run b.s x.obj x.val hc
    simp [h1, h2]
  rw [if_neg h8, if_neg h8]
  by_cases h9 : x.op = 9
  · rw [if_pos h9, if_pos h9]
    obtain ⟨h1, h2⟩ := addS_run b.s x.obj (-1) hc
    simp [h1, h2]
  rw [if_neg h9, if_neg h9]
  simp [doA, getC, putC]
theorem get_put {s : Sy} {n n' : Int} {k k' : Kd} {c : Cel} (hn : k = .no ∨ 0 ≤ n) (hn' : k' = .no ∨ 0 ≤ n') (h : ¬ (k = k' ∧ n = n') ∨ k = .no) : getC (putC s n k c) n' k' = getC s n' k' := by
  cases k <;> cases k' <;> cases c <;> simp only [putC, getC] <;> simp at hn hn' h <;>
  · rw [List.getElem?_set_ne (by omega)]
theorem put_put {s : Sy} {n n' : Int} {k k' : Kd} {c c' : Cel} (hn : k = .no ∨ 0 ≤ n) (hn' : k' = .no ∨ 0 ≤ n') (h : ¬ (k = k' ∧ n = n') ∨ k = .no) : putC (putC s n k c) n' k' c' = putC (putC s n' k' c') n k c := by
  cases k <;> cases k' <;> cases c <;> cases c' <;> simp only [putC] <;> simp at hn hn' h <;>
  · rw [List.set_comm _ _ (by omega)]
theorem get_nat {s : Sy} {n : Int} {k : Kd} {c : Cel} (h : getC s n k = some c) : k = .no ∨ 0 ≤ n := by
  cases k <;> simp [getC] at h ⊢ <;> omega
/-- What is done to different objects. -/
theorem run_get {s : Sy} {a a' : Ax} (h : ¬ (a.kd = a'.kd ∧ a.at_ = a'.at_) ∨ a.kd = .no) : getC (doA s a).1 a'.at_ a'.kd = getC s a'.at_ a'.kd := by
  unfold doA
  cases hg : getC s a.at_ a.kd with
  | none => rfl
  | some c =>
    by_cases h' : a'.kd = .no ∨ 0 ≤ a'.at_
    · exact get_put (get_nat hg) h' h
    · have h2 : a'.at_ < 0 := by
        have : ¬ 0 ≤ a'.at_ := fun e => h' (.inr e)
        omega
      cases hk : a'.kd <;> simp [getC, h2]
theorem run_res {s u : Sy} {a : Ax} (h : getC s a.at_ a.kd = getC u a.at_ a.kd) : (doA s a).2 = (doA u a).2 := by
  unfold doA
  rw [h]
  cases getC u a.at_ a.kd <;> rfl
theorem run_comm {s : Sy} {a a' : Ax} (h : ¬ (a.kd = a'.kd ∧ a.at_ = a'.at_) ∨ a.kd = .no) : (doA (doA s a).1 a').2 = (doA s a').2 ∧ (doA (doA s a').1 a).2 = (doA s a).2 ∧ (doA (doA s a).1 a').1 = (doA (doA s a').1 a).1 := by
  have h' : ¬ (a'.kd = a.kd ∧ a'.at_ = a.at_) ∨ a'.kd = .no := by
    rcases h with h | h
    · exact .inl fun e => h ⟨e.1.symm, e.2.symm⟩
    · by_cases e : a'.kd = .no
      · exact .inr e
      · exact .inl fun e2 => e (e2.1.trans h)
  have g1 := run_get (s := s) h
  have g2 := run_get (s := s) h'
  refine ⟨run_res g1, run_res g2, ?_⟩
  have e1 : (doA (doA s a).1 a').1 = match getC s a'.at_ a'.kd with
      | none => (doA s a).1
      | some c => putC (doA s a).1 a'.at_ a'.kd (a'.f c).1 := by
    rw [← g1]
    show (match getC (doA s a).1 a'.at_ a'.kd with
      | none => ((doA s a).1, 4, [])
      | some c => (putC (doA s a).1 a'.at_ a'.kd (a'.f c).1, (a'.f c).2.1, (a'.f c).2.2)).1 = _
    cases getC (doA s a).1 a'.at_ a'.kd <;> rfl
  have e2 : (doA (doA s a').1 a).1 = match getC s a.at_ a.kd with
      | none => (doA s a').1
      | some c => putC (doA s a').1 a.at_ a.kd (a.f c).1 := by
    rw [← g2]
    show (match getC (doA s a').1 a.at_ a.kd with
      | none => ((doA s a').1, 4, [])
      | some c => (putC (doA s a').1 a.at_ a.kd (a.f c).1, (a.f c).2.1, (a.f c).2.2)).1 = _
    cases getC (doA s a').1 a.at_ a.kd <;> rfl
  rw [e1, e2]
  unfold doA
  cases hg : getC s a.at_ a.kd with
  | none =>
    cases hg' : getC s a'.at_ a'.kd with
    | none => rfl
    | some c' => rfl
  | some c =>
    cases hg' : getC s a'.at_ a'.kd with
    | none => rfl
    | some c' => exact put_put (get_nat hg) (get_nat hg') h
theorem asc_ext : ∀ {l m : List Int}, asc l = true → asc m = true → (∀ x, x ∈ l ↔ x ∈ m) → l = m
  | [], [], _, _, _ => rfl
  | [], y :: m, _, _, h => by have := (h y).2 (by simp); cases this
  | x :: l, [], _, _, h => by have := (h x).1 (by simp); cases this
  | x :: l, y :: m, hl, hm, h => by
    have h1 := Lo.asc_hd hl
    have h2 := Lo.asc_hd hm
    have e : x = y := by
      rcases List.mem_cons.1 ((h x).1 (by simp)) with e | hx
      · exact e
      · rcases List.mem_cons.1 ((h y).2 (by simp)) with e | hy
        · exact e.symm
        · have := h1 y hy; have := h2 x hx; omega
    subst e
    rw [asc_ext (Lo.asc_tl hl) (Lo.asc_tl hm) fun z => ?_]
    constructor
    · intro hz
      rcases List.mem_cons.1 ((h z).1 (by simp [hz])) with e | h3
      · have := h1 z hz; omega
      · exact h3
    · intro hz
      rcases List.mem_cons.1 ((h z).2 (by simp [hz])) with e | h3
      · have := h2 z hz; omega
      · exact h3
/-- A reader comes, or goes. -/
def rdF (c : Bool) (t : Int) : Lk → Int × Lk := if c then rlockF t else runlockF t
theorem erase_mem {t y : Int} {l : List Int} (h : asc l = true) (ht : t ∈ l) : y ∈ l.eraseIdx (lower t l) ↔ y ∈ l ∧ y ≠ t := by
  rw [← Lo.filter_lower h ht]
  simp
theorem rdF_hold (c : Bool) (t : Int) (l : Lk) : (rdF c t l).2.hold = l.hold := by
  cases c
  · show (runlockF t l).2.hold = _
    unfold runlockF; split <;> rfl
  · show (rlockF t l).2.hold = _
    unfold rlockF; repeat' split
    all_goals rfl
theorem rdF_asc (c : Bool) (t : Int) {l : Lk} (h : asc l.rd = true) : asc (rdF c t l).2.rd = true := by
  cases c
  · show asc (runlockF t l).2.rd = _
    unfold runlockF
    split
    · exact Lo.asc_erase _ h
    · exact h
  · show asc (rlockF t l).2.rd = _
    unfold rlockF hasT
    split
    · exact h
    · rename_i hh
      split
      · exact h
      · simp at hh
        exact Lo.asc_putIn h hh.2
theorem rdF_mem (c : Bool) (t : Int) {l : Lk} (h : asc l.rd = true) (y : Int) (hy : y ≠ t) : y ∈ (rdF c t l).2.rd ↔ y ∈ l.rd := by
  cases c
  · show y ∈ (runlockF t l).2.rd ↔ _
    unfold runlockF
    split
    · rename_i ht
      rw [erase_mem h ht]; simp [hy]
    · rfl
  · show y ∈ (rlockF t l).2.rd ↔ _
    unfold rlockF
    repeat' split
    · rfl
    · rfl
    · show y ∈ putIn t l.rd ↔ _
      rw [Lo.putIn_mem]; simp [hy]
theorem rdF_same (c : Bool) (t : Int) {l m : Lk} (hh : m.hold = l.hold) (hm : t ∈ m.rd ↔ t ∈ l.rd) (h1 : asc l.rd = true) (h2 : asc m.rd = true) : (rdF c t m).1 = (rdF c t l).1 ∧ (t ∈ (rdF c t m).2.rd ↔ t ∈ (rdF c t l).2.rd) := by
  cases c
  · show (runlockF t m).1 = (runlockF t l).1 ∧ (t ∈ (runlockF t m).2.rd ↔ t ∈ (runlockF t l).2.rd)
    unfold runlockF
    by_cases ht : t ∈ l.rd
    · rw [if_pos ht, if_pos (hm.2 ht)]
      refine ⟨rfl, ?_⟩
      dsimp only
      rw [erase_mem h1 ht, erase_mem h2 (hm.2 ht)]; simp
    · rw [if_neg ht, if_neg fun e => ht (hm.1 e)]
      exact ⟨rfl, hm⟩
  · show (rlockF t m).1 = (rlockF t l).1 ∧ (t ∈ (rlockF t m).2.rd ↔ t ∈ (rlockF t l).2.rd)
    have e : hasT t m = hasT t l := by unfold hasT; rw [hh]; simp [hm]
    unfold rlockF
    rw [e, hh]
    split
    · exact ⟨rfl, hm⟩
    · split
      · exact ⟨rfl, hm⟩
      · refine ⟨rfl, ?_⟩
        dsimp only
        rw [Lo.putIn_mem, Lo.putIn_mem]; simp
theorem rdF_comm (c c' : Bool) {t t' : Int} (hne : t ≠ t') {l : Lk} (h : asc l.rd = true) : (rdF c' t' (rdF c t l).2).1 = (rdF c' t' l).1 ∧ (rdF c' t' (rdF c t l).2).2 = (rdF c t (rdF c' t' l).2).2 := by
  have a1 := rdF_asc c t h
  have a2 := rdF_asc c' t' h
  have m1 := rdF_mem c t h t' (fun e => hne e.symm)
  have m2 := rdF_mem c' t' h t hne
  have s1 := rdF_same c' t' (rdF_hold c t l) m1 h a1
  have s2 := rdF_same c t (rdF_hold c' t' l) m2 h a2
  refine ⟨s1.1, ?_⟩
  have eh : (rdF c' t' (rdF c t l).2).2.hold = (rdF c t (rdF c' t' l).2).2.hold := by rw [rdF_hold, rdF_hold, rdF_hold, rdF_hold]
  have er : (rdF c' t' (rdF c t l).2).2.rd = (rdF c t (rdF c' t' l).2).2.rd := by
    refine asc_ext (rdF_asc _ _ a1) (rdF_asc _ _ a2) fun y => ?_
    by_cases h1 : y = t
    · subst h1
      rw [rdF_mem c' t' a1 y hne, s2.2]
    · by_cases h2 : y = t'
      · subst h2
        rw [rdF_mem c t a2 y h1, s1.2]
      · rw [rdF_mem c' t' a1 y h2, rdF_mem c t h y h1, rdF_mem c t a2 y h1, rdF_mem c' t' h y h2]
  generalize (rdF c' t' (rdF c t l).2).2 = u at eh er ⊢
  generalize (rdF c t (rdF c' t' l).2).2 = v at eh er ⊢
  cases u; cases v
  simp at eh er
  rw [eh, er]
/-- The object that an instruction uses. -/
theorem ax_use {t : Int} {x : Ins} : (axOf t x).kd = .no ∨ ∃ o w, usesI x = [⟨o, w⟩] ∧ ((axOf t x).kd = .lk ∧ o = x.obj ∧ (axOf t x).at_ = x.obj ∧ (w = false → ∃ c, (axOf t x).f = lkA (rdF c t)) ∨ (axOf t x).kd = .qu ∧ o = IntKind.i64.wrap (100 + x.obj) ∧ (axOf t x).at_ = x.obj ∧ w = true ∨ (axOf t x).kd = .gr ∧ o = IntKind.i64.wrap (200 + x.obj) ∧ (axOf t x).at_ = x.obj ∧ w = true) := by
  unfold axOf usesI
  by_cases h0 : x.op = 0
  · simp [h0]
  by_cases h1 : x.op = 1
  · simp [h1]
  by_cases h2 : x.op = 2
  · simp [h2]
  by_cases h3 : x.op = 3
  · simp [h3]; exact .inr rfl
  by_cases h4 : x.op = 4
  · simp [h4]; exact .inl rfl
  by_cases h5 : x.op = 5
  · simp [h5]
  by_cases h6 : x.op = 6
  · simp [h6]
  by_cases h7 : x.op = 7
  · simp [h7]
  by_cases h8 : x.op = 8
  · simp [h8]
  by_cases h9 : x.op = 9
  · simp [h9]
  · simp [h0, h1, h2, h3, h4, h5, h6, h7, h8, h9]
theorem not_clash {o o' : Int} {w w' : Bool} (h : indy [⟨o, w⟩] [⟨o', w'⟩] = true) (e : o = o') : w = false ∧ w' = false := by
  subst e
  simpa [indy, clash] using h
/-- Independent instructions of two tasks. -/
theorem ax_comm {s : Sy} (hc : chk s = 0) {t t' : Int} (hne : t ≠ t') {x y : Ins} (hi : indy (usesI x) (usesI y) = true) :
    (doA (doA s (axOf t x)).1 (axOf t' y)).2 = (doA s (axOf t' y)).2 ∧ (doA (doA s (axOf t' y)).1 (axOf t x)).2 = (doA s (axOf t x)).2 ∧ (doA (doA s (axOf t x)).1 (axOf t' y)).1 = (doA (doA s (axOf t' y)).1 (axOf t x)).1 := by
  rcases ax_use (t := t) (x := x) with h1 | ⟨o, w, e1, h1⟩
  · exact run_comm (.inr h1)
  rcases ax_use (t := t') (x := y) with h2 | ⟨o', w', e2, h2⟩
  · obtain ⟨g1, g2, g3⟩ := run_comm (s := s) (a := axOf t' y) (a' := axOf t x) (.inr h2)
    exact ⟨g2, g1, g3.symm⟩
  rw [e1, e2] at hi
  by_cases hd : (axOf t x).kd = (axOf t' y).kd ∧ (axOf t x).at_ = (axOf t' y).at_
  · rcases h1 with ⟨k1, o1, p1, w1⟩ | ⟨k1, o1, p1, w1⟩ | ⟨k1, o1, p1, w1⟩ <;> rcases h2 with ⟨k2, o2, p2, w2⟩ | ⟨k2, o2, p2, w2⟩ | ⟨k2, o2, p2, w2⟩ <;> (try (rw [k1, k2] at hd; exact absurd hd.1 (by decide)))
    · have ho : o = o' := by rw [o1, o2, ← p1, ← p2, hd.2]
      obtain ⟨rfl, rfl⟩ := not_clash hi ho
      obtain ⟨c, ec⟩ := w1 rfl
      obtain ⟨c', ec'⟩ := w2 rfl
      have ea : axOf t x = ⟨.lk, x.obj, lkA (rdF c t)⟩ := by
        have : axOf t x = ⟨(axOf t x).kd, (axOf t x).at_, (axOf t x).f⟩ := rfl
        rw [this, k1, p1, ec]
      have eb : axOf t' y = ⟨.lk, x.obj, lkA (rdF c' t')⟩ := by
        have : axOf t' y = ⟨(axOf t' y).kd, (axOf t' y).at_, (axOf t' y).f⟩ := rfl
        rw [this, k2, ← hd.2, p1, ec']
      rw [ea, eb]
      by_cases hr : x.obj < 0
      · have g : ∀ u : Sy, getC u x.obj .lk = none := fun u => by simp [getC, hr]
        simp [doA, g]
      cases hl : s.locks[x.obj.toNat]? with
      | none =>
        have g : getC s x.obj .lk = none := by simp [getC, hr, hl]
        simp [doA, g]
      | some l =>
        have hm := List.mem_of_getElem? hl
        have hlt := (List.getElem?_eq_some_iff.1 hl).1
        have ha := (Lo.chk_lock hc hm).1
        have r1 := rdF_comm c c' hne ha
        have r2 := rdF_comm c' c (fun e => hne e.symm) ha
        have g : getC s x.obj .lk = some (.lk l) := by simp [getC, hr, hl]
        have g2 : ∀ m : Lk, getC ⟨s.locks.set x.obj.toNat m, s.queues, s.groups⟩ x.obj .lk = some (.lk m) := fun m => by simp [getC, hr, hlt]
        simp only [doA, g, lkA, putC, g2, r1.1, r2.1, List.set_set, r1.2, and_self]
    · have ho : o = o' := by rw [o1, o2, ← p1, ← p2, hd.2]
      have := (not_clash hi ho).1
      rw [w1] at this; cases this
    · have ho : o = o' := by rw [o1, o2, ← p1, ← p2, hd.2]
      have := (not_clash hi ho).1
      rw [w1] at this; cases this
  · exact run_comm (.inl hd)
/-- What an instruction waits for stays. -/
theorem can_stays {s : Sy} (hc : chk s = 0) {t : Int} {x y : Ins} (hc2 : chk (doA s (axOf t x)).1 = 0) (hi : indy (usesI x) (usesI y) = true) (rs rs' : List Rc) : canX ⟨(doA s (axOf t x)).1, rs⟩ (waitB y) = canX ⟨s, rs'⟩ (waitB y) := by
  have key : ∀ (k : Kd) (o : Int) (w : Bool), usesI y = [⟨o, w⟩] → (k = .lk ∧ o = y.obj ∨ k = .qu ∧ o = IntKind.i64.wrap (100 + y.obj) ∨ k = .gr ∧ o = IntKind.i64.wrap (200 + y.obj)) → getC (doA s (axOf t x)).1 y.obj k = getC s y.obj k ∨ (k = .lk ∧ w = false ∧ ∃ c, axOf t x = ⟨.lk, y.obj, lkA (rdF c t)⟩) := by
    intro k o w e h
    have g := fun h => run_get (s := s) (a := axOf t x) (a' := ⟨k, y.obj, fun c => (c, 0, [])⟩) h
    rcases ax_use (t := t) (x := x) with h1 | ⟨o', w', e1, h1⟩
    · exact .inl (g (.inr h1))
    rw [e, e1] at hi
    by_cases hd : (axOf t x).kd = k ∧ (axOf t x).at_ = y.obj
    · rcases h1 with ⟨k1, o1, p1, w1⟩ | ⟨k1, o1, p1, w1⟩ | ⟨k1, o1, p1, w1⟩ <;> rcases h with ⟨k2, o2⟩ | ⟨k2, o2⟩ | ⟨k2, o2⟩ <;> (try (rw [k1, k2] at hd; exact absurd hd.1 (by decide)))
      · have ho : o' = o := by rw [o1, o2, ← p1, hd.2]
        obtain ⟨rfl, rfl⟩ := not_clash hi ho
        obtain ⟨c, ec⟩ := w1 rfl
        refine .inr ⟨k2, rfl, c, ?_⟩
        have : axOf t x = ⟨(axOf t x).kd, (axOf t x).at_, (axOf t x).f⟩ := rfl
        rw [this, k1, hd.2, ec]
      · have ho : o' = o := by rw [o1, o2, ← p1, hd.2]
        have := (not_clash hi ho).1
        rw [w1] at this; cases this
      · have ho : o' = o := by rw [o1, o2, ← p1, hd.2]
        have := (not_clash hi ho).1
        rw [w1] at this; cases this
    · exact .inl (g (.inl hd))
  generalize hu : (doA s (axOf t x)).1 = u at key hc2
  have locks : ∀ {n : Int}, getC u n .lk = getC s n .lk → (n < 0 ∨ (u.locks.length : Int) ≤ n ↔ n < 0 ∨ (s.locks.length : Int) ≤ n) ∧ (¬ n < 0 → u.locks[n.toNat]? = s.locks[n.toNat]?) := by
    intro n e
    by_cases h0 : n < 0
    · simp [h0]
    · simp only [getC, if_neg h0] at e
      have e' : u.locks[n.toNat]? = s.locks[n.toNat]? := by
        cases h1 : u.locks[n.toNat]? <;> cases h2 : s.locks[n.toNat]? <;> rw [h1, h2] at e <;> simp at e ⊢
        exact e
      refine ⟨?_, fun _ => e'⟩
      have : (u.locks.length ≤ n.toNat) ↔ (s.locks.length ≤ n.toNat) := by rw [← List.getElem?_eq_none_iff, ← List.getElem?_eq_none_iff, e']
      omega
  have queues : ∀ {n : Int}, getC u n .qu = getC s n .qu → (n < 0 ∨ (u.queues.length : Int) ≤ n ↔ n < 0 ∨ (s.queues.length : Int) ≤ n) ∧ (¬ n < 0 → u.queues[n.toNat]? = s.queues[n.toNat]?) := by
    intro n e
    by_cases h0 : n < 0
    · simp [h0]
    · simp only [getC, if_neg h0] at e
      have e' : u.queues[n.toNat]? = s.queues[n.toNat]? := by
        cases h1 : u.queues[n.toNat]? <;> cases h2 : s.queues[n.toNat]? <;> rw [h1, h2] at e <;> simp at e ⊢
        exact e
      refine ⟨?_, fun _ => e'⟩
      have : (u.queues.length ≤ n.toNat) ↔ (s.queues.length ≤ n.toNat) := by rw [← List.getElem?_eq_none_iff, ← List.getElem?_eq_none_iff, e']
      omega
  have groups : ∀ {n : Int}, getC u n .gr = getC s n .gr → (n < 0 ∨ (u.groups.length : Int) ≤ n ↔ n < 0 ∨ (s.groups.length : Int) ≤ n) ∧ (¬ n < 0 → u.groups[n.toNat]? = s.groups[n.toNat]?) := by
    intro n e
    by_cases h0 : n < 0
    · simp [h0]
    · simp only [getC, if_neg h0] at e
      have e' : u.groups[n.toNat]? = s.groups[n.toNat]? := by
        cases h1 : u.groups[n.toNat]? <;> cases h2 : s.groups[n.toNat]? <;> rw [h1, h2] at e <;> simp at e ⊢
        exact e
      refine ⟨?_, fun _ => e'⟩
      have : (u.groups.length ≤ n.toNat) ↔ (s.groups.length ≤ n.toNat) := by rw [← List.getElem?_eq_none_iff, ← List.getElem?_eq_none_iff, e']
      omega
  unfold canX enabledB thereS Lo.thereN
  rw [hc, hc2]
  unfold waitB
  by_cases h1 : y.op = 1
  · rcases key .lk y.obj true (by simp [usesI, h1]) (.inl ⟨rfl, rfl⟩) with g | ⟨_, g, _⟩
    · obtain ⟨l1, l2⟩ := locks g
      by_cases hr : y.obj < 0 ∨ (s.locks.length : Int) ≤ y.obj
      · simp [h1, hr, l1.2 hr]
      · have hr' := mt l1.1 hr
        have e := l2 fun e => hr (.inl e)
        simp [h1, hr, hr', e]
    · cases g
  by_cases h3 : y.op = 3
  · rcases key .lk y.obj false (by simp [usesI, h3]) (.inl ⟨rfl, rfl⟩) with g | ⟨_, _, c, g⟩
    · obtain ⟨l1, l2⟩ := locks g
      by_cases hr : y.obj < 0 ∨ (s.locks.length : Int) ≤ y.obj
      · simp [h3, hr, l1.2 hr]
      · have hr' := mt l1.1 hr
        have e := l2 fun e => hr (.inl e)
        simp [h3, hr, hr', e]
    · have hlen : u.locks.length = s.locks.length := by
        rw [← hu, g]; unfold doA; dsimp only
        cases hg : getC s y.obj .lk with
        | none => rfl
        | some c' => cases c' <;> simp [lkA, putC]
      have hh : (u.locks.getD y.obj.toNat default).hold = (s.locks.getD y.obj.toNat default).hold := by
        rw [← hu, g]; unfold doA; dsimp only
        cases hg : getC s y.obj .lk with
        | none => rfl
        | some c' =>
          cases c' with
          | lk l =>
            simp only [getC] at hg
            split at hg
            · cases hg
            · obtain ⟨l', e1, e2⟩ := Option.map_eq_some_iff.1 hg
              cases e2
              have hlt := (List.getElem?_eq_some_iff.1 e1).1
              simp only [lkA, putC, List.getD_eq_getElem?_getD, List.getElem?_set_self hlt, e1, Option.getD_some, rdF_hold]
          | _ => rfl
      by_cases hr : y.obj < 0 ∨ (s.locks.length : Int) ≤ y.obj
      · simp [h3, hr, hlen]
      · rw [List.getD_eq_getElem?_getD, List.getD_eq_getElem?_getD] at hh
        simp [h3, hr, hlen, hh]
  by_cases h5 : y.op = 5
  · rcases key .qu _ true (by simp [usesI, h5]) (.inr (.inl ⟨rfl, rfl⟩)) with g | ⟨g, _⟩
    · obtain ⟨l1, l2⟩ := queues g
      by_cases hr : y.obj < 0 ∨ (s.queues.length : Int) ≤ y.obj
      · simp [h5, hr, l1.2 hr]
      · have hr' := mt l1.1 hr
        have e := l2 fun e => hr (.inl e)
        simp [h5, hr, hr', e]
    · cases g
  by_cases h6 : y.op = 6
  · rcases key .qu _ true (by simp [usesI, h6]) (.inr (.inl ⟨rfl, rfl⟩)) with g | ⟨g, _⟩
    · obtain ⟨l1, l2⟩ := queues g
      by_cases hr : y.obj < 0 ∨ (s.queues.length : Int) ≤ y.obj
      · simp [h6, hr, l1.2 hr]
      · have hr' := mt l1.1 hr
        have e := l2 fun e => hr (.inl e)
        simp [h6, hr, hr', e]
    · cases g
  by_cases h10 : y.op = 10
  · rcases key .gr _ false (by simp [usesI, h10]) (.inr (.inr ⟨rfl, rfl⟩)) with g | ⟨g, _⟩
    · obtain ⟨l1, l2⟩ := groups g
      by_cases hr : y.obj < 0 ∨ (s.groups.length : Int) ≤ y.obj
      · simp [h10, hr, l1.2 hr]
      · have hr' := mt l1.1 hr
        have e := l2 fun e => hr (.inl e)
        simp [h10, hr, hr', e]
    · cases g
  · simp [h1, h3, h5, h6, h10]
end Go.Proofs.Ytplooifpgmlofaa
namespace Go.Proofs.Ytplooifpgmlofaa
open Go.RowKit
open Lo (Sy Lk Qu chk inT)

/-- Whoever waits, waits for its next instruction. -/
def WOk (x : Sx) (q : Pl) : Prop := ∀ i t w, q.ts[i]? = some t → q.ws[i]? = some w → w = endW ∨ ∃ y, (x.ps.getD i [])[t.pc.toNat]? = some y ∧ w = waitB y
/-- What is waited for behind a step. -/
def nextW (l : Prg) (pc : Nat) (e : Int) : Wa := if e ≠ 0 then endW else match l[pc + 1]? with
  | some y => waitB y
  | none => endW
def recsOf (t : Int) (r : Sy × Int × List Int) : List Rc := (r.2.2.map fun v => (⟨t, v, 0⟩ : Rc)) ++ if r.2.1 ≠ 0 then [⟨t, 0, r.2.1⟩] else []
theorem recsOf_task {t : Int} {r : Sy × Int × List Int} : ∀ c ∈ recsOf t r, c.task = t := fun c h => by
  unfold recsOf at h
  rcases List.mem_append.1 h with h | h
  · obtain ⟨v, _, rfl⟩ := List.mem_map.1 h
    rfl
  · split at h
    · simp at h; rw [h]
    · cases h
theorem getD_some {α : Type} {l : List α} {i : Nat} {x d : α} (h : l[i]? = some x) : l.getD i d = x := by rw [List.getD_eq_getElem?_getD, h]; rfl
theorem id_in {x : Sx} (hx : SxOk x) {q : Pl} {m : Nat} (h : PlOk x q m) {i : Nat} {t : Tk} (ht : q.ts[i]? = some t) : inT t.id = true ∧ i < x.ps.length := by
  have hi := (List.getElem?_eq_some_iff.1 ht).1
  have h1 := h.tn
  have h2 := hx.ps.many
  have h3 := (h.ts i t ht).id
  unfold inT
  simp
  omega
theorem step_none {x : Sx} {b : Bn} {t : Tk} {i : Nat} (hi : i < x.ps.length) (h : TkOk x i t) (hy : (x.ps.getD i [])[t.pc.toNat]? = none) : stepB b x.ps t = (b, t, endW) := by
  obtain ⟨l, hl, _⟩ := at_lt hi
  rw [getD_some hl] at hy
  unfold stepB
  rw [h.kind, Int.toNat_natCast, hl]
  dsimp only
  rw [h.a, if_neg (by decide), hy]
theorem step_run {x : Sx} {b : Bn} {t : Tk} {i : Nat} (hi : i < x.ps.length) (h : TkOk x i t) (hc : chk b.s = 0) (ht : inT t.id = true) {y : Ins} (hy : (x.ps.getD i [])[t.pc.toNat]? = some y) :
    stepB b x.ps t = (⟨(doA b.s (axOf t.id y)).1, b.rs ++ recsOf t.id (doA b.s (axOf t.id y))⟩, { t with pc := t.pc + 1 }, nextW (x.ps.getD i []) t.pc.toNat (doA b.s (axOf t.id y)).2.1) := by
  obtain ⟨l, hl, _⟩ := at_lt hi
  rw [getD_some hl] at hy ⊢
  unfold stepB
  rw [h.kind, Int.toNat_natCast, hl]
  dsimp only
  rw [h.a, if_neg (by decide), hy]
  dsimp only
  rw [act_run hc ht]
  dsimp only
  unfold nextW recsOf
  by_cases he : (doA b.s (axOf t.id y)).2.1 = 0
  · simp [he] <;> rfl
  · simp [he]
theorem stepX_at {x : Sx} {q : Pl} {i : Nat} {t : Tk} (h : q.ts[i]? = some t) : stepX x q ((i : Int) + 1) = ⟨(stepB q.b x.ps t).1, q.ts.set i (stepB q.b x.ps t).2.1, q.ws.set i (stepB q.b x.ps t).2.2⟩ := by
  have e : ((i : Int) + 1 - 1).toNat = i := by omega
  unfold stepX
  rw [e, h]
theorem foot_at {x : Sx} {q : Pl} {m : Nat} (h : PlOk x q m) {i : Nat} {t : Tk} (ht : q.ts[i]? = some t) {y : Ins} (hy : (x.ps.getD i [])[t.pc.toNat]? = some y) : footX x q ((i : Int) + 1) = usesI y := by
  have e : ((i : Int) + 1 - 1).toNat = i := by omega
  unfold footX
  rw [e, ht]
  dsimp only
  rw [(h.ts i t ht).kind, Int.toNat_natCast, hy]
theorem en_iff {q : Pl} {t : Int} : ∀ {k : Nat}, t ∈ enTo q k ↔ ∃ i w, i < k ∧ t = (i : Int) + 1 ∧ q.ws[i]? = some w ∧ canX q.b w = true
  | 0 => by simp [enTo]
  | k + 1 => by
    have ih := en_iff (q := q) (t := t) (k := k)
    have up : (∃ i w, i < k + 1 ∧ t = (i : Int) + 1 ∧ q.ws[i]? = some w ∧ canX q.b w = true) ↔ (∃ i w, i < k ∧ t = (i : Int) + 1 ∧ q.ws[i]? = some w ∧ canX q.b w = true) ∨ (t = (k : Int) + 1 ∧ ∃ w, q.ws[k]? = some w ∧ canX q.b w = true) := by
      constructor
      · rintro ⟨i, w, h1, h2, h3, h4⟩
        rcases Nat.lt_or_ge i k with h | h
        · exact .inl ⟨i, w, h, h2, h3, h4⟩
        · obtain rfl : i = k := by omega
          exact .inr ⟨h2, w, h3, h4⟩
      · rintro (⟨i, w, h1, h2, h3, h4⟩ | ⟨h2, w, h3, h4⟩)
        · exact ⟨i, w, by omega, h2, h3, h4⟩
        · exact ⟨k, w, by omega, h2, h3, h4⟩
    have e : enTo q (k + 1) = match q.ws[k]? with
      | some w => if canX q.b w then enTo q k ++ [((k : Int) + 1)] else enTo q k
      | none => enTo q k := rfl
    rw [up, ← ih, e]
    cases hk : q.ws[k]? with
    | none => simp
    | some w =>
      dsimp only
      by_cases hw : canX q.b w = true
      · simp [hw]
      · simp [hw]
theorem wok_start {x : Sx} : WOk x (startX x) := by
  have : ∀ (k : Nat), k ≤ x.ps.length → ∀ i t w, (startTo ⟨x.s, []⟩ x.ps k).ts[i]? = some t → (startTo ⟨x.s, []⟩ x.ps k).ws[i]? = some w → w = endW ∨ ∃ y, (x.ps.getD i [])[t.pc.toNat]? = some y ∧ w = waitB y := by
    intro k
    induction k with
    | zero => intro _ i t w h; simp [startTo] at h
    | succ k ih =>
      intro hk i t w ht hw
      have hl := startTo_len ⟨x.s, []⟩ x.ps k
      unfold startTo at ht hw
      dsimp only at ht hw
      by_cases hi : i < k
      · rw [List.getElem?_append_left (by omega)] at ht hw
        exact ih (by omega) i t w ht hw
      · have h1 := (List.getElem?_eq_some_iff.1 ht).1
        simp only [List.length_append, List.length_singleton] at h1
        obtain rfl : i = k := by omega
        rw [List.getElem?_append_right (by omega), hl.1, Nat.sub_self] at ht
        rw [List.getElem?_append_right (by omega), hl.2, Nat.sub_self] at hw
        obtain ⟨l, hl, _⟩ := at_lt (show i < x.ps.length by omega)
        simp only [List.getElem?_cons_zero, Option.some.injEq, stepB, Int.toNat_natCast, hl, if_true] at ht hw
        subst ht hw
        rw [getD_some hl]
        dsimp only
        cases hy : l[(0 : Int).toNat]? with
        | none => exact .inl rfl
        | some y => exact .inr ⟨y, rfl, rfl⟩
  exact this _ (Nat.le_refl _)
theorem wok_step {x : Sx} (hx : SxOk x) {q : Pl} {m : Nat} (h : PlOk x q m) (hw : WOk x q) (t : Int) : WOk x (stepX x q t) := by
  unfold stepX
  split
  · rename_i k hk
    generalize (t - 1).toNat = i at hk ⊢
    obtain ⟨hin, hi⟩ := id_in hx h hk
    intro j u w hu hwj
    dsimp only at hu hwj
    rw [List.getElem?_set] at hu hwj
    by_cases e : i = j
    · subst e
      rw [if_pos rfl] at hu hwj
      split at hu
      · split at hwj
        · obtain rfl := Option.some.inj hu
          obtain rfl := Option.some.inj hwj
          cases hy : (x.ps.getD i [])[k.pc.toNat]? with
          | none =>
            rw [step_none hi (h.ts i k hk) hy]
            exact .inl rfl
          | some y =>
            rw [step_run hi (h.ts i k hk) h.chk hin hy]
            dsimp only
            unfold nextW
            obtain ⟨pc, hpc, _⟩ := (h.ts i k hk).pc
            have e2 : (k.pc + 1).toNat = k.pc.toNat + 1 := by omega
            rw [e2]
            split
            · exact .inl rfl
            · cases hz : (x.ps.getD i [])[k.pc.toNat + 1]? with
              | none => exact .inl rfl
              | some z => exact .inr ⟨z, rfl, rfl⟩
        · cases hwj
      · cases hu
    · rw [if_neg e] at hu hwj
      exact hw j u w hu hwj
  · exact hw
/-- States that differ at most in the order of different tasks' records. -/
structure Eqv (q q' : Pl) : Prop where
  s : q.b.s = q'.b.s
  ts : q.ts = q'.ts
  ws : q.ws = q'.ws
  rs : ∀ i, (q.b.rs.filter fun r => decide (r.task = i)) = q'.b.rs.filter fun r => decide (r.task = i)
theorem Eqv.can {q q' : Pl} (h : Eqv q q') (w : Wa) : canX q.b w = canX q'.b w := by unfold canX enabledB; rw [h.s]
theorem Eqv.en {q q' : Pl} (h : Eqv q q') : ∀ k, enTo q k = enTo q' k
  | 0 => rfl
  | k + 1 => by
    unfold enTo
    rw [h.ws, h.en k]
    cases q'.ws[k]? with
    | none => rfl
    | some w => dsimp only; rw [h.can]
theorem Eqv.foot {x : Sx} {q q' : Pl} (h : Eqv q q') (t : Int) : footX x q t = footX x q' t := by unfold footX; rw [h.ts]
theorem Eqv.done {q q' : Pl} (h : Eqv q q') : doneX q = doneX q' := by unfold doneX; rw [h.ws]
theorem noteL_filter (i : Int) (rs : List Rc) : noteL i rs = (rs.filter fun r => decide (r.task = i)).flatMap fun r => 32 :: (digZ r.val ++ 101 :: digZ r.err) := by
  unfold noteL
  induction rs with
  | nil => rfl
  | cons r rs ih =>
    rw [List.flatMap_cons, ih]
    by_cases h : r.task = i
    · simp [h]
    · simp [h]
theorem Eqv.out {q q' : Pl} (h : Eqv q q') : outL q = outL q' := by
  have : ∀ k, taskTo q k = taskTo q' k := by
    intro k
    induction k with
    | zero => rfl
    | succ k ih =>
      unfold taskTo
      rw [ih, noteL_filter, noteL_filter, h.rs, h.ts]
  unfold outL
  rw [this, h.ts, h.s]
theorem Eqv.step {x : Sx} (hx : SxOk x) {q q' : Pl} {m m' : Nat} (h : Eqv q q') (h1 : PlOk x q m) (h2 : PlOk x q' m') (t : Int) : Eqv (stepX x q t) (stepX x q' t) := by
  unfold stepX
  rw [← h.ts, ← h.ws]
  cases hk : q.ts[(t - 1).toNat]? with
  | none => exact h
  | some k =>
    obtain ⟨hin, hi⟩ := id_in hx h1 hk
    dsimp only
    cases hy : (x.ps.getD (t - 1).toNat [])[k.pc.toNat]? with
    | none =>
      rw [step_none hi (h1.ts _ k hk) hy, step_none hi (h1.ts _ k hk) hy]
      exact ⟨h.s, rfl, rfl, h.rs⟩
    | some y =>
      rw [step_run hi (h1.ts _ k hk) h1.chk hin hy, step_run hi (h1.ts _ k hk) h2.chk hin hy, h.s]
      refine ⟨rfl, rfl, rfl, fun i => ?_⟩
      dsimp only
      rw [List.filter_append, List.filter_append, h.rs]
theorem filter_none {t i : Int} {l : List Rc} (h : ∀ c ∈ l, c.task = t) (hi : t ≠ i) : (l.filter fun r => decide (r.task = i)) = [] := by
  rw [List.filter_eq_nil_iff]
  intro c hc
  rw [h c hc]
  simp [hi]
/-- Two neighbours. -/
theorem stepX_comm {x : Sx} (hx : SxOk x) {q : Pl} {m : Nat} (h : PlOk x q m) (hw : WOk x q) {a b : Int} (hab : a ≠ b) (ha : a ∈ enTo q x.ps.length) (hb : b ∈ enTo (stepX x q a) x.ps.length) (hi : indy (footX x q a) (footX x (stepX x q a) b) = true) :
    b ∈ enTo q x.ps.length ∧ a ∈ enTo (stepX x q b) x.ps.length ∧ footX x q b = footX x (stepX x q a) b ∧ footX x (stepX x q b) a = footX x q a ∧ Eqv (stepX x (stepX x q a) b) (stepX x (stepX x q b) a) := by
  have live : ∀ {w : Wa} {b : Bn}, canX b w = true → w ≠ endW := fun h e => by subst e; simp [canX, endW] at h
  obtain ⟨i, wa, hil, rfl, hwa, hca⟩ := en_iff.1 ha
  obtain ⟨ta, hta, _⟩ := at_lt (show i < q.ts.length by rw [h.tn]; exact hil)
  obtain ⟨ya, hya, rfl⟩ := (hw i ta wa hta hwa).resolve_left (live hca)
  obtain ⟨hina, _⟩ := id_in hx h hta
  have hka := h.ts i ta hta
  have sa := step_run hil hka h.chk hina hya
  have xa := stepX_at (x := x) hta
  have fa := foot_at h hta hya
  have hP := pl_step h ((i : Int) + 1)
  rw [xa, sa] at hb hi hP
  dsimp only at hb hi hP
  obtain ⟨j, wb, hjl, rfl, hwb, hcb⟩ := en_iff.1 hb
  have hij : i ≠ j := fun e => hab (by rw [e])
  dsimp only at hwb hcb
  rw [List.getElem?_set_ne hij] at hwb
  obtain ⟨tb, htb, _⟩ := at_lt (show j < q.ts.length by rw [h.tn]; exact hjl)
  obtain ⟨yb, hyb, rfl⟩ := (hw j tb wb htb hwb).resolve_left (live hcb)
  obtain ⟨hinb, _⟩ := id_in hx h htb
  have hkb := h.ts j tb htb
  have sb := step_run hjl hkb h.chk hinb hyb
  have xb := stepX_at (x := x) htb
  have fb := foot_at h htb hyb
  have fb2 := foot_at hP (i := j) (by dsimp only; rw [List.getElem?_set_ne hij]; exact htb) hyb
  rw [fa, fb2] at hi
  have hne : ta.id ≠ tb.id := by rw [hka.id, hkb.id]; omega
  have hca' : chk (doA q.b.s (axOf ta.id ya)).1 = 0 := hP.chk
  have hPb := pl_step h ((j : Int) + 1)
  rw [xb, sb] at hPb
  dsimp only at hPb
  have hcb' : chk (doA q.b.s (axOf tb.id yb)).1 = 0 := hPb.chk
  have hi' : indy (usesI yb) (usesI ya) = true := by rw [indy_comm]; exact hi
  obtain ⟨c1, c2, c3⟩ := ax_comm h.chk hne hi
  have hcb0 : canX q.b (waitB yb) = true := by
    rw [can_stays h.chk hca' hi _ q.b.rs] at hcb
    exact hcb
  have hca2 : canX ⟨(doA q.b.s (axOf tb.id yb)).1, q.b.rs ++ recsOf tb.id (doA q.b.s (axOf tb.id yb))⟩ (waitB ya) = true := by
    rw [can_stays h.chk hcb' hi' _ q.b.rs]
    exact hca
  refine ⟨en_iff.2 ⟨j, _, hjl, rfl, hwb, hcb0⟩, ?_, ?_, ?_, ?_⟩
  · rw [xb, sb]
    refine en_iff.2 ⟨i, waitB ya, hil, rfl, ?_, hca2⟩
    dsimp only
    rw [List.getElem?_set_ne fun e => hij e.symm]
    exact hwa
  · rw [xa, sa, fb, fb2]
  · rw [xb, sb, fa]
    exact foot_at hPb (by dsimp only; rw [List.getElem?_set_ne fun e => hij e.symm]; exact hta) hya
  · rw [xa, sa, xb, sb]
    rw [stepX_at (i := j) (t := tb) (by dsimp only; rw [List.getElem?_set_ne hij]; exact htb), stepX_at (i := i) (t := ta) (by dsimp only; rw [List.getElem?_set_ne fun e => hij e.symm]; exact hta)]
    dsimp only
    rw [step_run hjl hkb hca' hinb hyb, step_run hil hka hcb' hina hya]
    dsimp only
    have r1 : recsOf tb.id (doA (doA q.b.s (axOf ta.id ya)).1 (axOf tb.id yb)) = recsOf tb.id (doA q.b.s (axOf tb.id yb)) := by unfold recsOf; rw [c1]
    have r2 : recsOf ta.id (doA (doA q.b.s (axOf tb.id yb)).1 (axOf ta.id ya)) = recsOf ta.id (doA q.b.s (axOf ta.id ya)) := by unfold recsOf; rw [c2]
    rw [r1, r2, c1, c2]
    refine ⟨c3, List.set_comm _ _ hij, List.set_comm _ _ hij, fun k => ?_⟩
    dsimp only
    rw [List.filter_append, List.filter_append, List.filter_append, List.filter_append]
    by_cases e : ta.id = k
    · rw [filter_none (t := tb.id) (i := k) recsOf_task (by rw [← e]; exact fun h => hne h.symm)]
      simp
    · rw [filter_none (t := ta.id) (i := k) recsOf_task e]
      simp
theorem wok_at {x : Sx} (hx : SxOk x) (p : List Int) : WOk x (atX x p) := by
  have : ∀ (p : List Int) (q : Pl) (m : Nat), PlOk x q m → WOk x q → WOk x (p.foldl (stepX x) q) := by
    intro p
    induction p with
    | nil => exact fun q m _ h => h
    | cons t p ih => exact fun q m h1 h2 => ih _ _ (pl_step h1 t) (wok_step hx h1 h2 t)
  exact this p _ 0 (pl_start hx) wok_start
theorem at_append (x : Sx) (p v : List Int) : atX x (p ++ v) = v.foldl (stepX x) (atX x p) := by unfold atX; rw [List.foldl_append]
theorem eqv_alike {x : Sx} (hx : SxOk x) {p p' : List Int} (h : Eqv (atX x p) (atX x p')) : Alike (sysX x) p p' := by
  have key : ∀ v, Eqv (atX x (p ++ v)) (atX x (p' ++ v)) := by
    intro v
    rw [at_append, at_append]
    have : ∀ (v : List Int) (q q' : Pl) (m m' : Nat), PlOk x q m → PlOk x q' m' → Eqv q q' → Eqv (v.foldl (stepX x) q) (v.foldl (stepX x) q') := by
      intro v
      induction v with
      | nil => exact fun _ _ _ _ _ _ h => h
      | cons t v ih => exact fun q q' m m' h1 h2 h => ih _ _ _ _ (pl_step h1 t) (pl_step h2 t) (h.step hx h1 h2 t)
    exact this v _ _ _ _ (pl_at hx p) (pl_at hx p') h
  exact ⟨fun v => (key v).en _, fun v t => (key v).foot t, fun v => (key v).done, fun v => congrArg strOfNums (key v).out⟩
theorem comm_sys {x : Sx} (hx : SxOk x) : Comm (sysX x) := by
  intro p a b hl hab hi
  obtain ⟨_, hlf⟩ := legal_F.1 hl
  rw [legalF_append] at hlf
  obtain ⟨_, h1, h2, _⟩ := hlf
  simp only [List.nil_append] at h1 h2
  have e1 : atX x (p ++ [a]) = stepX x (atX x p) a := at_snoc x p a
  have e2 : atX x (p ++ [b]) = stepX x (atX x p) b := at_snoc x p b
  have e3 : atX x (p ++ [a, b]) = stepX x (stepX x (atX x p) a) b := by rw [at_append]; rfl
  have e4 : atX x (p ++ [b, a]) = stepX x (stepX x (atX x p) b) a := by rw [at_append]; rfl
  have h2' : b ∈ enTo (stepX x (atX x p) a) x.ps.length := by
    have : b ∈ enTo (atX x (p ++ [a])) x.ps.length := h2
    rwa [e1] at this
  have hi' : indy (footX x (atX x p) a) (footX x (stepX x (atX x p) a) b) = true := by
    have : indy (footX x (atX x p) a) (footX x (atX x (p ++ [a])) b) = true := hi
    rwa [e1] at this
  obtain ⟨g1, g2, g3, g4, g5⟩ := stepX_comm hx (pl_at hx p) (wok_at hx p) hab h1 h2' hi'
  refine ⟨g1, ?_, ?_, ?_, eqv_alike hx (by rw [e3, e4]; exact g5)⟩
  · show a ∈ enTo (atX x (p ++ [b])) x.ps.length
    rw [e2]; exact g2
  · show footX x (atX x p) b = footX x (atX x (p ++ [a])) b
    rw [e1]; exact g3
  · show footX x (atX x (p ++ [b])) a = footX x (atX x p) a
    rw [e2]; exact g4
end Go.Proofs.Ytplooifpgmlofaa
namespace Go.Proofs.Ytplooifpgmlofaa
open Go.RowKit

inductive RPlayI {Y : Sys} (A : RPlr Y) (p : List Int) : Nat → Sta → Prop
  | mk (k : Nat) (hk : k ≤ p.length) (hl : legal Y (p.take k)) : RPlayI A p (p.length - k) ⟨40, [(7, .i k), (0, .ptr 1000000 0), (1, .d (intD p))], [(1000000, .sys (A.at_ (some (p.take k))))]⟩
set_option maxHeartbeats 1000000 in
theorem refPlay_m {Y : Sys} (hY : Fair Y) (A : RPlr Y) (q : Option (List Int)) (hq : ∀ p, q = some p → legal Y p) (p : List Int) :
    Meets Try.prog 12 [.ptr 1000000 0, .d (intD p)] [.sys (A.at_ q)] (PlayR A.toPlr q p) := by
  refine meetsP [] tbSOk mixed Try.func12 pl12 rfl rfl ?_
  by_cases h60 : (60 : Int) < p.length
  · simp [Try.ntmps12, h60]
    refine vcRet_of [] ?_ (.long (by omega))
    simp
  · simp [Try.ntmps12, h60]
    refine (A.start q hq).mono ?_
    rintro _ rfl
    simp
    refine vc_loop (RPlayI A p) ⟨_, _, .mk 0 (Nat.zero_le _) (legal_nil Y), [], _, rfl, by simp⟩ ?_
    rintro n σ ⟨k, hk, hl⟩
    by_cases hlt : k < p.length
    · obtain ⟨t, ht, e⟩ := at_lt hlt
      have hfew := hY.few (p.take k)
      by_cases hm : t ∈ Y.en (p.take k)
      · simp [hlt]
        refine effCall (A.enabled _ hl) ?_
        simp [hlt, e]
        refine effCall (in_m (Y.en (p.take k)) t (by omega)) ?_
        simp [hm, hlt, e]
        refine ⟨by kernel_rfl, ?_⟩
        refine (A.step _ t hl hm (by rw [List.length_take]; omega)).mono ?_
        rintro _ rfl
        simp [wrap_succ hlt (show p.length < 4294967296 by omega)]
        refine ⟨p.length - (k + 1), by omega, _, .mk (k + 1) hlt (legal_step hl (by omega) ht hm), [], _, rfl, ?_⟩
        rw [take_step ht]
        simp
      · simp [hlt]
        refine effCall (A.enabled _ hl) ?_
        simp [hlt, e]
        refine effCall (in_m (Y.en (p.take k)) t (by omega)) ?_
        simp [hm]
        refine ⟨by kernel_rfl, ?_⟩
        refine (A.outcome _ hl).mono ?_
        rintro _ rfl
        simp
        refine vcRet_of [] ?_ (.bad (by omega) k t ht hl hm)
        simp
    · obtain rfl : k = p.length := by omega
      have hl' : legal Y p := by rwa [List.take_length] at hl
      simp
      refine (A.outcome _ hl').mono ?_
      rintro _ rfl
      simp
      refine vcRet_of [] ?_ (.all hl')
      simp
/-- The steps as they lie in a row of the reference's. -/
@[simp] def rowQ (l : List Stp) : MObj := .row 98 2 (l.map Stp.ds) false
inductive RNormI {Y : Sys} (A : RPlr Y) (p : List Int) : Nat → Sta → Prop
  | mk (k : Nat) (hk : k ≤ p.length) : RNormI A p (p.length - k) ⟨135, [(10, .i k), (9, .rw 9 k), (0, .ptr 1000000 0), (1, .d (intD p))], [(9, rowQ (stepsK Y p k)), (1000000, .sys (A.at_ (some (p.take k))))]⟩
/-- The steps that are left, those that were put down. -/
inductive ROutN {Y : Sys} (A : RPlr Y) (p : List Int) (R : List Int) : Nat → Sta → Prop
  | mk (l : List Stp) (out : List Int) (hl : l.length ≤ 60) (hu : ∀ x ∈ l, x.uses.length < 1000) (ho : out.length + l.length ≤ 60) (hR : out ++ normX l.length l = R) :
    ROutN A p R l.length ⟨135, [(11, .rw 11 out.length), (9, .d (stD l)), (0, .ptr 1000000 0)], [(11, rowO out), (1000000, .sys (A.at_ (some p)))]⟩
inductive RBestI {Y : Sys} (A : RPlr Y) (p : List Int) (l : List Stp) (out : List Int) : Nat → Sta → Prop
  | mk (k : Nat) (hk : k ≤ l.length) :
    RBestI A p l out (l.length - k) ⟨135, [(13, .i k), (12, .i (bestTo l k)), (11, .rw 11 out.length), (9, .d (stD l)), (0, .ptr 1000000 0)], [(11, rowO out), (1000000, .sys (A.at_ (some p)))]⟩
inductive RHeldI {Y : Sys} (A : RPlr Y) (p : List Int) (l : List Stp) (out : List Int) (k : Nat) (s : Stp) : Nat → Sta → Prop
  | mk (j : Nat) (hj : j ≤ k) :
    RHeldI A p l out k s (k - j) ⟨135, [(15, .i j), (14, .b (!heldBy (l.take j) s)), (13, .i k), (12, .i (bestTo l k)), (11, .rw 11 out.length), (9, .d (stD l)), (0, .ptr 1000000 0)], [(11, rowO out), (1000000, .sys (A.at_ (some p)))]⟩
theorem held_succ {l : List Stp} {j : Nat} {x s : Stp} (h : l[j]? = some x) : heldBy (l.take (j + 1)) s = (heldBy (l.take j) s || (x.task == s.task || !indy x.uses s.uses)) := by
  unfold heldBy
  rw [List.take_add_one, h, List.any_append]
  simp
set_option maxRecDepth 20000 in
set_option maxHeartbeats 8000000 in
theorem refNormal_m {Y : Sys} (hY : Fair Y) (A : RPlr Y) (q : Option (List Int)) (hq : ∀ p, q = some p → legal Y p) (p : List Int) :
    Meets Try.prog 14 [.ptr 1000000 0, .d (intD p)] [.sys (A.at_ q)] (NormR A.toPlr q p) := by
  refine meetsP [] tbNOk mixed Try.func14 pl14 rfl rfl ?_
  simp [Try.ntmps14]
  refine (refPlay_m hY A q hq p).mono ?_
  rintro _ (⟨h⟩ | ⟨hp⟩ | ⟨h60, k, t, ht, hl, hn⟩)
  · simp
    refine vcRet_of [] ?_ (.long h)
    simp
  case bad =>
    simp
    refine vcRet_of [] ?_ (.bad h60 k t ht hl hn)
    simp
  have h60 := hp.1
  simp
  refine (A.start (some p) (fun _ h => by cases h; exact hp)).mono ?_
  rintro _ rfl
  simp
  refine vc_loop (RNormI A p) ⟨_, _, .mk 0 (Nat.zero_le _), [.row 9 98 2], _, rfl, by simp [stepsK]⟩ ?_
  rintro n σ ⟨k, hk⟩
  have hl := legal_take hp k
  by_cases hlt : k < p.length
  · obtain ⟨t, ht, e⟩ := at_lt hlt
    have hm : t ∈ Y.en (p.take k) := legal_at hp ht
    have hus := hY.uses (p.take k) t
    have hsl := stepsK_len (Y := Y) (p := p) (k := k)
    simp [hlt, e]
    refine effCall (A.uses _ t hl hm) ?_
    simp [hsl, hlt, e]
    repeat (first | refine And.intro (by omega) ?_ | refine And.intro (by kernel_rfl) ?_)
    refine (A.step _ t hl hm (by rw [List.length_take]; omega)).mono ?_
    rintro _ rfl
    simp [wrap_succ hlt (show p.length < 4294967296 by omega)]
    refine ⟨p.length - (k + 1), by omega, _, .mk (k + 1) hlt, [], _, rfl, ?_⟩
    rw [take_step ht, stepsK_succ ht]
    simp
  · obtain rfl : k = p.length := by omega
    simp
    refine vc_loop (ROutN A p (normal Y p)) ⟨_, _, .mk (stepsK Y p p.length) [] (by rw [stepsK_len]; omega) (stepsK_uses hY) (by rw [stepsK_len]; simp; omega) (by simp [normal, stepsK_len]), [.row 11 3 1, .view 9], _, (by simp [Prep.all, Prep.run, stepsK_len]; rfl), by simp [stepsK_len, List.take_of_length_le]⟩ ?_
    rintro n σ ⟨l, out, hl60, hu, ho, hR⟩
    by_cases h0 : l = []
    · subst h0
      simp
      refine vcRet_of [] ?_ (.all hp)
      simp [← hR, normX]
      rw [List.take_of_length_le (by simp)]
    · have hpos : 0 < l.length := List.length_pos_iff.2 h0
      obtain ⟨m, hm⟩ : ∃ m, l.length = m + 1 := ⟨l.length - 1, by omega⟩
      simp [hpos]
      refine vc_loop (RBestI A p l out) ⟨_, _, .mk 0 (Nat.zero_le _), [], _, rfl, by simp [bestTo]⟩ ?_
      rintro n σ ⟨k, hk⟩
      have hb := bestTo_lt l k
      by_cases hlt : k < l.length
      · obtain ⟨s, hs, e⟩ := at_lt hlt
        have hsu := hu s (List.mem_of_getElem? hs)
        have hbs : bestTo l (k + 1) = if 0 ≤ bestTo l k ∧ taskAt l (bestTo l k) ≤ s.task then bestTo l k else if heldBy (l.take k) s = true then bestTo l k else k := by
          rw [bestTo, hs]
        simp [hlt]
        refine vc_loop (RHeldI A p l out k s) ⟨_, _, .mk 0 (Nat.zero_le _), [], _, rfl, by simp [heldBy]⟩ ?_
        rintro n σ ⟨j, hj⟩
        by_cases hjk : j < k
        · obtain ⟨x, hx, e2⟩ := at_lt (show j < l.length by omega)
          have hjl : j < l.length := by omega
          have hhs := held_succ (s := s) hx
          have hxu := hu x (List.mem_of_getElem? hx)
          cases hh : heldBy (l.take j) s
          · rw [hh] at hhs
            by_cases htk : x.task = s.task
            · simp [hjk, hjl, hlt, e, e2, htk]
              refine ⟨by kernel_rfl, ?_⟩
              simp [wrap_succ hjk (show k < 4294967296 by omega)]
              exact ⟨k - (j + 1), by omega, _, .mk (j + 1) hjk, [], _, rfl, by simp [hhs, htk]⟩
            · simp [hjk, hjl, hlt, e, e2, htk]
              refine effCall (refIndep_m x.uses s.uses (by omega) (by omega)) ?_
              simp
              refine ⟨by kernel_rfl, ?_⟩
              simp [wrap_succ hjk (show k < 4294967296 by omega)]
              exact ⟨k - (j + 1), by omega, _, .mk (j + 1) hjk, [], _, rfl, by simp [hhs, htk]⟩
          · rw [hh] at hhs
            simp [hjk]
            refine ⟨by kernel_rfl, ?_⟩
            simp [wrap_succ hjk (show k < 4294967296 by omega)]
            exact ⟨k - (j + 1), by omega, _, .mk (j + 1) hjk, [], _, rfl, by simp [hhs]⟩
        · obtain rfl : j = k := by omega
          cases hh : heldBy (l.take j) s
          · by_cases hb0 : 0 ≤ bestTo l j
            · obtain ⟨b, hbn⟩ : ∃ b : Nat, bestTo l j = b := ⟨(bestTo l j).toNat, by omega⟩
              rw [hbn] at hb hbs ⊢
              have hbl : b < l.length := by omega
              obtain ⟨x, hx, e2⟩ := at_lt hbl
              have hta : taskAt l b = x.task := by simp [taskAt, hx]
              rw [hta] at hbs
              have hbn0 : ¬ (b : Int) < 0 := by omega
              by_cases hge : s.task < x.task
              · rw [if_neg (fun h => absurd h.2 (by omega)), if_neg (by rw [hh]; exact Bool.false_ne_true)] at hbs
                simp [hlt, e, hbl, e2, hge, hbn0]
                refine ⟨by kernel_rfl, ?_⟩
                simp [wrap_succ hlt (show l.length < 4294967296 by omega)]
                exact ⟨l.length - (j + 1), by omega, _, .mk (j + 1) hlt, [], _, rfl, by simp [hbs]⟩
              · rw [if_pos ⟨by omega, by omega⟩] at hbs
                simp [hlt, e, hbl, e2, hge, hbn0]
                refine ⟨by kernel_rfl, ?_⟩
                simp [wrap_succ hlt (show l.length < 4294967296 by omega)]
                exact ⟨l.length - (j + 1), by omega, _, .mk (j + 1) hlt, [], _, rfl, by simp [hbs]⟩
            · have hb1 : bestTo l j = -1 := by omega
              rw [hb1] at hb hbs ⊢
              rw [if_neg (by omega), if_neg (by rw [hh]; exact Bool.false_ne_true)] at hbs
              simp
              refine ⟨by kernel_rfl, ?_⟩
              simp [wrap_succ hlt (show l.length < 4294967296 by omega)]
              exact ⟨l.length - (j + 1), by omega, _, .mk (j + 1) hlt, [], _, rfl, by simp [hbs]⟩
          · have hbs' : bestTo l (j + 1) = bestTo l j := by
              rw [hbs, if_pos hh]
              split <;> rfl
            simp
            refine ⟨by kernel_rfl, ?_⟩
            simp [wrap_succ hlt (show l.length < 4294967296 by omega)]
            exact ⟨l.length - (j + 1), by omega, _, .mk (j + 1) hlt, [], _, rfl, by simp [hbs']⟩
      · obtain rfl : k = l.length := by omega
        have hbp := bestTo_pos l l.length hpos (Nat.le_refl _)
        obtain ⟨b, hbn⟩ : ∃ b : Nat, bestTo l l.length = b := ⟨(bestTo l l.length).toNat, by omega⟩
        rw [hbn] at hb ⊢
        have hbl : b < l.length := by omega
        obtain ⟨x, hx, e2⟩ := at_lt hbl
        have hta : taskAt l b = x.task := by simp [taskAt, hx]
        have hw1 : IntKind.i64.wrap ((b : Int) + 1) = b + 1 := wrap_in (by omega)
        have hm1 : min b l.length = b := by omega
        have hble : b ≤ l.length := by omega
        have hb1le : b + 1 ≤ l.length := by omega
        rw [hm, normX, if_neg h0, hbn, hta, Int.toNat_natCast] at hR
        have hlen : (l.eraseIdx b).length = m := by rw [List.length_eraseIdx_of_lt hbl]; omega
        have her : l.eraseIdx b = l.take b ++ l.drop (b + 1) := List.eraseIdx_eq_take_drop_succ ..
        simp [hbl, e2, hw1, hm1, hble]
        repeat (first | refine And.intro (by omega) ?_ | refine And.intro (by kernel_rfl) ?_)
        refine ⟨_, ?_, _, .mk (l.eraseIdx b) (out ++ [x.task]) (by omega) (fun y hy => hu y (List.mem_of_mem_eraseIdx hy)) (by simp; omega) (by rw [List.append_assoc, hlen]; exact hR), [], _, rfl, ?_⟩
        · rw [hlen]; omega
        · simp [her, List.take_of_length_le]
/-- Turns that are picked by numbers, counted round. -/
def pickTo (Y : Sys) (by_ : List Int) : Nat → List Int
  | 0 => []
  | k + 1 => match (Y.en (pickTo Y by_ k))[(by_.getD k 0 % (Y.en (pickTo Y by_ k)).length).toNat]? with
    | some t => pickTo Y by_ k ++ [t]
    | none => pickTo Y by_ k
theorem pickTo_legal {Y : Sys} (by_ : List Int) : ∀ {k : Nat}, k ≤ 60 → legal Y (pickTo Y by_ k) ∧ (pickTo Y by_ k).length ≤ k
  | 0, _ => ⟨legal_nil Y, Nat.le_refl _⟩
  | k + 1, h => by
    obtain ⟨h1, h2⟩ := pickTo_legal (Y := Y) by_ (k := k) (by omega)
    unfold pickTo
    split
    · rename_i t ht
      exact ⟨legal_snoc h1 (List.mem_of_getElem? ht) (by omega), by simp; omega⟩
    · exact ⟨h1, by omega⟩
theorem pickTo_stop {Y : Sys} {by_ : List Int} {k : Nat} (h : Y.en (pickTo Y by_ k) = []) : ∀ {j : Nat}, k ≤ j → pickTo Y by_ j = pickTo Y by_ k
  | 0, hj => by obtain rfl : k = 0 := by omega
                rfl
  | j + 1, hj => by
    by_cases e : k = j + 1
    · rw [e]
    · have ih := pickTo_stop h (j := j) (by omega)
      rw [pickTo, ih, h]
      rfl
/-- What picked hands back. -/
def pickX (Y : Sys) (by_ : List Int) : List Int := pickTo Y by_ (min by_.length 60)
@[simp] def byC (n : Int) : List D := [.v (.int .u8 n)]
@[simp] def byD (l : List Int) : D := .sl 1 (l.map byC)
inductive PickI (x : Sx) (h : XOk x) (by_ : List Int) : Nat → Sta → Prop
  | mk (k : Nat) (hk : k ≤ by_.length) (h60 : k ≤ 60) (hl : (pickTo (sysX x) by_ k).length = k) :
    PickI x h by_ (by_.length - k) ⟨50, [(7, .i k), (6, .rw 6 k), (5, .ptr 12 0), (1, .d (byD by_))], [(6, rowO (pickTo (sysX x) by_ k)), (12, .sys ((refQ x h).at_ (some (pickTo (sysX x) by_ k))))]⟩
set_option maxRecDepth 20000 in
set_option maxHeartbeats 2000000 in
theorem picked_m (x : Sx) (h : XOk x) (by_ : List Int) (hb : ∀ n ∈ by_, 0 ≤ n ∧ n ≤ 255) (hl : by_.length ≤ 9223372036854775807) : Meets Try.prog 16 [x.pv, .d (byD by_)] [] (Ret (.d (intD (pickX (sysX x) by_)))) := by
  have hF := sys_fair h
  refine meetsP [] tbSOk mixed Try.func16 pl16 rfl rfl ?_
  simp [Try.ntmps16]
  refine (hideN h ((refQ x h).start none (fun _ h => by cases h))).mono ?_
  rintro _ rfl
  simp
  refine vc_loop (PickI x h by_) ⟨_, _, .mk 0 (Nat.zero_le _) (by omega) rfl, [.row 6 3 1], _, rfl, by simp [pickTo]⟩ ?_
  rintro n σ ⟨k, hk, h60, hlen⟩
  obtain ⟨hlk, _⟩ := pickTo_legal (Y := sysX x) by_ h60
  by_cases hlt : k < by_.length
  · by_cases hlt6 : (k : Int) < 60
    · obtain ⟨m, hm, e⟩ := at_lt hlt
      have hmb := hb m (List.mem_of_getElem? hm)
      have hfew := hF.few (pickTo (sysX x) by_ k)
      by_cases he : (sysX x).en (pickTo (sysX x) by_ k) = []
      · have hfin : pickX (sysX x) by_ = pickTo (sysX x) by_ k := pickTo_stop he (by omega)
        simp [hlt, hlt6]
        refine ((refQ x h).enabled _ hlk).mono ?_
        rintro _ rfl
        simp [he]
        refine vcRet_of [] ?_ rfl
        simp [hfin, hlen, List.take_of_length_le]
      · have hpos : 0 < ((sysX x).en (pickTo (sysX x) by_ k)).length := List.length_pos_iff.2 he
        obtain ⟨i, hi⟩ : ∃ i : Nat, m.tmod ((sysX x).en (pickTo (sysX x) by_ k)).length = i := ⟨_, (Int.toNat_of_nonneg (Int.tmod_nonneg _ hmb.1)).symm⟩
        have hi2 : m % ((sysX x).en (pickTo (sysX x) by_ k)).length = i := by rw [← hi, Int.tmod_eq_emod_of_nonneg hmb.1]
        have hil : i < ((sysX x).en (pickTo (sysX x) by_ k)).length := by
          have := Int.emod_lt_of_pos m (show (0 : Int) < ((sysX x).en (pickTo (sysX x) by_ k)).length by omega)
          omega
        obtain ⟨t, ht, e2⟩ := at_lt hil
        have htm := List.mem_of_getElem? ht
        have hw1 : IntKind.i64.wrap m = m := wrap_in (by omega)
        have hw2 : IntKind.i64.wrap (i : Int) = i := wrap_in (by omega)
        have hnz : ¬ ((((sysX x).en (pickTo (sysX x) by_ k)).length : Int) = 0) := by omega
        have hstep : pickTo (sysX x) by_ (k + 1) = pickTo (sysX x) by_ k ++ [t] := by
          rw [pickTo, show by_.getD k 0 = m by rw [List.getD_eq_getElem?_getD, hm]; rfl, hi2, Int.toNat_natCast, ht]
        simp [hlt, hlt6]
        refine ((refQ x h).enabled _ hlk).mono ?_
        rintro _ rfl
        simp [he, hlt, e, hw1, hi, hil, e2]
        refine ((refQ x h).step _ t hlk htm (by omega)).mono ?_
        rintro _ rfl
        simp [hlen, show IntKind.i64.wrap ((k : Int) + 1) = k + 1 from wrap_in (by omega)]
        refine ⟨by omega, ?_⟩
        refine ⟨by_.length - (k + 1), by omega, _, .mk (k + 1) hlt (by omega) (by rw [hstep]; simp [hlen]), [], _, rfl, ?_⟩
        rw [hstep]
        simp
    · obtain rfl : k = 60 := by omega
      have hfin : pickX (sysX x) by_ = pickTo (sysX x) by_ 60 := by unfold pickX; rw [Nat.min_eq_right (by omega)]
      have hlt' : (60 : Int) < by_.length := by omega
      simp [hlt']
      refine vcRet_of [] ?_ rfl
      simp [hfin, hlen, List.take_of_length_le]
  · obtain rfl : k = by_.length := by omega
    have hfin : pickX (sysX x) by_ = pickTo (sysX x) by_ by_.length := by unfold pickX; rw [Nat.min_eq_left (by omega)]
    simp
    refine vcRet_of [] ?_ rfl
    simp [hfin, hlen, List.take_of_length_le]
end Go.Proofs.Ytplooifpgmlofaa
namespace Go.Proofs.Ytplooifpgmlofaa
open Go.RowKit
open Lo (Sy Lk Qu chk Fits Wide)

/-- The first turn that cannot be had. -/
def stopAt (Y : Sys) (p : List Int) : Option Nat := (List.range p.length).find? fun k => decide (p.getD k 0 ∉ Y.en (p.take k))
theorem stop_none {Y : Sys} {p : List Int} (h : legal Y p) : stopAt Y p = none := by
  unfold stopAt
  rw [List.find?_eq_none]
  intro k hk
  obtain ⟨t, ht, e⟩ := at_lt (List.mem_range.1 hk)
  have := legal_at h ht
  rw [getD_some ht]
  simp [this]
theorem stop_some {Y : Sys} {p : List Int} {k : Nat} {t : Int} (ht : p[k]? = some t) (hl : legal Y (p.take k)) (hn : t ∉ Y.en (p.take k)) : stopAt Y p = some k := by
  unfold stopAt
  rw [List.find?_range_eq_some]
  have hk := (List.getElem?_eq_some_iff.1 ht).1
  refine ⟨by rw [getD_some ht]; simp [hn], List.mem_range.2 hk, fun j hj => ?_⟩
  obtain ⟨u, hu, e⟩ := at_lt (show j < p.length by omega)
  have := legal_at hl (k := j) (t := u) (by rw [List.getElem?_take, if_pos hj]; exact hu)
  rw [List.take_take, Nat.min_eq_left (by omega)] at this
  rw [getD_some hu]
  simp [this]
/-- What Play comes to; how far; its error; where it stands then; what Normal hands back. -/
def pO (Y : Sys) (p : List Int) : ByteArray := if 60 < p.length then ⟨#[]⟩ else match stopAt Y p with
  | none => Y.out p
  | some k => Y.out (p.take k)
def pK (Y : Sys) (p : List Int) : Int := if 60 < p.length then 0 else match stopAt Y p with
  | none => p.length
  | some k => k
def pE (Y : Sys) (p : List Int) : Int := if 60 < p.length then 3 else match stopAt Y p with
  | none => 0
  | some _ => 9
def pQ (Y : Sys) (q : Option (List Int)) (p : List Int) : Option (List Int) := if 60 < p.length then q else match stopAt Y p with
  | none => some p
  | some k => some (p.take k)
def nL (Y : Sys) (p : List Int) : D := if 60 < p.length then .v (.slice none 0 0) else match stopAt Y p with
  | none => intD (normal Y p)
  | some _ => .v (.slice none 0 0)
theorem playR_eq {Y : Sys} {A : Plr Y} {q : Option (List Int)} {p : List Int} {r : Res} (h : PlayR A q p r) : r = ⟨.tup [strP (pO Y p), .i (pK Y p), .i (pE Y p)], [.sys (A.at_ (pQ Y q p))], []⟩ := by
  unfold pO pK pE pQ
  rcases h with ⟨h⟩ | ⟨h⟩ | ⟨h60, k, t, ht, hl, hn⟩
  · simp [h]
  · have : ¬ 60 < p.length := by have := h.1; omega
    simp [this, stop_none h]
  · have : ¬ 60 < p.length := by omega
    simp [this, stop_some ht hl hn]
theorem normR_eq {Y : Sys} {A : Plr Y} {q : Option (List Int)} {p : List Int} {r : Res} (h : NormR A q p r) : r = ⟨.tup [.d (nL Y p), .i (pE Y p)], [.sys (A.at_ (pQ Y q p))], []⟩ := by
  unfold nL pE pQ
  rcases h with ⟨h⟩ | ⟨h⟩ | ⟨h60, k, t, ht, hl, hn⟩
  · simp [h]
  · have : ¬ 60 < p.length := by have := h.1; omega
    simp [this, stop_none h]
  · have : ¬ 60 < p.length := by omega
    simp [this, stop_some ht hl hn]
theorem legal_vals {Y : Sys} {p : List Int} (h : legal Y p) : pO Y p = Y.out p ∧ pK Y p = p.length ∧ pE Y p = 0 ∧ nL Y p = intD (normal Y p) := by
  have h6 : ¬ 60 < p.length := by have := h.1; omega
  unfold pO pK pE nL
  simp [h6, stop_none h]
theorem normX_len : ∀ (n : Nat) (l : List Stp), (normX n l).length ≤ n
  | 0, _ => Nat.le_refl _
  | n + 1, l => by
    unfold normX
    split
    · exact Nat.zero_le _
    · have := normX_len n (l.eraseIdx (bestTo l l.length).toNat)
      simp; omega
theorem sameL_m (Y : Sys) (p : List Int) : Meets Try.prog 15 [.d (nL Y p), .d (nL Y p)] [] (Ret (.b true)) := by
  have hn : Meets Try.prog 15 [.d (.v (.slice none 0 0)), .d (.v (.slice none 0 0))] [] (Ret (.b true)) := Meets.le (args' := [.d (intD []), .d (intD [])]) (sameInts_m [] [] (by simp)) (by simp)
  unfold nL
  by_cases h6 : 60 < p.length
  · rw [if_pos h6]; exact hn
  · rw [if_neg h6]
    cases stopAt Y p with
    | none =>
      have := normX_len p.length (stepsK Y p p.length)
      refine (sameInts_m (normal Y p) (normal Y p) (by show (normX _ _).length < _; omega)).mono ?_
      rintro _ rfl
      simp
    | some k => exact hn
section
variable {x : Sx} (h : XOk x)
theorem playC (p : List Int) : Meets Try.prog 11 [.ifc 36 1000000, .d (intD p)] [plN x] (fun r => r = ⟨.tup [strP (pO (sysX x) p), .i (pK (sysX x) p), .i (pE (sysX x) p)], [.sys ((refQ x h).at_ (pQ (sysX x) none p))], []⟩) :=
  hideN h ((play_m (sys_fair h) (refQ x h).toPlr none (fun _ h => by cases h) p).mono fun _ h => playR_eq h)
theorem refPlayC (p : List Int) : Meets Try.prog 12 [.ptr 1000000 0, .d (intD p)] [plN x] (fun r => r = ⟨.tup [strP (pO (sysX x) p), .i (pK (sysX x) p), .i (pE (sysX x) p)], [.sys ((refQ x h).at_ (pQ (sysX x) none p))], []⟩) :=
  hideN h ((refPlay_m (sys_fair h) (refQ x h) none (fun _ h => by cases h) p).mono fun _ h => playR_eq h)
theorem normC (p : List Int) : Meets Try.prog 13 [.ifc 36 1000000, .d (intD p)] [plN x] (fun r => r = ⟨.tup [.d (nL (sysX x) p), .i (pE (sysX x) p)], [.sys ((refQ x h).at_ (pQ (sysX x) none p))], []⟩) :=
  hideN h ((normal_m (sys_fair h) (refQ x h).toPlr none (fun _ h => by cases h) p).mono fun _ h => normR_eq h)
theorem refNormC (p : List Int) : Meets Try.prog 14 [.ptr 1000000 0, .d (intD p)] [plN x] (fun r => r = ⟨.tup [.d (nL (sysX x) p), .i (pE (sysX x) p)], [.sys ((refQ x h).at_ (pQ (sysX x) none p))], []⟩) :=
  hideN h ((refNormal_m (sys_fair h) (refQ x h) none (fun _ h => by cases h) p).mono fun _ h => normR_eq h)
end
theorem swap_list {l : List Int} {k : Nat} {a b : Int} (ha : l[k]? = some a) (hb : l[k + 1]? = some b) : l = l.take k ++ a :: b :: l.drop (k + 2) ∧ (l.set k b).set (k + 1) a = l.take k ++ b :: a :: l.drop (k + 2) := by
  have h1 := (List.getElem?_eq_some_iff.1 ha).1
  have h2 := (List.getElem?_eq_some_iff.1 hb).1
  have e : l = l.take k ++ a :: b :: l.drop (k + 2) := by
    conv => lhs; rw [← List.take_append_drop k l]
    rw [List.drop_eq_getElem_cons h1, List.drop_eq_getElem_cons h2, (List.getElem?_eq_some_iff.1 ha).2, (List.getElem?_eq_some_iff.1 hb).2]
  refine ⟨e, ?_⟩
  have hk : (l.take k).length = k := by rw [List.length_take]; omega
  generalize l.take k = u at e hk ⊢
  generalize l.drop (k + 2) = v at e ⊢
  subst e
  subst hk
  simp
/-- The rounds through the neighbours. -/
inductive NeiI (x : Sx) (l a : List Int) : Nat → Sta → Prop
  | mk (k : Nat) (h0 : 1 ≤ k) (hk : k ≤ l.length ∨ k = 1) : NeiI x l a (l.length - k) ⟨276, [(21, .i k), (17, .d (intD l)), (13, .d (intD a)), (3, .ptr 3 0)], [(3, .box 29 [.d (Lo.lks x.s.locks), .d (Lo.qus x.s.queues), .d (Lo.il x.s.groups), .d (prgsD x.ps)])]⟩
inductive GoI (x : Sx) (h : XOk x) (l a : List Int) (k : Nat) : Nat → Sta → Prop
  | mk (i : Nat) (hi : i ≤ k) : GoI x h l a k (k - i) ⟨276, [(23, .i i), (22, .ptr 189 0), (21, .i ((k : Int) + 1)), (17, .d (intD l)), (13, .d (intD a)), (3, .ptr 3 0)], [(3, .box 29 [.d (Lo.lks x.s.locks), .d (Lo.qus x.s.queues), .d (Lo.il x.s.groups), .d (prgsD x.ps)]), (189, .sys ((refQ x h).at_ (some (l.take i))))]⟩
set_option maxRecDepth 100000 in
set_option maxHeartbeats 16000000 in
theorem lawNormal_m (x : Sx) (hx : Lies x) (hv : Vals x) (by_ : List Int) (hb : ∀ n ∈ by_, 0 ≤ n ∧ n ≤ 255) (hbl : by_.length ≤ 9223372036854775807) (other : List Int) : Meets Try.prog 3 [x.pv, .d (byD by_), .d (intD other)] [] (Ret (.b true)) := by
  refine meetsP [] tbSOk mixed Try.func3 pl3 rfl rfl ?_
  simp [Try.ntmps3]
  refine (small_m x hx).mono ?_
  rintro _ rfl
  cases hs : smallX x
  · simp
    refine awake_m.mono ?_
    rintro _ rfl
    simp
    refine vcRet_of [] ?_ rfl
    simp
  by_cases h100 : (100 : Int) < other.length
  · simp [h100]
    refine awake_m.mono ?_
    rintro _ rfl
    simp
    refine vcRet_of [] ?_ rfl
    simp
  have h := small_ok hs hv
  simp [h100]
  refine (playC h other).mono ?_
  rintro _ rfl
  simp
  refine (refPlayC h other).mono ?_
  rintro _ rfl
  simp
  refine (normC h other).mono ?_
  rintro _ rfl
  simp
  refine (refNormC h other).mono ?_
  rintro _ rfl
  simp
  refine (sameL_m (sysX x) other).mono ?_
  rintro _ rfl
  simp
  refine (picked_m x h by_ hb hbl).mono ?_
  rintro _ rfl
  have hC := comm_sys h.ok
  obtain ⟨hl, _⟩ := pickTo_legal (Y := sysX x) by_ (k := min by_.length 60) (by omega)
  have hl : legal (sysX x) (pickX (sysX x) by_) := hl
  generalize pickX (sysX x) by_ = l at hl ⊢
  obtain ⟨n1, n2, n3, n4⟩ := normal_legal hC hl
  obtain ⟨a, ha⟩ : ∃ a, normal (sysX x) l = a := ⟨_, rfl⟩
  rw [ha] at n1 n2 n3 n4
  obtain ⟨v1, v2, v3, v4⟩ := legal_vals hl
  obtain ⟨w1, w2, w3, w4⟩ := legal_vals n1
  rw [ha] at v4
  rw [n3] at w4
  have ho : (sysX x).out a = (sysX x).out l := by
    have := n2.out []
    simpa using this.symm
  have h60 := hl.1
  have c1 := normC h l
  have c2 := refNormC h l
  have c3 := normC h a
  have c4 := playC h l
  have c5 := playC h a
  rw [v3, v4] at c1 c2
  rw [w3, w4] at c3
  rw [v1, v2, v3] at c4
  rw [w1, w2, w3, ho] at c5
  simp
  refine c1.mono ?_
  rintro _ rfl
  simp
  refine c2.mono ?_
  rintro _ rfl
  simp
  refine c3.mono ?_
  rintro _ rfl
  simp
  refine c4.mono ?_
  rintro _ rfl
  simp
  refine c5.mono ?_
  rintro _ rfl
  have hsame := sameInts_m a a (by omega)
  rw [decide_eq_true rfl] at hsame
  simp
  refine hsame.mono ?_
  rintro _ rfl
  simp
  refine hsame.mono ?_
  rintro _ rfl
  simp
  refine vc_loop (NeiI x l a) ⟨_, _, .mk 1 (Nat.le_refl _) (.inr rfl), [], _, rfl, by simp⟩ ?_
  rintro n σ ⟨k, h0, hk⟩
  obtain ⟨k, rfl⟩ : ∃ k', k = k' + 1 := ⟨k - 1, by omega⟩
  by_cases hlt : k + 1 < l.length
  case neg =>
    have hlt' : ¬ (k : Int) + 1 < l.length := by omega
    simp [hlt']
    refine awake_m.mono ?_
    rintro _ rfl
    simp
    refine vcRet_of [] ?_ rfl
    simp
  have hlt' : (k : Int) + 1 < l.length := by omega
  have hw1 : IntKind.i64.wrap (k : Int) = k := wrap_in (by omega)
  have hkl : k < l.length := by omega
  obtain ⟨u, hu, eu⟩ := at_lt hkl
  obtain ⟨v, hv2, ev⟩ := at_lt hlt
  have hlk := legal_take hl k
  have hue := legal_at hl hu
  have hlk1 := legal_take hl (k + 1)
  have hve := legal_at hl hv2
  simp [hlt']
  refine (hideN h ((refQ x h).start none (fun _ h => by cases h))).mono ?_
  rintro _ rfl
  simp
  refine vc_loop (GoI x h l a k) ⟨_, _, .mk 0 (Nat.zero_le _), [], _, rfl, by simp⟩ ?_
  rintro n σ ⟨i, hi⟩
  by_cases hik : i < k
  · obtain ⟨t, ht, et⟩ := at_lt (show i < l.length by omega)
    have hil : i < l.length := by omega
    simp [hik, hw1, hil, et]
    refine ((refQ x h).step (l.take i) t (legal_take hl i) (legal_at hl ht) (by rw [List.length_take]; omega)).mono ?_
    rintro _ rfl
    simp [wrap_succ hik (show k < 4294967296 by omega)]
    refine ⟨k - (i + 1), by omega, _, .mk (i + 1) hik, [], _, rfl, ?_⟩
    rw [take_step ht]
    simp
  obtain rfl : i = k := by omega
  simp [hw1, hkl, eu]
  refine ((refQ x h).uses (l.take i) u hlk hue).mono ?_
  rintro _ rfl
  simp [hw1, hkl, eu]
  refine ((refQ x h).step (l.take i) u hlk hue (by rw [List.length_take]; omega)).mono ?_
  rintro _ rfl
  rw [← take_step hu]
  have hF := sys_fair h
  have hu1 := hF.uses (l.take i) u
  have hu2 := hF.uses (l.take (i + 1)) v
  have hp : (0 : Int) ≤ (i : Int) + 1 := by omega
  have hw2 : IntKind.i64.wrap ((i : Int) + 1 + 1) = (i : Int) + 1 + 1 := wrap_in (by omega)
  by_cases huv : u = v
  · simp [hw1, hw2, hkl, hlt, hlt', hp, eu, ev, huv]
    exact ⟨by kernel_rfl, _, by omega, _, .mk (i + 1 + 1) (by omega) (.inl (by omega)), [], _, rfl, by simp⟩
  cases hin : indy ((sysX x).foot (l.take i) u) ((sysX x).foot (l.take (i + 1)) v)
  · simp [hw1, hkl, hlt, hlt', hp, eu, ev, huv]
    refine effCall ((refQ x h).uses (l.take (i + 1)) v hlk1 hve) ?_
    simp
    refine effCall (indep_m ((sysX x).foot (l.take i) u) ((sysX x).foot (l.take (i + 1)) v) (by omega) (by omega)) ?_
    simp [hin]
    refine ⟨by kernel_rfl, ?_⟩
    simp [hw2]
    exact ⟨_, by omega, _, .mk (i + 1 + 1) (by omega) (.inl (by omega)), [], _, rfl, by simp⟩
  simp [hw1, hkl, hlt, hlt', hp, eu, ev, huv]
  refine effCall ((refQ x h).uses (l.take (i + 1)) v hlk1 hve) ?_
  simp
  refine effCall (indep_m ((sysX x).foot (l.take i) u) ((sysX x).foot (l.take (i + 1)) v) (by omega) (by omega)) ?_
  simp [hw1, hkl, hlt, hlt', hp, eu, ev, hin]
  refine ⟨by kernel_rfl, ⟨by omega, by kernel_rfl, ?_⟩⟩
  obtain ⟨sw1, sw2⟩ := swap_list hu hv2
  rw [take_step hu] at hin
  obtain ⟨d1, d2⟩ := normal_swap hC (p := l.take i) (a := u) (b := v) (v := l.drop (i + 2)) (by rw [← sw1]; exact hl) huv hin
  rw [← sw1, ha] at d2
  have hsets : ((List.map intC l).set i [D.v (Value.int IntKind.i64 v)]).set (i + 1) [D.v (Value.int IntKind.i64 u)] = (l.take i ++ v :: u :: l.drop (i + 2)).map intC := by
    rw [← sw2, List.map_set, List.map_set]
    rfl
  have hdl : (l.take i ++ v :: u :: l.drop (i + 2)).length = l.length := by rw [← sw2]; simp
  generalize l.take i ++ v :: u :: l.drop (i + 2) = d at d1 d2 hsets hdl
  obtain ⟨x1, x2, x3, x4⟩ := legal_vals d1
  rw [d2] at x4
  have c6 := normC h d
  rw [x3, x4] at c6
  rw [hsets, List.take_of_length_le (by rw [List.length_map, hdl]; exact Nat.le_refl _)]
  refine c6.mono ?_
  rintro _ rfl
  simp
  refine hsame.mono ?_
  rintro _ rfl
  simp [hw2]
  exact ⟨_, by omega, _, .mk (i + 1 + 1) (by omega) (.inl (by omega)), [], _, rfl, by simp⟩
end Go.Proofs.Ytplooifpgmlofaa
namespace Go.Proofs.Ytplooifpgmlofaa
open Go.RowKit Go.ChangeShapes Go.WideShapes
set_option maxRecDepth 100000
theorem opens30 : Opens Try.prog 30 (fun ds => ∃ x, ds = [x] ∧ ∃ l : List Int, x = byD l ∧ Far l ∧ ∀ n ∈ l, 0 ≤ n ∧ n ≤ 255) :=
  (opens_slice Try.underlying30 (by kernel_rfl) (opens5.mono (Q' := fun ds => ∃ n : Int, ds = byC n ∧ (0 ≤ n ∧ n ≤ 255)) fun ds ⟨x, h, n, e, hn⟩ => ⟨n, by rw [h, e]; rfl, hn⟩) (sz := 1) (by kernel_rfl) (by decide)).mono fun ds h => by
    obtain ⟨xs, rfl, h1, h2⟩ := h
    obtain ⟨ws, rfl, h3⟩ := rows_of h1
    exact ⟨_, rfl, ws, rfl, far_of (by simpa using h2), h3⟩
section
variable {H : Type} {enc : TypeId × Value → H} {w : World} {base : Nat} {spare : Nat → Bool} {held : Bool} {r : Reach} {b0 : Nat} {v : Value} {d : DataW H} {p : List MemPlace} {m : Map}
theorem argBy (hv : Value.okWide Try.prog w r b0 30 v) (h : DataW.Trod enc Try.prog w base spare held 30 v d p) : ∃ l : List Int, (Far l ∧ ∀ n ∈ l, 0 ≤ n ∧ n ≤ 255) ∧ Rep m w (allCells w) v (.d (byD l)) := by
  obtain ⟨A, n, c, rfl⟩ := okWide_slice Try.underlying30 hv
  obtain ⟨x, ⟨l, rfl, hl⟩, hr⟩ := arg_one (m := m) opens30 rfl h
  exact ⟨l, hl, hr⟩
theorem argInts (hv : Value.okWide Try.prog w r b0 24 v) (h : DataW.Trod enc Try.prog w base spare held 24 v d p) : ∃ l : List Int, Rep m w (allCells w) v (.d (intD l)) := by
  obtain ⟨A, n, c, rfl⟩ := okWide_slice Try.underlying24 hv
  obtain ⟨x, ⟨l, rfl, hl⟩, hr⟩ := arg_one (m := m) opens24 rfl h
  exact ⟨l, hr⟩
end
end Go.Proofs.Ytplooifpgmlofaa
namespace Go.Proofs.Ytplooifpgmlofaa.exploreNormal
open Go.ChangeShapes Go.WideShapes Go.ChangeAt Go.RowKit

theorem own : ownKnob Try.prog.godebug = none := by kernel_rfl
theorem laidOut : laidOutB Try.prog = true := by kernel_rfl

set_option maxRecDepth 100000 in
theorem lifted (os : Os) (started : os.Started) (H : Type) (enc : TypeId × Value → H) :
    ReturnsInHanded {} Try.checked os 3 .any (Rows.exploreNormalSpec.pre6 enc Try.prog Try.f3 Rows.exploreNormalRow.domain false) (Rows.exploreNormalSpec.post enc Try.prog Try.f3 false true false false) := by
  refine returnsInHanded_of_change (C := Try.checked) own started (by kernel_rfl) Try.func3
    (ChangeSpec.witness6 (enc := enc) (C := Try.checked) false ⟨#[], #[.agg #[.slice none 0 0, .slice none 0 0, .slice none 0 0, .slice none 0 0], .slice none 0 0, .slice none 0 0], []⟩ 8 (by kernel_rfl) (by kernel_rfl) (by kernel_rfl) (by kernel_rfl)) ?_
  intro W base args ds gs before hval0 hW hcnd _
  have hval : ∀ (j : Nat) t v, Try.f3.params[j]? = some t → args[j]? = some v → Value.okWide Try.prog W .any base t v := hval0
  have hW' := hW
  obtain ⟨p, q, hA0, hV, rfl, hfz, hnd⟩ := hW
  have hA : DataW.TrodAll enc Try.prog W 0 (fun _ => true) true Try.f3.params.toList args.toList ds p := hA0
  rw [Try.params3] at hA hval
  obtain ⟨v0, vs0, d0, ds0, p0, q0, hargs, rfl, rfl, h0, r0⟩ := trodAll_cons hA
  obtain ⟨v1, vs1, d1, ds1, p1, q1, rfl, rfl, rfl, h1, r1⟩ := trodAll_cons r0
  obtain ⟨v2, vs2, d2, ds2, p2, q2, rfl, rfl, rfl, h2, r2⟩ := trodAll_cons r1
  obtain ⟨rfl, rfl, rfl⟩ := trodAll_nil r2
  obtain rfl : args = #[v0, v1, v2] := by cases args; simp_all
  obtain ⟨rfl, rfl⟩ := trodVars_none hV
  have lt0 : ∀ x ∈ p0, x.block < W.heap.size := by obtain ⟨m, hm⟩ := h0; exact DataW.trod_lt m _ _ _ hm
  obtain ⟨x, ⟨hx, hy, hz⟩, g0⟩ := argSx (m := noMap) (hval 0 29 v0 rfl rfl) h0
  have lt1 : ∀ x ∈ p1, x.block < W.heap.size := by obtain ⟨m, hm⟩ := h1; exact DataW.trod_lt m _ _ _ hm
  obtain ⟨l, ⟨hl, hb⟩, g1⟩ := argBy (m := noMap) (hval 1 30 v1 rfl rfl) h1
  have lt2 : ∀ x ∈ p2, x.block < W.heap.size := by obtain ⟨m, hm⟩ := h2; exact DataW.trod_lt m _ _ _ hm
  obtain ⟨o, g2⟩ := argInts (m := noMap) (hval 2 24 v2 rfl rfl) h2
  refine (Meets.law (lawNormal_m x hx ⟨hy, hz⟩ l hb hl o) (w := W) (vs := #[v0, v1, v2]) ⟨g0, g1, g2, trivial⟩).mono fun e W' ⟨he, bel⟩ => ?_
  subst he
  exact ⟨_, rfl, _, _, _, [], _, [], hW', trodAll_mk1 (shut_bool Try.underlying4 _), (trodAll_cons_mk (Below.trod laidOut (by kernel_rfl) (of_decide_eq_true (by kernel_rfl)) h0 bel lt0) (trodAll_cons_mk (Below.trod laidOut (by kernel_rfl) (of_decide_eq_true (by kernel_rfl)) h1 bel lt1) (trodAll_cons_mk (Below.trod laidOut (by kernel_rfl) (of_decide_eq_true (by kernel_rfl)) h2 bel lt2) trodAll_mk0))), rfl, bel.frame _, fun h => by cases h⟩
end Go.Proofs.Ytplooifpgmlofaa.exploreNormal
namespace Go.Proofs.Ytplooifpgmlofaa
theorem exploreNormal_holds : Rows.ExploreNormalSaid :=
  OpenClaim.holds_of_wide 3 Try.f3 rfl rfl rfl rfl rfl rfl rfl ⟨rfl, rfl, rfl, rfl, rfl⟩ rfl rfl rfl rfl rfl (by kernel_rfl) Try.func3 (by kernel_rfl)
    (of_decide_eq_true (by kernel_rfl)) (by unfold Func.isWrapper; rw [if_neg (of_decide_eq_false (by kernel_rfl))]; exact ⟨rfl, rfl⟩)
    (fun os started H enc _ => exploreNormal.lifted os started H enc)
#print axioms exploreNormal_holds
end Go.Proofs.Ytplooifpgmlofaa
