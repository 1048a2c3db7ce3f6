/- Traces. No condition. -/
import Derived.Test.YtplooifpgmlofaaGreatN8
import Derived.Test.YtplooifpgmlofaaGreatN13
namespace Go.Proofs.YtplooifpgmlofaaGreat
open Go.RowKit

def frontS : List Stp → Int → Option Stp
  | [], _ => none
  | x :: l, t => if x.task = t then some x else match frontS l t with
    | some s => if indy x.uses s.uses then some s else none
    | none => none
def remS : List Stp → Int → List Stp
  | [], _ => []
  | x :: l, t => if x.task = t then l else x :: remS l t
theorem front_free : ∀ (l : List Stp) (i : Nat) (s : Stp), l[i]? = some s → heldBy (l.take i) s = false → frontS l s.task = some s ∧ remS l s.task = l.eraseIdx i
  | [], i, s, h, _ => by simp at h
  | x :: l, 0, s, h, _ => by
    obtain rfl : x = s := by simpa using h
    simp [frontS, remS]
  | x :: l, i + 1, s, h, hh => by
    simp only [List.getElem?_cons_succ] at h
    simp only [heldBy, List.take_succ_cons, List.any_cons, Bool.or_eq_false_iff, beq_eq_false_iff_ne, Bool.not_eq_false'] at hh
    obtain ⟨⟨h1, h2⟩, h3⟩ := hh
    obtain ⟨e1, e2⟩ := front_free l i s h (by unfold heldBy; exact h3)
    simp [frontS, remS, h1, e1, e2, h2]
theorem free_front : ∀ (l : List Stp) (t : Int) (s : Stp), frontS l t = some s → s.task = t ∧ ∃ i, l[i]? = some s ∧ heldBy (l.take i) s = false
  | [], t, s, h => by cases h
  | x :: l, t, s, h => by
    unfold frontS at h
    split at h
    · rename_i hx
      obtain rfl := Option.some.inj h
      exact ⟨hx, 0, rfl, rfl⟩
    · rename_i hx
      split at h
      · rename_i s' hs'
        split at h
        · rename_i hi
          obtain rfl := Option.some.inj h
          obtain ⟨ht, i, h1, h2⟩ := free_front l t s' hs'
          refine ⟨ht, i + 1, by simpa using h1, ?_⟩
          unfold heldBy at h2 ⊢
          rw [List.take_succ_cons, List.any_cons, h2, hi]
          simp
          exact fun e => hx (e.trans ht)
        · cases h
      · cases h
theorem best_free (l : List Stp) : ∀ k, k ≤ l.length → (0 ≤ bestTo l k → ∃ s, l[(bestTo l k).toNat]? = some s ∧ heldBy (l.take (bestTo l k).toNat) s = false) ∧
    ∀ i s, i < k → l[i]? = some s → heldBy (l.take i) s = false → 0 ≤ bestTo l k ∧ taskAt l (bestTo l k) ≤ s.task
  | 0, _ => ⟨fun h => by simp [bestTo] at h, fun i s h => by omega⟩
  | k + 1, hk => by
    obtain ⟨ih1, ih2⟩ := best_free l k (by omega)
    obtain ⟨s, hs, _⟩ := at_lt (show k < l.length by omega)
    have hb := bestTo_lt l k
    have e : bestTo l (k + 1) = if 0 ≤ bestTo l k ∧ taskAt l (bestTo l k) ≤ s.task then bestTo l k else if heldBy (l.take k) s = true then bestTo l k else k := by
      rw [bestTo, hs]
    rw [e]
    have htk : taskAt l (k : Int) = s.task := by simp [taskAt, hs]
    by_cases h1 : 0 ≤ bestTo l k ∧ taskAt l (bestTo l k) ≤ s.task
    · rw [if_pos h1]
      refine ⟨ih1, fun i u hi hu hf => ?_⟩
      rcases Nat.lt_or_ge i k with hik | hik
      · exact ih2 i u hik hu hf
      · obtain rfl : i = k := by omega
        rw [hs] at hu; cases hu
        exact h1
    · rw [if_neg h1]
      by_cases h2 : heldBy (l.take k) s = true
      · rw [if_pos h2]
        refine ⟨ih1, fun i u hi hu hf => ?_⟩
        rcases Nat.lt_or_ge i k with hik | hik
        · exact ih2 i u hik hu hf
        · obtain rfl : i = k := by omega
          rw [hs] at hu; cases hu
          rw [h2] at hf; cases hf
      · rw [if_neg h2]
        refine ⟨fun _ => ⟨s, by simpa using hs, by simpa using h2⟩, fun i u hi hu hf => ⟨by omega, ?_⟩⟩
        rw [htk]
        rcases Nat.lt_or_ge i k with hik | hik
        · have := ih2 i u hik hu hf
          have h3 : ¬ taskAt l (bestTo l k) ≤ s.task := fun h => h1 ⟨this.1, h⟩
          omega
        · obtain rfl : i = k := by omega
          rw [hs] at hu; cases hu
          exact Int.le_refl _
def leastS (l : List Stp) (t : Int) : Prop := (frontS l t).isSome = true ∧ ∀ u, (frontS l u).isSome = true → t ≤ u
theorem leastS_unique {l : List Stp} {t u : Int} (h1 : leastS l t) (h2 : leastS l u) : t = u := by
  have := h1.2 u h2.1
  have := h2.2 t h1.1
  omega
theorem best_least (l : List Stp) (h : l ≠ []) : leastS l (taskAt l (bestTo l l.length)) ∧ l.eraseIdx (bestTo l l.length).toNat = remS l (taskAt l (bestTo l l.length)) := by
  have hb := bestTo_pos l l.length (List.length_pos_iff.2 h) (Nat.le_refl _)
  obtain ⟨h1, h2⟩ := best_free l l.length (Nat.le_refl _)
  obtain ⟨s, hs, hf⟩ := h1 hb
  obtain ⟨f1, f2⟩ := front_free l _ s hs hf
  have ht : taskAt l (bestTo l l.length) = s.task := by simp [taskAt, hs]
  rw [ht]
  refine ⟨⟨by rw [f1]; rfl, fun u hu => ?_⟩, f2.symm⟩
  obtain ⟨s', hs'⟩ := Option.isSome_iff_exists.1 hu
  obtain ⟨e, i, g1, g2⟩ := free_front l u s' hs'
  have := h2 i s' (List.getElem?_eq_some_iff.1 g1).1 g1 g2
  rw [ht] at this
  omega
theorem normX_least {n : Nat} {l : List Stp} {t : Int} (h : leastS l t) : normX (n + 1) l = t :: normX n (remS l t) := by
  have h0 : l ≠ [] := fun e => by rw [e] at h; exact absurd h.1 (by simp [frontS])
  obtain ⟨h1, h2⟩ := best_least l h0
  obtain rfl := leastS_unique h h1
  rw [normX, if_neg h0, h2]
theorem has_least {l : List Stp} (h : l ≠ []) : ∃ t, leastS l t := ⟨_, (best_least l h).1⟩
theorem remS_len : ∀ {l : List Stp} {t : Int}, (frontS l t).isSome = true → (remS l t).length + 1 = l.length
  | [], t, h => by cases h
  | x :: l, t, h => by
    unfold remS
    split
    · rfl
    · rename_i hx
      unfold frontS at h
      rw [if_neg hx] at h
      have : (frontS l t).isSome = true := by
        split at h
        · rename_i e; rw [e]; rfl
        · cases h
      simp [remS_len this]
inductive Swp : List Stp → List Stp → Prop
  | mk (u : List Stp) (x y : Stp) (v : List Stp) (ht : x.task ≠ y.task) (hi : indy x.uses y.uses = true) : Swp (u ++ x :: y :: v) (u ++ y :: x :: v)
theorem Swp.cons {l m : List Stp} (x : Stp) (h : Swp l m) : Swp (x :: l) (x :: m) := by
  obtain ⟨u, a, b, v, ht, hi⟩ := h
  exact .mk (x :: u) a b v ht hi
theorem Swp.length {l m : List Stp} (h : Swp l m) : l.length = m.length := by
  obtain ⟨u, a, b, v, ht, hi⟩ := h
  simp
theorem frontS_swp2 (x y : Stp) (v : List Stp) (ht : x.task ≠ y.task) (hi : indy x.uses y.uses = true) (t : Int) : frontS (x :: y :: v) t = frontS (y :: x :: v) t := by
  have hi' : indy y.uses x.uses = true := by rw [indy_comm]; exact hi
  by_cases hx : x.task = t
  · have hy : y.task ≠ t := fun e => ht (hx.trans e.symm)
    simp [frontS, hx, hy, hi']
  · by_cases hy : y.task = t
    · simp [frontS, hx, hy, hi]
    · simp only [frontS, if_neg hx, if_neg hy]
      cases frontS v t with
      | none => rfl
      | some s =>
        dsimp only
        cases h1 : indy y.uses s.uses <;> cases h2 : indy x.uses s.uses <;> simp [h1, h2]
theorem frontS_swp {l m : List Stp} (h : Swp l m) (t : Int) : frontS l t = frontS m t := by
  obtain ⟨u, x, y, v, ht, hi⟩ := h
  induction u with
  | nil => exact frontS_swp2 x y v ht hi t
  | cons a u ih => simp only [List.cons_append, frontS, ih]
theorem remS_swp {l m : List Stp} (h : Swp l m) (t : Int) : remS l t = remS m t ∨ Swp (remS l t) (remS m t) := by
  obtain ⟨u, x, y, v, ht, hi⟩ := h
  induction u with
  | nil =>
    show remS (x :: y :: v) t = remS (y :: x :: v) t ∨ Swp (remS (x :: y :: v) t) (remS (y :: x :: v) t)
    by_cases hx : x.task = t
    · have hy : y.task ≠ t := fun e => ht (hx.trans e.symm)
      exact .inl (by simp [remS, hx, hy])
    · by_cases hy : y.task = t
      · exact .inl (by simp [remS, hx, hy])
      · refine .inr ?_
        simp only [remS, if_neg hx, if_neg hy]
        exact .mk [] x y _ ht hi
  | cons a u ih =>
    simp only [List.cons_append, remS]
    by_cases ha : a.task = t
    · rw [if_pos ha, if_pos ha]
      exact .inr (.mk u x y v ht hi)
    · rw [if_neg ha, if_neg ha]
      rcases ih with e | h
      · exact .inl (by rw [e])
      · exact .inr (h.cons a)
theorem leastS_swp {l m : List Stp} (h : Swp l m) {t : Int} (ht : leastS l t) : leastS m t := ⟨by rw [← frontS_swp h]; exact ht.1, fun u hu => ht.2 u (by rw [frontS_swp h]; exact hu)⟩
theorem normX_swp : ∀ (n : Nat) {l m : List Stp}, l.length = n → Swp l m → normX n l = normX n m
  | 0, _, _, _, _ => rfl
  | n + 1, l, m, hl, h => by
    have h0 : l ≠ [] := fun e => by rw [e] at hl; cases hl
    obtain ⟨t, ht⟩ := has_least h0
    rw [normX_least ht, normX_least (leastS_swp h ht)]
    have hr := remS_len ht.1
    rcases remS_swp h t with e | h'
    · rw [e]
    · rw [normX_swp n (by omega) h']
inductive Sws : List Stp → List Stp → Prop
  | refl (l : List Stp) : Sws l l
  | step {l m n : List Stp} (h : Swp l m) (h2 : Sws m n) : Sws l n
theorem Sws.trans {l m n : List Stp} (h1 : Sws l m) (h2 : Sws m n) : Sws l n := by
  induction h1 with
  | refl => exact h2
  | step h _ ih => exact .step h (ih h2)
theorem Sws.cons {l m : List Stp} (x : Stp) (h : Sws l m) : Sws (x :: l) (x :: m) := by
  induction h with
  | refl => exact .refl _
  | step h _ ih => exact .step (h.cons x) ih
theorem Sws.length {l m : List Stp} (h : Sws l m) : l.length = m.length := by
  induction h with
  | refl => rfl
  | step h _ ih => rw [h.length, ih]
theorem normX_sws {n : Nat} {l m : List Stp} (hl : l.length = n) (h : Sws l m) : normX n l = normX n m := by
  induction h with
  | refl => rfl
  | step h _ ih => rw [normX_swp n hl h, ih (by rw [← h.length]; exact hl)]
theorem sws_front : ∀ (l : List Stp) (t : Int) (s : Stp), frontS l t = some s → Sws l (s :: remS l t)
  | [], t, s, h => by cases h
  | x :: l, t, s, h => by
    unfold frontS at h
    unfold remS
    split at h
    · rename_i hx
      obtain rfl := Option.some.inj h
      rw [if_pos hx]
      exact .refl _
    · rename_i hx
      rw [if_neg hx]
      split at h
      · rename_i s' hs'
        split at h
        · rename_i hi
          obtain rfl := Option.some.inj h
          have ht := (free_front l t s' hs').1
          exact ((sws_front l t s' hs').cons x).trans (.step (.mk [] x s' _ (by rw [ht]; exact hx) hi) (.refl _))
        · cases h
      · cases h
theorem norm_sws : ∀ (n : Nat) (l : List Stp), l.length = n → ∃ m, Sws l m ∧ m.map Stp.task = normX n l
  | 0, l, h => ⟨l, .refl _, by rw [List.eq_nil_of_length_eq_zero h]; rfl⟩
  | n + 1, l, h => by
    obtain ⟨t, ht⟩ := has_least (l := l) (fun e => by rw [e] at h; cases h)
    obtain ⟨s, hs⟩ := Option.isSome_iff_exists.1 ht.1
    have hr := remS_len ht.1
    obtain ⟨m, h1, h2⟩ := norm_sws n (remS l t) (by omega)
    refine ⟨s :: m, (sws_front l t s hs).trans (h1.cons s), ?_⟩
    rw [normX_least ht, List.map_cons, h2, (free_front l t s hs).1]

def stepsF (Y : Sys) (q : List Int) : List Int → List Stp
  | [] => []
  | t :: r => ⟨t, Y.foot q t⟩ :: stepsF Y (q ++ [t]) r
def legalF (Y : Sys) (q : List Int) : List Int → Prop
  | [] => True
  | t :: r => t ∈ Y.en q ∧ legalF Y (q ++ [t]) r
theorem legalF_at {Y : Sys} : ∀ {r q : List Int}, legalF Y q r ↔ ∀ i t, r[i]? = some t → t ∈ Y.en (q ++ r.take i)
  | [], q => by simp [legalF]
  | t :: r, q => by
    unfold legalF
    rw [legalF_at (r := r)]
    constructor
    · rintro ⟨h1, h2⟩ i u hu
      cases i with
      | zero => simp at hu; subst hu; simpa using h1
      | succ i => simpa using h2 i u (by simpa using hu)
    · intro h
      refine ⟨by simpa using h 0 t rfl, fun i u hu => ?_⟩
      have := h (i + 1) u (by simpa using hu)
      simpa using this
theorem legal_F {Y : Sys} {p : List Int} : legal Y p ↔ p.length ≤ 60 ∧ legalF Y [] p := by
  unfold legal
  rw [legalF_at]
  simp
theorem legalF_append {Y : Sys} : ∀ {r q s : List Int}, legalF Y q (r ++ s) ↔ legalF Y q r ∧ legalF Y (q ++ r) s
  | [], q, s => by simp [legalF]
  | t :: r, q, s => by
    rw [List.cons_append, legalF, legalF, legalF_append, List.append_assoc, and_assoc]
    rfl
theorem stepsF_append {Y : Sys} : ∀ {r q s : List Int}, stepsF Y q (r ++ s) = stepsF Y q r ++ stepsF Y (q ++ r) s
  | [], q, s => by simp [stepsF]
  | t :: r, q, s => by
    rw [List.cons_append, stepsF, stepsF, stepsF_append, List.append_assoc]
    rfl
theorem stepsF_task {Y : Sys} : ∀ {r q : List Int}, (stepsF Y q r).map Stp.task = r
  | [], _ => rfl
  | t :: r, q => by rw [stepsF, List.map_cons, stepsF_task]
theorem stepsF_len {Y : Sys} (r q : List Int) : (stepsF Y q r).length = r.length := by
  have := congrArg List.length (stepsF_task (Y := Y) (r := r) (q := q))
  simpa using this
theorem stepsK_F {Y : Sys} (p : List Int) : ∀ k, k ≤ p.length → stepsK Y p k = stepsF Y [] (p.take k)
  | 0, _ => by simp [stepsK, stepsF]
  | k + 1, h => by
    obtain ⟨t, ht, _⟩ := at_lt (show k < p.length by omega)
    rw [stepsK_succ ht, stepsK_F p k (by omega), take_step ht, stepsF_append]
    rfl
theorem steps_all (Y : Sys) (p : List Int) : stepsK Y p p.length = stepsF Y [] p := by
  rw [stepsK_F p p.length (Nat.le_refl _), List.take_length]
structure Alike (Y : Sys) (p p' : List Int) : Prop where
  en : ∀ v, Y.en (p ++ v) = Y.en (p' ++ v)
  foot : ∀ v t, Y.foot (p ++ v) t = Y.foot (p' ++ v) t
  done : ∀ v, Y.done (p ++ v) = Y.done (p' ++ v)
  out : ∀ v, Y.out (p ++ v) = Y.out (p' ++ v)
theorem Alike.refl (Y : Sys) (p : List Int) : Alike Y p p := ⟨fun _ => rfl, fun _ _ => rfl, fun _ => rfl, fun _ => rfl⟩
theorem Alike.trans {Y : Sys} {p q r : List Int} (h1 : Alike Y p q) (h2 : Alike Y q r) : Alike Y p r := ⟨fun v => (h1.en v).trans (h2.en v), fun v t => (h1.foot v t).trans (h2.foot v t), fun v => (h1.done v).trans (h2.done v), fun v => (h1.out v).trans (h2.out v)⟩
theorem Alike.app {Y : Sys} {p q : List Int} (h : Alike Y p q) (r : List Int) : Alike Y (p ++ r) (q ++ r) := ⟨fun v => by simpa using h.en (r ++ v), fun v t => by simpa using h.foot (r ++ v) t, fun v => by simpa using h.done (r ++ v), fun v => by simpa using h.out (r ++ v)⟩
theorem Alike.steps {Y : Sys} : ∀ {r p q : List Int}, Alike Y p q → stepsF Y p r = stepsF Y q r
  | [], _, _, _ => rfl
  | t :: r, p, q, h => by
    rw [stepsF, stepsF, (h.app [t]).steps]
    have := h.foot [] t
    simp only [List.append_nil] at this
    rw [this]
theorem Alike.legal {Y : Sys} : ∀ {r p q : List Int}, Alike Y p q → legalF Y p r → legalF Y q r
  | [], _, _, _, _ => trivial
  | t :: r, p, q, h, hl => by
    have := h.en []
    simp only [List.append_nil] at this
    exact ⟨by rw [← this]; exact hl.1, (h.app [t]).legal hl.2⟩
def Comm (Y : Sys) : Prop := ∀ p a b, legal Y (p ++ [a, b]) → a ≠ b → indy (Y.foot p a) (Y.foot (p ++ [a]) b) = true →
  b ∈ Y.en p ∧ a ∈ Y.en (p ++ [b]) ∧ Y.foot p b = Y.foot (p ++ [a]) b ∧ Y.foot (p ++ [b]) a = Y.foot p a ∧ Alike Y (p ++ [a, b]) (p ++ [b, a])
theorem swp_turns {Y : Sys} (hY : Comm Y) {p : List Int} (hp : legal Y p) {m : List Stp} (h : Swp (stepsF Y [] p) m) : ∃ p', legal Y p' ∧ stepsF Y [] p' = m ∧ Alike Y p p' := by
  obtain ⟨h60, hl⟩ := legal_F.1 hp
  generalize hs : stepsF Y [] p = l at h
  obtain ⟨u, x, y, v, ht, hi⟩ := h
  have hpm : p = u.map Stp.task ++ x.task :: y.task :: v.map Stp.task := by
    have := stepsF_task (Y := Y) (r := p) (q := [])
    rw [hs] at this
    rw [← this]; simp
  generalize hu : u.map Stp.task = pu at hpm
  generalize hv : v.map Stp.task = pv at hpm
  obtain ⟨a, f⟩ := x
  obtain ⟨b, g⟩ := y
  dsimp only at ht hi hpm
  subst hpm
  have hul : (stepsF Y [] pu).length = u.length := by rw [stepsF_len, ← hu]; simp
  rw [stepsF_append] at hs
  obtain ⟨e1, e2⟩ := List.append_inj hs hul
  simp only [List.nil_append, stepsF, List.cons.injEq, Stp.mk.injEq, true_and] at e2
  obtain ⟨rfl, rfl, e3⟩ := e2
  rw [legalF_append] at hl
  obtain ⟨hl1, hl2, hl3, hl4⟩ := hl
  simp only [List.nil_append] at hl2 hl3 hl4
  simp only [List.length_append, List.length_cons] at h60
  have hab : legal Y (pu ++ [a, b]) := legal_F.2 ⟨by simp; omega, legalF_append.2 ⟨hl1, by simpa [legalF] using ⟨hl2, hl3⟩⟩⟩
  obtain ⟨c1, c2, c3, c4, c5⟩ := hY pu a b hab ht hi
  refine ⟨pu ++ b :: a :: pv, legal_F.2 ⟨by simp; omega, legalF_append.2 ⟨hl1, ?_⟩⟩, ?_, ?_⟩
  · simp only [List.nil_append, legalF]
    refine ⟨c1, c2, ?_⟩
    have := c5.legal (r := pv) (by simpa using hl4)
    simpa using this
  · rw [stepsF_append, e1]
    simp only [List.nil_append, stepsF, c3, c4]
    have := c5.steps (r := pv)
    simp only [List.append_assoc, List.cons_append, List.nil_append] at this e3 ⊢
    rw [← this, e3]
  · have := c5.app pv
    simpa using this
theorem sws_turns {Y : Sys} (hY : Comm Y) {l m : List Stp} (h : Sws l m) : ∀ {p : List Int}, legal Y p → stepsF Y [] p = l → ∃ p', legal Y p' ∧ stepsF Y [] p' = m ∧ Alike Y p p' := by
  induction h with
  | refl => exact fun hp he => ⟨_, hp, he, .refl _ _⟩
  | step h _ ih =>
    intro p hp he
    obtain ⟨p1, h1, h2, h3⟩ := swp_turns hY hp (by rw [he]; exact h)
    obtain ⟨p2, g1, g2, g3⟩ := ih h1 h2
    exact ⟨p2, g1, g2, h3.trans g3⟩
theorem normal_F (Y : Sys) (p : List Int) : normal Y p = normX p.length (stepsF Y [] p) := by rw [normal, steps_all]
theorem normal_legal {Y : Sys} (hY : Comm Y) {p : List Int} (hp : legal Y p) : legal Y (normal Y p) ∧ Alike Y p (normal Y p) ∧ normal Y (normal Y p) = normal Y p ∧ (normal Y p).length = p.length := by
  obtain ⟨m, h1, h2⟩ := norm_sws p.length (stepsF Y [] p) (stepsF_len _ _)
  rw [← normal_F] at h2
  obtain ⟨p', g1, g2, g3⟩ := sws_turns hY h1 hp rfl
  have e : p' = normal Y p := by rw [← h2, ← g2, stepsF_task]
  subst e
  have hlen : (normal Y p).length = p.length := by
    rw [← stepsF_len (Y := Y) (normal Y p) [], g2, ← h1.length, stepsF_len]
  refine ⟨g1, g3, ?_, hlen⟩
  rw [normal_F Y (normal Y p), g2, hlen, ← normX_sws (stepsF_len _ _) h1, ← normal_F]
end Go.Proofs.YtplooifpgmlofaaGreat
namespace Go.Proofs.YtplooifpgmlofaaGreat
open Go.RowKit
open Lo (Sy Lk Qu onLock onQueue addS lockF unlockF rlockF runlockF sendF recvF shutF recvV recvB thereS chk Fits known queueE groupE hasT putIn lower asc inT)

inductive Kd | lk | qu | gr | no
deriving DecidableEq
inductive Cel | lk (l : Lk) | qu (u : Qu) | gr (g : Int) | no
def getC (s : Sy) (n : Int) : Kd → Option Cel
 | .lk => if n < 0 then none else s.locks[n.toNat]?.map .lk
 | .qu => if n < 0 then none else s.queues[n.toNat]?.map .qu
 | .gr => if n < 0 then none else s.groups[n.toNat]?.map .gr
 | .no => some .no
theorem getC_lk (s : Sy) (n : Int) : getC s n .lk = if n < 0 then none else s.locks[n.toNat]?.map .lk := rfl
theorem getC_qu (s : Sy) (n : Int) : getC s n .qu = if n < 0 then none else s.queues[n.toNat]?.map .qu := rfl
theorem getC_gr (s : Sy) (n : Int) : getC s n .gr = if n < 0 then none else s.groups[n.toNat]?.map .gr := rfl
def putC (s : Sy) (n : Int) : Kd → Cel → Sy
 | .lk, .lk l => ⟨s.locks.set n.toNat l, s.queues, s.groups⟩
 | .qu, .qu u => ⟨s.locks, s.queues.set n.toNat u, s.groups⟩
 | .gr, .gr g => ⟨s.locks, s.queues, s.groups.set n.toNat g⟩
 | _, _ => s
structure Ax where
 kd : Kd
 at_ : Int
 f : Cel → Cel × Int × List Int
def doA (s : Sy) (a : Ax) : Sy × Int × List Int := match getC s a.at_ a.kd with
 | none => (s, 4, [])
 | some c => (putC s a.at_ a.kd (a.f c).1, (a.f c).2.1, (a.f c).2.2)
def lkA (F : Lk → Int × Lk) : Cel → Cel × Int × List Int
 | .lk l => (.lk (F l).2, (F l).1, [])
 | c => (c, 0, [])
def quA (F : Qu → Int × Qu) : Cel → Cel × Int × List Int
 | .qu u => (.qu (F u).2, (F u).1, [])
 | c => (c, 0, [])
def rcA : Cel → Cel × Int × List Int
 | .qu u => (.qu (recvF u).2, (recvF u).1, if (recvF u).1 = 0 then [if decide (0 < u.items.length) = true then u.items.headD 0 else -1] else [])
 | c => (c, 0, [])
def grA (v : Int) : Cel → Cel × Int × List Int
 | .gr g => if v < -g ∨ 1000 - g < v then (.gr g, 7, []) else (.gr (g + v), 0, [])
 | c => (c, 0, [])
def axOf (t : Int) (x : Ins) : Ax :=
 if x.op = 0 then ⟨.no, 0, fun c => (c, 0, [x.val])⟩
 else if x.op = 1 then ⟨.lk, x.obj, lkA (lockF t)⟩
 else if x.op = 2 then ⟨.lk, x.obj, lkA (unlockF t)⟩
 else if x.op = 3 then ⟨.lk, x.obj, lkA (rlockF t)⟩
 else if x.op = 4 then ⟨.lk, x.obj, lkA (runlockF t)⟩
 else if x.op = 5 then ⟨.qu, x.obj, quA (sendF x.val)⟩
 else if x.op = 6 then ⟨.qu, x.obj, rcA⟩
 else if x.op = 7 then ⟨.qu, x.obj, quA shutF⟩
 else if x.op = 8 then ⟨.gr, x.obj, grA x.val⟩
 else if x.op = 9 then ⟨.gr, x.obj, grA (-1)⟩
 else ⟨.no, 0, fun c => (c, 0, [])⟩
theorem set_self {α : Type} {l : List α} {i : Nat} {x : α} (h : l[i]? = some x) : l.set i x = l := by
 apply List.ext_getElem?
 intro j
 rw [List.getElem?_set]
 split
 ·rename_i e
  subst e
  rw [if_pos (List.getElem?_eq_some_iff.1 h).1, h]
 ·rfl
theorem range_some {α : Type} {l : List α} {n : Int} (h : ¬ (n < 0 ∨ (l.length : Int) ≤ n)) : ∃ x, l[n.toNat]? = some x := ⟨_, List.getElem?_eq_getElem (by omega)⟩
theorem range_none {α : Type} {l : List α} {n : Int} (h : n < 0 ∨ (l.length : Int) ≤ n) (h0 : ¬ n < 0) : l[n.toNat]? = none := List.getElem?_eq_none (by omega)
theorem onLock_run (s : Sy) (n t : Int) (F : Lk → Int × Lk) (hc : chk s = 0) (ht : inT t = true) (hF : ∀ l, (F l).1 ≠ 0 → (F l).2 = l) : onLock s n t F = ((doA s ⟨.lk, n, lkA F⟩).1, (doA s ⟨.lk, n, lkA F⟩).2.1) ∧ (doA s ⟨.lk, n, lkA F⟩).2.2 = [] := by
 by_cases hr : n < 0 ∨ (s.locks.length : Int) ≤ n
 ·have hk : known s n t = 4 := by unfold known; rw [if_neg (by simp [hc]), if_pos hr]
  have hg : getC s n .lk = none := by
   rw [getC_lk]
   by_cases h0 : n < 0
   ·rw [if_pos h0]
   ·rw [if_neg h0, range_none hr h0]; rfl
  unfold onLock doA
  rw [hk, hg]
  simp
 ·have hk : known s n t = 0 := by unfold known; rw [if_neg (by simp [hc]), if_neg hr, if_pos ht]
  obtain ⟨l, hl⟩ := range_some hr
  have hg : getC s n .lk = some (.lk l) := by rw [getC_lk]; rw [if_neg (by omega), hl]; rfl
  have hd : s.locks.getD n.toNat default = l := by rw [List.getD_eq_getElem?_getD, hl]; rfl
  unfold onLock doA
  rw [hk, hg, hd]
  simp only [ne_eq, not_true_eq_false, if_false, lkA, putC]
  by_cases he : (F l).1 = 0
  ·simp [he]
  ·simp only [he, not_false_eq_true, if_true, hF l he, set_self hl, and_self]
theorem onQueue_run (s : Sy) (n : Int) (F : Qu → Int × Qu) (hc : chk s = 0) (hF : ∀ l, (F l).1 ≠ 0 → (F l).2 = l) : onQueue s n F = ((doA s ⟨.qu, n, quA F⟩).1, (doA s ⟨.qu, n, quA F⟩).2.1) ∧ (doA s ⟨.qu, n, quA F⟩).2.2 = [] := by
 by_cases hr : n < 0 ∨ (s.queues.length : Int) ≤ n
 ·have hk : queueE s n = 4 := by unfold queueE; rw [if_neg (by simp [hc]), if_pos hr]
  have hg : getC s n .qu = none := by
   rw [getC_qu]
   by_cases h0 : n < 0
   ·rw [if_pos h0]
   ·rw [if_neg h0, range_none hr h0]; rfl
  unfold onQueue doA
  rw [hk, hg]
  simp
 ·have hk : queueE s n = 0 := by unfold queueE; rw [if_neg (by simp [hc]), if_neg hr]
  obtain ⟨l, hl⟩ := range_some hr
  have hg : getC s n .qu = some (.qu l) := by rw [getC_qu]; rw [if_neg (by omega), hl]; rfl
  have hd : s.queues.getD n.toNat default = l := by rw [List.getD_eq_getElem?_getD, hl]; rfl
  unfold onQueue doA
  rw [hk, hg, hd]
  simp only [ne_eq, not_true_eq_false, if_false, quA, putC]
  by_cases he : (F l).1 = 0
  ·simp [he]
  ·simp only [he, not_false_eq_true, if_true, hF l he, set_self hl, and_self]
theorem recvF_same : ∀ l, (recvF l).1 ≠ 0 → (recvF l).2 = l := fun l h => by
 unfold recvF at h ⊢
 repeat' split
 all_goals simp_all
theorem recv_run (s : Sy) (n : Int) (hc : chk s = 0) : onQueue s n recvF = ((doA s ⟨.qu, n, rcA⟩).1, (doA s ⟨.qu, n, rcA⟩).2.1) ∧ (doA s ⟨.qu, n, rcA⟩).2.2 = if (onQueue s n recvF).2 = 0 then [if recvB s n = true then recvV s n else -1] else [] := by
 obtain ⟨h1, _⟩ := onQueue_run s n recvF hc recvF_same
 have e : (doA s ⟨.qu, n, rcA⟩).1 = (doA s ⟨.qu, n, quA recvF⟩).1 ∧ (doA s ⟨.qu, n, rcA⟩).2.1 = (doA s ⟨.qu, n, quA recvF⟩).2.1 := by
  unfold doA
  dsimp only
  cases hg : getC s n .qu with
  | none => exact ⟨rfl, rfl⟩
  | some c => cases c <;> exact ⟨rfl, rfl⟩
 refine ⟨by rw [e.1, e.2]; exact h1, ?_⟩
 by_cases hr : n < 0 ∨ (s.queues.length : Int) ≤ n
 ·have hk : queueE s n = 4 := by unfold queueE; rw [if_neg (by simp [hc]), if_pos hr]
  have hg : getC s n .qu = none := by
   rw [getC_qu]
   by_cases h0 : n < 0
   ·rw [if_pos h0]
   ·rw [if_neg h0, range_none hr h0]; rfl
  unfold onQueue doA
  rw [hk, hg]
  simp
 ·have hk : queueE s n = 0 := by unfold queueE; rw [if_neg (by simp [hc]), if_neg hr]
  obtain ⟨l, hl⟩ := range_some hr
  have hg : getC s n .qu = some (.qu l) := by rw [getC_qu]; rw [if_neg (by omega), hl]; rfl
  have hd : s.queues.getD n.toNat default = l := by rw [List.getD_eq_getElem?_getD, hl]; rfl
  unfold onQueue doA recvB recvV
  rw [hk, hg, hd]
  simp only [ne_eq, not_true_eq_false, if_false, rcA, if_true]
  by_cases he : (recvF l).1 = 0
  ·simp [he]
  ·simp [he]
theorem addS_run (s : Sy) (n v : Int) (hc : chk s = 0) : addS s n v = ((doA s ⟨.gr, n, grA v⟩).1, (doA s ⟨.gr, n, grA v⟩).2.1) ∧ (doA s ⟨.gr, n, grA v⟩).2.2 = [] := by
 by_cases hr : n < 0 ∨ (s.groups.length : Int) ≤ n
 ·have hk : groupE s n = 4 := by unfold groupE; rw [if_neg (by simp [hc]), if_pos hr]
  have hg : getC s n .gr = none := by
   rw [getC_gr]
   by_cases h0 : n < 0
   ·rw [if_pos h0]
   ·rw [if_neg h0, range_none hr h0]; rfl
  unfold addS doA
  rw [hk, hg]
  simp
 ·have hk : groupE s n = 0 := by unfold groupE; rw [if_neg (by simp [hc]), if_neg hr]
  obtain ⟨l, hl⟩ := range_some hr
  have hg : getC s n .gr = some (.gr l) := by rw [getC_gr]; rw [if_neg (by omega), hl]; rfl
  have hd : s.groups.getD n.toNat 0 = l := by rw [List.getD_eq_getElem?_getD, hl]; rfl
  unfold addS doA
  rw [hk, hg, hd]
  simp only [ne_eq, not_true_eq_false, if_false, grA]
  split
  ·simp only [putC, set_self hl, and_self]
  ·simp only [putC, and_self]
theorem lockF_same (t : Int) : ∀ l, (lockF t l).1 ≠ 0 → (lockF t l).2 = l := fun l h => by
 unfold lockF at h ⊢
 repeat' split
 all_goals simp_all
theorem unlockF_same (t : Int) : ∀ l, (unlockF t l).1 ≠ 0 → (unlockF t l).2 = l := fun l h => by
 unfold unlockF at h ⊢
 repeat' split
 all_goals simp_all
theorem rlockF_same (t : Int) : ∀ l, (rlockF t l).1 ≠ 0 → (rlockF t l).2 = l := fun l h => by
 unfold rlockF at h ⊢
 repeat' split
 all_goals simp_all
theorem runlockF_same (t : Int) : ∀ l, (runlockF t l).1 ≠ 0 → (runlockF t l).2 = l := fun l h => by
 unfold runlockF at h ⊢
 repeat' split
 all_goals simp_all
theorem sendF_same (t : Int) : ∀ l, (sendF t l).1 ≠ 0 → (sendF t l).2 = l := fun l h => by
 unfold sendF at h ⊢
 repeat' split
 all_goals simp_all
theorem shutF_same : ∀ l, (shutF l).1 ≠ 0 → (shutF l).2 = l := fun l h => by
 unfold shutF at h ⊢
 repeat' split
 all_goals simp_all
theorem act_run {b : Bn} (hc : chk b.s = 0) {t : Int} (ht : inT t = true) (x : Ins) : actB b t x = (⟨(doA b.s (axOf t x)).1, b.rs ++ (doA b.s (axOf t x)).2.2.map fun v => ⟨t, v, 0⟩⟩, (doA b.s (axOf t x)).2.1) := by
 unfold actB axOf
 by_cases h0 : x.op = 0
 ·rw [if_pos h0, if_pos h0]
  simp [noteB, doA, getC, putC]
 rw [if_neg h0, if_neg h0]
 by_cases h1 : x.op = 1
 ·rw [if_pos h1, if_pos h1]
  obtain ⟨h1, h2⟩ := onLock_run b.s x.obj t (lockF t) hc ht (lockF_same t)
  simp [h1, h2]
 rw [if_neg h1, if_neg h1]
 by_cases h2 : x.op = 2
 ·rw [if_pos h2, if_pos h2]
  obtain ⟨h1, h2⟩ := onLock_run b.s x.obj t (unlockF t) hc ht (unlockF_same t)
  simp [h1, h2]
 rw [if_neg h2, if_neg h2]
 by_cases h3 : x.op = 3
 ·rw [if_pos h3, if_pos h3]
  obtain ⟨h1, h2⟩ := onLock_run b.s x.obj t (rlockF t) hc ht (rlockF_same t)
  simp [h1, h2]
 rw [if_neg h3, if_neg h3]
 by_cases h4 : x.op = 4
 ·rw [if_pos h4, if_pos h4]
  obtain ⟨h1, h2⟩ := onLock_run b.s x.obj t (runlockF t) hc ht (runlockF_same t)
  simp [h1, h2]
 rw [if_neg h4, if_neg h4]
 by_cases h5 : x.op = 5
 ·rw [if_pos h5, if_pos h5]
  obtain ⟨h1, h2⟩ := onQueue_run b.s x.obj (sendF x.val) hc (sendF_same x.val)
  simp [h1, h2]
 rw [if_neg h5, if_neg h5]
 by_cases h6 : x.op = 6
 ·rw [if_pos h6, if_pos h6]
  obtain ⟨h1, h2⟩ := recv_run b.s x.obj hc
  rw [h2, h1]
  dsimp only
  split <;> simp
 rw [if_neg h6, if_neg h6]
 by_cases h7 : x.op = 7
 ·rw [if_pos h7, if_pos h7]
  obtain ⟨h1, h2⟩ := onQueue_run b.s x.obj shutF hc shutF_same
  simp [h1, h2]
 rw [if_neg h7, if_neg h7]
 by_cases h8 : x.op = 8
 ·rw [if_pos h8, if_pos h8]
  obtain ⟨h1, h2⟩ := addS_run b.s x.obj x.val hc
  simp [h1, h2]
 rw [if_neg h8, if_neg h8]
 by_cases h9 : x.op = 9
 ·rw [if_pos h9, if_pos h9]
  obtain ⟨h1, h2⟩ := addS_run b.s x.obj (-1) hc
  simp [h1, h2]
 rw [if_neg h9, if_neg h9]
 simp [doA, getC, putC]
theorem get_put {s : Sy} {n n' : Int} {k k' : Kd} {c : Cel} (hn : k = .no ∨ 0 ≤ n) (hn' : k' = .no ∨ 0 ≤ n') (h : ¬ (k = k' ∧ n = n') ∨ k = .no) : getC (putC s n k c) n' k' = getC s n' k' := by
 cases k <;> cases k' <;> cases c <;> simp only [putC, getC] <;> simp at hn hn' h <;>
 ·rw [List.getElem?_set_ne (by omega)]
theorem put_put {s : Sy} {n n' : Int} {k k' : Kd} {c c' : Cel} (hn : k = .no ∨ 0 ≤ n) (hn' : k' = .no ∨ 0 ≤ n') (h : ¬ (k = k' ∧ n = n') ∨ k = .no) : putC (putC s n k c) n' k' c' = putC (putC s n' k' c') n k c := by
 cases k <;> cases k' <;> cases c <;> cases c' <;> simp only [putC] <;> simp at hn hn' h <;>
 ·rw [List.set_comm _ _ (by omega)]
theorem get_nat {s : Sy} {n : Int} {k : Kd} {c : Cel} (h : getC s n k = some c) : k = .no ∨ 0 ≤ n := by
 cases k <;> simp [getC] at h ⊢ <;> omega
theorem run_get {s : Sy} {a a' : Ax} (h : ¬ (a.kd = a'.kd ∧ a.at_ = a'.at_) ∨ a.kd = .no) : getC (doA s a).1 a'.at_ a'.kd = getC s a'.at_ a'.kd := by
 unfold doA
 cases hg : getC s a.at_ a.kd with
 | none => rfl
 | some c =>
  by_cases h' : a'.kd = .no ∨ 0 ≤ a'.at_
  ·exact get_put (get_nat hg) h' h
  ·have h2 : a'.at_ < 0 := by
    have : ¬ 0 ≤ a'.at_ := fun e => h' (.inr e)
    omega
   cases hk : a'.kd <;> simp [getC, h2]
theorem run_res {s u : Sy} {a : Ax} (h : getC s a.at_ a.kd = getC u a.at_ a.kd) : (doA s a).2 = (doA u a).2 := by
 unfold doA
 rw [h]
 cases getC u a.at_ a.kd <;> rfl
theorem run_comm {s : Sy} {a a' : Ax} (h : ¬ (a.kd = a'.kd ∧ a.at_ = a'.at_) ∨ a.kd = .no) : (doA (doA s a).1 a').2 = (doA s a').2 ∧ (doA (doA s a').1 a).2 = (doA s a).2 ∧ (doA (doA s a).1 a').1 = (doA (doA s a').1 a).1 := by
 have h' : ¬ (a'.kd = a.kd ∧ a'.at_ = a.at_) ∨ a'.kd = .no := by
  rcases h with h | h
  ·exact .inl fun e => h ⟨e.1.symm, e.2.symm⟩
  ·by_cases e : a'.kd = .no
   ·exact .inr e
   ·exact .inl fun e2 => e (e2.1.trans h)
 have g1 := run_get (s := s) h
 have g2 := run_get (s := s) h'
 refine ⟨run_res g1, run_res g2, ?_⟩
 have e1 : (doA (doA s a).1 a').1 = match getC s a'.at_ a'.kd with
   | none => (doA s a).1
   | some c => putC (doA s a).1 a'.at_ a'.kd (a'.f c).1 := by
  rw [← g1]
  show (match getC (doA s a).1 a'.at_ a'.kd with
   | none => ((doA s a).1, 4, [])
   | some c => (putC (doA s a).1 a'.at_ a'.kd (a'.f c).1, (a'.f c).2.1, (a'.f c).2.2)).1 = _
  cases getC (doA s a).1 a'.at_ a'.kd <;> rfl
 have e2 : (doA (doA s a').1 a).1 = match getC s a.at_ a.kd with
   | none => (doA s a').1
   | some c => putC (doA s a').1 a.at_ a.kd (a.f c).1 := by
  rw [← g2]
  show (match getC (doA s a').1 a.at_ a.kd with
   | none => ((doA s a').1, 4, [])
   | some c => (putC (doA s a').1 a.at_ a.kd (a.f c).1, (a.f c).2.1, (a.f c).2.2)).1 = _
  cases getC (doA s a').1 a.at_ a.kd <;> rfl
 rw [e1, e2]
 unfold doA
 cases hg : getC s a.at_ a.kd with
 | none =>
  cases hg' : getC s a'.at_ a'.kd with
  | none => rfl
  | some c' => rfl
 | some c =>
  cases hg' : getC s a'.at_ a'.kd with
  | none => rfl
  | some c' => exact put_put (get_nat hg) (get_nat hg') h
theorem asc_ext : ∀ {l m : List Int}, asc l = true → asc m = true → (∀ x, x ∈ l ↔ x ∈ m) → l = m
 | [], [], _, _, _ => rfl
 | [], y :: m, _, _, h => by have := (h y).2 (by simp); cases this
 | x :: l, [], _, _, h => by have := (h x).1 (by simp); cases this
 | x :: l, y :: m, hl, hm, h => by
  have h1 := Lo.asc_hd hl
  have h2 := Lo.asc_hd hm
  have e : x = y := by
   rcases List.mem_cons.1 ((h x).1 (by simp)) with e | hx
   ·exact e
   ·rcases List.mem_cons.1 ((h y).2 (by simp)) with e | hy
    ·exact e.symm
    ·have := h1 y hy; have := h2 x hx; omega
  subst e
  rw [asc_ext (Lo.asc_tl hl) (Lo.asc_tl hm) fun z => ?_]
  constructor
  ·intro hz
   rcases List.mem_cons.1 ((h z).1 (by simp [hz])) with e | h3
   ·have := h1 z hz; omega
   ·exact h3
  ·intro hz
   rcases List.mem_cons.1 ((h z).2 (by simp [hz])) with e | h3
   ·have := h2 z hz; omega
   ·exact h3
def rdF (c : Bool) (t : Int) : Lk → Int × Lk := if c then rlockF t else runlockF t
theorem erase_mem {t y : Int} {l : List Int} (h : asc l = true) (ht : t ∈ l) : y ∈ l.eraseIdx (lower t l) ↔ y ∈ l ∧ y ≠ t := by
 rw [← Lo.filter_lower h ht]
 simp
theorem rdF_hold (c : Bool) (t : Int) (l : Lk) : (rdF c t l).2.hold = l.hold := by
 cases c
 ·show (runlockF t l).2.hold = _
  unfold runlockF; split <;> rfl
 ·show (rlockF t l).2.hold = _
  unfold rlockF; repeat' split
  all_goals rfl
theorem rdF_asc (c : Bool) (t : Int) {l : Lk} (h : asc l.rd = true) : asc (rdF c t l).2.rd = true := by
 cases c
 ·show asc (runlockF t l).2.rd = _
  unfold runlockF
  split
  ·exact Lo.asc_erase _ h
  ·exact h
 ·show asc (rlockF t l).2.rd = _
  unfold rlockF hasT
  split
  ·exact h
  ·rename_i hh
   split
   ·exact h
   ·simp at hh
    exact Lo.asc_putIn h hh.2
theorem rdF_mem (c : Bool) (t : Int) {l : Lk} (h : asc l.rd = true) (y : Int) (hy : y ≠ t) : y ∈ (rdF c t l).2.rd ↔ y ∈ l.rd := by
 cases c
 ·show y ∈ (runlockF t l).2.rd ↔ _
  unfold runlockF
  split
  ·rename_i ht
   rw [erase_mem h ht]; simp [hy]
  ·rfl
 ·show y ∈ (rlockF t l).2.rd ↔ _
  unfold rlockF
  repeat' split
  ·rfl
  ·rfl
  ·show y ∈ putIn t l.rd ↔ _
   rw [Lo.putIn_mem]; simp [hy]
theorem rdF_same (c : Bool) (t : Int) {l m : Lk} (hh : m.hold = l.hold) (hm : t ∈ m.rd ↔ t ∈ l.rd) (h1 : asc l.rd = true) (h2 : asc m.rd = true) : (rdF c t m).1 = (rdF c t l).1 ∧ (t ∈ (rdF c t m).2.rd ↔ t ∈ (rdF c t l).2.rd) := by
 cases c
 ·show (runlockF t m).1 = (runlockF t l).1 ∧ (t ∈ (runlockF t m).2.rd ↔ t ∈ (runlockF t l).2.rd)
  unfold runlockF
  by_cases ht : t ∈ l.rd
  ·rw [if_pos ht, if_pos (hm.2 ht)]
   refine ⟨rfl, ?_⟩
   dsimp only
   rw [erase_mem h1 ht, erase_mem h2 (hm.2 ht)]; simp
  ·rw [if_neg ht, if_neg fun e => ht (hm.1 e)]
   exact ⟨rfl, hm⟩
 ·show (rlockF t m).1 = (rlockF t l).1 ∧ (t ∈ (rlockF t m).2.rd ↔ t ∈ (rlockF t l).2.rd)
  have e : hasT t m = hasT t l := by unfold hasT; rw [hh]; simp [hm]
  unfold rlockF
  rw [e, hh]
  split
  ·exact ⟨rfl, hm⟩
  ·split
   ·exact ⟨rfl, hm⟩
   ·refine ⟨rfl, ?_⟩
    dsimp only
    rw [Lo.putIn_mem, Lo.putIn_mem]; simp
theorem rdF_comm (c c' : Bool) {t t' : Int} (hne : t ≠ t') {l : Lk} (h : asc l.rd = true) : (rdF c' t' (rdF c t l).2).1 = (rdF c' t' l).1 ∧ (rdF c' t' (rdF c t l).2).2 = (rdF c t (rdF c' t' l).2).2 := by
 have a1 := rdF_asc c t h
 have a2 := rdF_asc c' t' h
 have m1 := rdF_mem c t h t' (fun e => hne e.symm)
 have m2 := rdF_mem c' t' h t hne
 have s1 := rdF_same c' t' (rdF_hold c t l) m1 h a1
 have s2 := rdF_same c t (rdF_hold c' t' l) m2 h a2
 refine ⟨s1.1, ?_⟩
 have eh : (rdF c' t' (rdF c t l).2).2.hold = (rdF c t (rdF c' t' l).2).2.hold := by rw [rdF_hold, rdF_hold, rdF_hold, rdF_hold]
 have er : (rdF c' t' (rdF c t l).2).2.rd = (rdF c t (rdF c' t' l).2).2.rd := by
  refine asc_ext (rdF_asc _ _ a1) (rdF_asc _ _ a2) fun y => ?_
  by_cases h1 : y = t
  ·subst h1
   rw [rdF_mem c' t' a1 y hne, s2.2]
  ·by_cases h2 : y = t'
   ·subst h2
    rw [rdF_mem c t a2 y h1, s1.2]
   ·rw [rdF_mem c' t' a1 y h2, rdF_mem c t h y h1, rdF_mem c t a2 y h1, rdF_mem c' t' h y h2]
 generalize (rdF c' t' (rdF c t l).2).2 = u at eh er ⊢
 generalize (rdF c t (rdF c' t' l).2).2 = v at eh er ⊢
 cases u; cases v
 simp at eh er
 rw [eh, er]
theorem ax_use {t : Int} {x : Ins} : (axOf t x).kd = .no ∨ ∃ o w, usesI x = [⟨o, w⟩] ∧ ((axOf t x).kd = .lk ∧ o = x.obj ∧ (axOf t x).at_ = x.obj ∧ (w = false → ∃ c, (axOf t x).f = lkA (rdF c t)) ∨ (axOf t x).kd = .qu ∧ o = IntKind.i64.wrap (100 + x.obj) ∧ (axOf t x).at_ = x.obj ∧ w = true ∨ (axOf t x).kd = .gr ∧ o = IntKind.i64.wrap (200 + x.obj) ∧ (axOf t x).at_ = x.obj ∧ w = true) := by
 unfold axOf usesI
 by_cases h0 : x.op = 0
 ·simp [h0]
 by_cases h1 : x.op = 1
 ·simp [h1]
 by_cases h2 : x.op = 2
 ·simp [h2]
 by_cases h3 : x.op = 3
 ·simp [h3]; exact .inr rfl
 by_cases h4 : x.op = 4
 ·simp [h4]; exact .inl rfl
 by_cases h5 : x.op = 5
 ·simp [h5]
 by_cases h6 : x.op = 6
 ·simp [h6]
 by_cases h7 : x.op = 7
 ·simp [h7]
 by_cases h8 : x.op = 8
 ·simp [h8]
 by_cases h9 : x.op = 9
 ·simp [h9]
 ·simp [h0, h1, h2, h3, h4, h5, h6, h7, h8, h9]
theorem not_clash {o o' : Int} {w w' : Bool} (h : indy [⟨o, w⟩] [⟨o', w'⟩] = true) (e : o = o') : w = false ∧ w' = false := by
 subst e
 simpa [indy, clash] using h
theorem ax_comm {s : Sy} (hc : chk s = 0) {t t' : Int} (hne : t ≠ t') {x y : Ins} (hi : indy (usesI x) (usesI y) = true) :
  (doA (doA s (axOf t x)).1 (axOf t' y)).2 = (doA s (axOf t' y)).2 ∧ (doA (doA s (axOf t' y)).1 (axOf t x)).2 = (doA s (axOf t x)).2 ∧ (doA (doA s (axOf t x)).1 (axOf t' y)).1 = (doA (doA s (axOf t' y)).1 (axOf t x)).1 := by
 rcases ax_use (t := t) (x := x) with h1 | ⟨o, w, e1, h1⟩
 ·exact run_comm (.inr h1)
 rcases ax_use (t := t') (x := y) with h2 | ⟨o', w', e2, h2⟩
 ·obtain ⟨g1, g2, g3⟩ := run_comm (s := s) (a := axOf t' y) (a' := axOf t x) (.inr h2)
  exact ⟨g2, g1, g3.symm⟩
 rw [e1, e2] at hi
 by_cases hd : (axOf t x).kd = (axOf t' y).kd ∧ (axOf t x).at_ = (axOf t' y).at_
 ·rcases h1 with ⟨k1, o1, p1, w1⟩ | ⟨k1, o1, p1, w1⟩ | ⟨k1, o1, p1, w1⟩ <;> rcases h2 with ⟨k2, o2, p2, w2⟩ | ⟨k2, o2, p2, w2⟩ | ⟨k2, o2, p2, w2⟩ <;> (try (rw [k1, k2] at hd; exact absurd hd.1 (by decide)))
  ·have ho : o = o' := by rw [o1, o2, ← p1, ← p2, hd.2]
   obtain ⟨rfl, rfl⟩ := not_clash hi ho
   obtain ⟨c, ec⟩ := w1 rfl
   obtain ⟨c', ec'⟩ := w2 rfl
   have ea : axOf t x = ⟨.lk, x.obj, lkA (rdF c t)⟩ := by
    have : axOf t x = ⟨(axOf t x).kd, (axOf t x).at_, (axOf t x).f⟩ := rfl
    rw [this, k1, p1, ec]
   have eb : axOf t' y = ⟨.lk, x.obj, lkA (rdF c' t')⟩ := by
    have : axOf t' y = ⟨(axOf t' y).kd, (axOf t' y).at_, (axOf t' y).f⟩ := rfl
    rw [this, k2, ← hd.2, p1, ec']
   rw [ea, eb]
   by_cases hr : x.obj < 0
   ·have g : ∀ u : Sy, getC u x.obj .lk = none := fun u => by simp [getC, hr]
    simp [doA, g]
   cases hl : s.locks[x.obj.toNat]? with
   | none =>
    have g : getC s x.obj .lk = none := by simp [getC, hr, hl]
    simp [doA, g]
   | some l =>
    have hm := List.mem_of_getElem? hl
    have hlt := (List.getElem?_eq_some_iff.1 hl).1
    have ha := (Lo.chk_lock hc hm).1
    have r1 := rdF_comm c c' hne ha
    have r2 := rdF_comm c' c (fun e => hne e.symm) ha
    have g : getC s x.obj .lk = some (.lk l) := by simp [getC, hr, hl]
    have g2 : ∀ m : Lk, getC ⟨s.locks.set x.obj.toNat m, s.queues, s.groups⟩ x.obj .lk = some (.lk m) := fun m => by simp [getC, hr, hlt]
    simp only [doA, g, lkA, putC, g2, r1.1, r2.1, List.set_set, r1.2, and_self]
  ·have ho : o = o' := by rw [o1, o2, ← p1, ← p2, hd.2]
   have := (not_clash hi ho).1
   rw [w1] at this; cases this
  ·have ho : o = o' := by rw [o1, o2, ← p1, ← p2, hd.2]
   have := (not_clash hi ho).1
   rw [w1] at this; cases this
 ·exact run_comm (.inl hd)
theorem can_stays {s : Sy} (hc : chk s = 0) {t : Int} {x y : Ins} (hc2 : chk (doA s (axOf t x)).1 = 0) (hi : indy (usesI x) (usesI y) = true) (rs rs' : List Rc) : canX ⟨(doA s (axOf t x)).1, rs⟩ (waitB y) = canX ⟨s, rs'⟩ (waitB y) := by
 have key : ∀ (k : Kd) (o : Int) (w : Bool), usesI y = [⟨o, w⟩] → (k = .lk ∧ o = y.obj ∨ k = .qu ∧ o = IntKind.i64.wrap (100 + y.obj) ∨ k = .gr ∧ o = IntKind.i64.wrap (200 + y.obj)) → getC (doA s (axOf t x)).1 y.obj k = getC s y.obj k ∨ (k = .lk ∧ w = false ∧ ∃ c, axOf t x = ⟨.lk, y.obj, lkA (rdF c t)⟩) := by
  intro k o w e h
  have g := fun h => run_get (s := s) (a := axOf t x) (a' := ⟨k, y.obj, fun c => (c, 0, [])⟩) h
  rcases ax_use (t := t) (x := x) with h1 | ⟨o', w', e1, h1⟩
  ·exact .inl (g (.inr h1))
  rw [e, e1] at hi
  by_cases hd : (axOf t x).kd = k ∧ (axOf t x).at_ = y.obj
  ·rcases h1 with ⟨k1, o1, p1, w1⟩ | ⟨k1, o1, p1, w1⟩ | ⟨k1, o1, p1, w1⟩ <;> rcases h with ⟨k2, o2⟩ | ⟨k2, o2⟩ | ⟨k2, o2⟩ <;> (try (rw [k1, k2] at hd; exact absurd hd.1 (by decide)))
   ·have ho : o' = o := by rw [o1, o2, ← p1, hd.2]
    obtain ⟨rfl, rfl⟩ := not_clash hi ho
    obtain ⟨c, ec⟩ := w1 rfl
    refine .inr ⟨k2, rfl, c, ?_⟩
    have : axOf t x = ⟨(axOf t x).kd, (axOf t x).at_, (axOf t x).f⟩ := rfl
    rw [this, k1, hd.2, ec]
   ·have ho : o' = o := by rw [o1, o2, ← p1, hd.2]
    have := (not_clash hi ho).1
    rw [w1] at this; cases this
   ·have ho : o' = o := by rw [o1, o2, ← p1, hd.2]
    have := (not_clash hi ho).1
    rw [w1] at this; cases this
  ·exact .inl (g (.inl hd))
 generalize hu : (doA s (axOf t x)).1 = u at key hc2
 have locks : ∀ {n : Int}, getC u n .lk = getC s n .lk → (n < 0 ∨ (u.locks.length : Int) ≤ n ↔ n < 0 ∨ (s.locks.length : Int) ≤ n) ∧ (¬ n < 0 → u.locks[n.toNat]? = s.locks[n.toNat]?) := by
  intro n e
  by_cases h0 : n < 0
  ·simp [h0]
  ·simp only [getC, if_neg h0] at e
   have e' : u.locks[n.toNat]? = s.locks[n.toNat]? := by
    cases h1 : u.locks[n.toNat]? <;> cases h2 : s.locks[n.toNat]? <;> rw [h1, h2] at e <;> simp at e ⊢
    exact e
   refine ⟨?_, fun _ => e'⟩
   have : (u.locks.length ≤ n.toNat) ↔ (s.locks.length ≤ n.toNat) := by rw [← List.getElem?_eq_none_iff, ← List.getElem?_eq_none_iff, e']
   omega
 have queues : ∀ {n : Int}, getC u n .qu = getC s n .qu → (n < 0 ∨ (u.queues.length : Int) ≤ n ↔ n < 0 ∨ (s.queues.length : Int) ≤ n) ∧ (¬ n < 0 → u.queues[n.toNat]? = s.queues[n.toNat]?) := by
  intro n e
  by_cases h0 : n < 0
  ·simp [h0]
  ·simp only [getC, if_neg h0] at e
   have e' : u.queues[n.toNat]? = s.queues[n.toNat]? := by
    cases h1 : u.queues[n.toNat]? <;> cases h2 : s.queues[n.toNat]? <;> rw [h1, h2] at e <;> simp at e ⊢
    exact e
   refine ⟨?_, fun _ => e'⟩
   have : (u.queues.length ≤ n.toNat) ↔ (s.queues.length ≤ n.toNat) := by rw [← List.getElem?_eq_none_iff, ← List.getElem?_eq_none_iff, e']
   omega
 have groups : ∀ {n : Int}, getC u n .gr = getC s n .gr → (n < 0 ∨ (u.groups.length : Int) ≤ n ↔ n < 0 ∨ (s.groups.length : Int) ≤ n) ∧ (¬ n < 0 → u.groups[n.toNat]? = s.groups[n.toNat]?) := by
  intro n e
  by_cases h0 : n < 0
  ·simp [h0]
  ·simp only [getC, if_neg h0] at e
   have e' : u.groups[n.toNat]? = s.groups[n.toNat]? := by
    cases h1 : u.groups[n.toNat]? <;> cases h2 : s.groups[n.toNat]? <;> rw [h1, h2] at e <;> simp at e ⊢
    exact e
   refine ⟨?_, fun _ => e'⟩
   have : (u.groups.length ≤ n.toNat) ↔ (s.groups.length ≤ n.toNat) := by rw [← List.getElem?_eq_none_iff, ← List.getElem?_eq_none_iff, e']
   omega
 unfold canX enabledB thereS Lo.thereN
 rw [hc, hc2]
 unfold waitB
 by_cases h1 : y.op = 1
 ·rcases key .lk y.obj true (by simp [usesI, h1]) (.inl ⟨rfl, rfl⟩) with g | ⟨_, g, _⟩
  ·obtain ⟨l1, l2⟩ := locks g
   by_cases hr : y.obj < 0 ∨ (s.locks.length : Int) ≤ y.obj
   ·simp [h1, hr, l1.2 hr]
   ·have hr' := mt l1.1 hr
    have e := l2 fun e => hr (.inl e)
    simp [h1, hr, hr', e]
  ·cases g
 by_cases h3 : y.op = 3
 ·rcases key .lk y.obj false (by simp [usesI, h3]) (.inl ⟨rfl, rfl⟩) with g | ⟨_, _, c, g⟩
  ·obtain ⟨l1, l2⟩ := locks g
   by_cases hr : y.obj < 0 ∨ (s.locks.length : Int) ≤ y.obj
   ·simp [h3, hr, l1.2 hr]
   ·have hr' := mt l1.1 hr
    have e := l2 fun e => hr (.inl e)
    simp [h3, hr, hr', e]
  ·have hlen : u.locks.length = s.locks.length := by
    rw [← hu, g]; unfold doA; dsimp only
    cases hg : getC s y.obj .lk with
    | none => rfl
    | some c' => cases c' <;> simp [lkA, putC]
   have hh : (u.locks.getD y.obj.toNat default).hold = (s.locks.getD y.obj.toNat default).hold := by
    rw [← hu, g]; unfold doA; dsimp only
    cases hg : getC s y.obj .lk with
    | none => rfl
    | some c' =>
     cases c' with
     | lk l =>
      simp only [getC] at hg
      split at hg
      ·cases hg
      ·obtain ⟨l', e1, e2⟩ := Option.map_eq_some_iff.1 hg
       cases e2
       have hlt := (List.getElem?_eq_some_iff.1 e1).1
       simp only [lkA, putC, List.getD_eq_getElem?_getD, List.getElem?_set_self hlt, e1, Option.getD_some, rdF_hold]
     | _ => rfl
   by_cases hr : y.obj < 0 ∨ (s.locks.length : Int) ≤ y.obj
   ·simp [h3, hr, hlen]
   ·rw [List.getD_eq_getElem?_getD, List.getD_eq_getElem?_getD] at hh
    simp [h3, hr, hlen, hh]
 by_cases h5 : y.op = 5
 ·rcases key .qu _ true (by simp [usesI, h5]) (.inr (.inl ⟨rfl, rfl⟩)) with g | ⟨g, _⟩
  ·obtain ⟨l1, l2⟩ := queues g
   by_cases hr : y.obj < 0 ∨ (s.queues.length : Int) ≤ y.obj
   ·simp [h5, hr, l1.2 hr]
   ·have hr' := mt l1.1 hr
    have e := l2 fun e => hr (.inl e)
    simp [h5, hr, hr', e]
  ·cases g
 by_cases h6 : y.op = 6
 ·rcases key .qu _ true (by simp [usesI, h6]) (.inr (.inl ⟨rfl, rfl⟩)) with g | ⟨g, _⟩
  ·obtain ⟨l1, l2⟩ := queues g
   by_cases hr : y.obj < 0 ∨ (s.queues.length : Int) ≤ y.obj
   ·simp [h6, hr, l1.2 hr]
   ·have hr' := mt l1.1 hr
    have e := l2 fun e => hr (.inl e)
    simp [h6, hr, hr', e]
  ·cases g
 by_cases h10 : y.op = 10
 ·rcases key .gr _ false (by simp [usesI, h10]) (.inr (.inr ⟨rfl, rfl⟩)) with g | ⟨g, _⟩
  ·obtain ⟨l1, l2⟩ := groups g
   by_cases hr : y.obj < 0 ∨ (s.groups.length : Int) ≤ y.obj
   ·simp [h10, hr, l1.2 hr]
   ·have hr' := mt l1.1 hr
    have e := l2 fun e => hr (.inl e)
    simp [h10, hr, hr', e]
  ·cases g
 ·simp [h1, h3, h5, h6, h10]
end Go.Proofs.YtplooifpgmlofaaGreat
namespace Go.Proofs.YtplooifpgmlofaaGreat
open Go.RowKit
open Lo (Sy Lk Qu chk inT)

def WOk (x : Sx) (q : Pl) : Prop := ∀ i t w, q.ts[i]? = some t → q.ws[i]? = some w → w = endW ∨ ∃ y, (x.ps.getD i [])[t.pc.toNat]? = some y ∧ w = waitB y
def nextW (l : Prg) (pc : Nat) (e : Int) : Wa := if e ≠ 0 then endW else match l[pc + 1]? with
  | some y => waitB y
  | none => endW
def recsOf (t : Int) (r : Sy × Int × List Int) : List Rc := (r.2.2.map fun v => (⟨t, v, 0⟩ : Rc)) ++ if r.2.1 ≠ 0 then [⟨t, 0, r.2.1⟩] else []
theorem recsOf_task {t : Int} {r : Sy × Int × List Int} : ∀ c ∈ recsOf t r, c.task = t := fun c h => by
  unfold recsOf at h
  rcases List.mem_append.1 h with h | h
  · obtain ⟨v, _, rfl⟩ := List.mem_map.1 h
    rfl
  · split at h
    · simp at h; rw [h]
    · cases h
theorem getD_some {α : Type} {l : List α} {i : Nat} {x d : α} (h : l[i]? = some x) : l.getD i d = x := by rw [List.getD_eq_getElem?_getD, h]; rfl
theorem id_in {x : Sx} (hx : SxOk x) {q : Pl} {m : Nat} (h : PlOk x q m) {i : Nat} {t : Tk} (ht : q.ts[i]? = some t) : inT t.id = true ∧ i < x.ps.length := by
  have hi := (List.getElem?_eq_some_iff.1 ht).1
  have h1 := h.tn
  have h2 := hx.ps.many
  have h3 := (h.ts i t ht).id
  unfold inT
  simp
  omega
theorem step_none {x : Sx} {b : Bn} {t : Tk} {i : Nat} (hi : i < x.ps.length) (h : TkOk x i t) (hy : (x.ps.getD i [])[t.pc.toNat]? = none) : stepB b x.ps t = (b, t, endW) := by
  obtain ⟨l, hl, _⟩ := at_lt hi
  rw [getD_some hl] at hy
  unfold stepB
  rw [h.kind, Int.toNat_natCast, hl]
  dsimp only
  rw [h.a, if_neg (by decide), hy]
theorem step_run {x : Sx} {b : Bn} {t : Tk} {i : Nat} (hi : i < x.ps.length) (h : TkOk x i t) (hc : chk b.s = 0) (ht : inT t.id = true) {y : Ins} (hy : (x.ps.getD i [])[t.pc.toNat]? = some y) :
    stepB b x.ps t = (⟨(doA b.s (axOf t.id y)).1, b.rs ++ recsOf t.id (doA b.s (axOf t.id y))⟩, { t with pc := t.pc + 1 }, nextW (x.ps.getD i []) t.pc.toNat (doA b.s (axOf t.id y)).2.1) := by
  obtain ⟨l, hl, _⟩ := at_lt hi
  rw [getD_some hl] at hy ⊢
  unfold stepB
  rw [h.kind, Int.toNat_natCast, hl]
  dsimp only
  rw [h.a, if_neg (by decide), hy]
  dsimp only
  rw [act_run hc ht]
  dsimp only
  unfold nextW recsOf
  by_cases he : (doA b.s (axOf t.id y)).2.1 = 0
  · simp [he] <;> rfl
  · simp [he]
theorem stepX_at {x : Sx} {q : Pl} {i : Nat} {t : Tk} (h : q.ts[i]? = some t) : stepX x q ((i : Int) + 1) = ⟨(stepB q.b x.ps t).1, q.ts.set i (stepB q.b x.ps t).2.1, q.ws.set i (stepB q.b x.ps t).2.2⟩ := by
  have e : ((i : Int) + 1 - 1).toNat = i := by omega
  unfold stepX
  rw [e, h]
theorem foot_at {x : Sx} {q : Pl} {m : Nat} (h : PlOk x q m) {i : Nat} {t : Tk} (ht : q.ts[i]? = some t) {y : Ins} (hy : (x.ps.getD i [])[t.pc.toNat]? = some y) : footX x q ((i : Int) + 1) = usesI y := by
  have e : ((i : Int) + 1 - 1).toNat = i := by omega
  unfold footX
  rw [e, ht]
  dsimp only
  rw [(h.ts i t ht).kind, Int.toNat_natCast, hy]
theorem en_iff {q : Pl} {t : Int} : ∀ {k : Nat}, t ∈ enTo q k ↔ ∃ i w, i < k ∧ t = (i : Int) + 1 ∧ q.ws[i]? = some w ∧ canX q.b w = true
  | 0 => by simp [enTo]
  | k + 1 => by
    have ih := en_iff (q := q) (t := t) (k := k)
    have up : (∃ i w, i < k + 1 ∧ t = (i : Int) + 1 ∧ q.ws[i]? = some w ∧ canX q.b w = true) ↔ (∃ i w, i < k ∧ t = (i : Int) + 1 ∧ q.ws[i]? = some w ∧ canX q.b w = true) ∨ (t = (k : Int) + 1 ∧ ∃ w, q.ws[k]? = some w ∧ canX q.b w = true) := by
      constructor
      · rintro ⟨i, w, h1, h2, h3, h4⟩
        rcases Nat.lt_or_ge i k with h | h
        · exact .inl ⟨i, w, h, h2, h3, h4⟩
        · obtain rfl : i = k := by omega
          exact .inr ⟨h2, w, h3, h4⟩
      · rintro (⟨i, w, h1, h2, h3, h4⟩ | ⟨h2, w, h3, h4⟩)
        · exact ⟨i, w, by omega, h2, h3, h4⟩
        · exact ⟨k, w, by omega, h2, h3, h4⟩
    have e : enTo q (k + 1) = match q.ws[k]? with
      | some w => if canX q.b w then enTo q k ++ [((k : Int) + 1)] else enTo q k
      | none => enTo q k := rfl
    rw [up, ← ih, e]
    cases hk : q.ws[k]? with
    | none => simp
    | some w =>
      dsimp only
      by_cases hw : canX q.b w = true
      · simp [hw]
      · simp [hw]
theorem wok_start {x : Sx} : WOk x (startX x) := by
  have : ∀ (k : Nat), k ≤ x.ps.length → ∀ i t w, (startTo ⟨x.s, []⟩ x.ps k).ts[i]? = some t → (startTo ⟨x.s, []⟩ x.ps k).ws[i]? = some w → w = endW ∨ ∃ y, (x.ps.getD i [])[t.pc.toNat]? = some y ∧ w = waitB y := by
    intro k
    induction k with
    | zero => intro _ i t w h; simp [startTo] at h
    | succ k ih =>
      intro hk i t w ht hw
      have hl := startTo_len ⟨x.s, []⟩ x.ps k
      unfold startTo at ht hw
      dsimp only at ht hw
      by_cases hi : i < k
      · rw [List.getElem?_append_left (by omega)] at ht hw
        exact ih (by omega) i t w ht hw
      · have h1 := (List.getElem?_eq_some_iff.1 ht).1
        simp only [List.length_append, List.length_singleton] at h1
        obtain rfl : i = k := by omega
        rw [List.getElem?_append_right (by omega), hl.1, Nat.sub_self] at ht
        rw [List.getElem?_append_right (by omega), hl.2, Nat.sub_self] at hw
        obtain ⟨l, hl, _⟩ := at_lt (show i < x.ps.length by omega)
        simp only [List.getElem?_cons_zero, Option.some.injEq, stepB, Int.toNat_natCast, hl, if_true] at ht hw
        subst ht hw
        rw [getD_some hl]
        dsimp only
        cases hy : l[(0 : Int).toNat]? with
        | none => exact .inl rfl
        | some y => exact .inr ⟨y, rfl, rfl⟩
  exact this _ (Nat.le_refl _)
theorem wok_step {x : Sx} (hx : SxOk x) {q : Pl} {m : Nat} (h : PlOk x q m) (hw : WOk x q) (t : Int) : WOk x (stepX x q t) := by
  unfold stepX
  split
  · rename_i k hk
    generalize (t - 1).toNat = i at hk ⊢
    obtain ⟨hin, hi⟩ := id_in hx h hk
    intro j u w hu hwj
    dsimp only at hu hwj
    rw [List.getElem?_set] at hu hwj
    by_cases e : i = j
    · subst e
      rw [if_pos rfl] at hu hwj
      split at hu
      · split at hwj
        · obtain rfl := Option.some.inj hu
          obtain rfl := Option.some.inj hwj
          cases hy : (x.ps.getD i [])[k.pc.toNat]? with
          | none =>
            rw [step_none hi (h.ts i k hk) hy]
            exact .inl rfl
          | some y =>
            rw [step_run hi (h.ts i k hk) h.chk hin hy]
            dsimp only
            unfold nextW
            obtain ⟨pc, hpc, _⟩ := (h.ts i k hk).pc
            have e2 : (k.pc + 1).toNat = k.pc.toNat + 1 := by omega
            rw [e2]
            split
            · exact .inl rfl
            · cases hz : (x.ps.getD i [])[k.pc.toNat + 1]? with
              | none => exact .inl rfl
              | some z => exact .inr ⟨z, rfl, rfl⟩
        · cases hwj
      · cases hu
    · rw [if_neg e] at hu hwj
      exact hw j u w hu hwj
  · exact hw
structure Eqv (q q' : Pl) : Prop where
  s : q.b.s = q'.b.s
  ts : q.ts = q'.ts
  ws : q.ws = q'.ws
  rs : ∀ i, (q.b.rs.filter fun r => decide (r.task = i)) = q'.b.rs.filter fun r => decide (r.task = i)
theorem Eqv.can {q q' : Pl} (h : Eqv q q') (w : Wa) : canX q.b w = canX q'.b w := by unfold canX enabledB; rw [h.s]
theorem Eqv.en {q q' : Pl} (h : Eqv q q') : ∀ k, enTo q k = enTo q' k
  | 0 => rfl
  | k + 1 => by
    unfold enTo
    rw [h.ws, h.en k]
    cases q'.ws[k]? with
    | none => rfl
    | some w => dsimp only; rw [h.can]
theorem Eqv.foot {x : Sx} {q q' : Pl} (h : Eqv q q') (t : Int) : footX x q t = footX x q' t := by unfold footX; rw [h.ts]
theorem Eqv.done {q q' : Pl} (h : Eqv q q') : doneX q = doneX q' := by unfold doneX; rw [h.ws]
theorem noteL_filter (i : Int) (rs : List Rc) : noteL i rs = (rs.filter fun r => decide (r.task = i)).flatMap fun r => 32 :: (digZ r.val ++ 101 :: digZ r.err) := by
  unfold noteL
  induction rs with
  | nil => rfl
  | cons r rs ih =>
    rw [List.flatMap_cons, ih]
    by_cases h : r.task = i
    · simp [h]
    · simp [h]
theorem Eqv.out {q q' : Pl} (h : Eqv q q') : outL q = outL q' := by
  have : ∀ k, taskTo q k = taskTo q' k := by
    intro k
    induction k with
    | zero => rfl
    | succ k ih =>
      unfold taskTo
      rw [ih, noteL_filter, noteL_filter, h.rs, h.ts]
  unfold outL
  rw [this, h.ts, h.s]
theorem Eqv.step {x : Sx} (hx : SxOk x) {q q' : Pl} {m m' : Nat} (h : Eqv q q') (h1 : PlOk x q m) (h2 : PlOk x q' m') (t : Int) : Eqv (stepX x q t) (stepX x q' t) := by
  unfold stepX
  rw [← h.ts, ← h.ws]
  cases hk : q.ts[(t - 1).toNat]? with
  | none => exact h
  | some k =>
    obtain ⟨hin, hi⟩ := id_in hx h1 hk
    dsimp only
    cases hy : (x.ps.getD (t - 1).toNat [])[k.pc.toNat]? with
    | none =>
      rw [step_none hi (h1.ts _ k hk) hy, step_none hi (h1.ts _ k hk) hy]
      exact ⟨h.s, rfl, rfl, h.rs⟩
    | some y =>
      rw [step_run hi (h1.ts _ k hk) h1.chk hin hy, step_run hi (h1.ts _ k hk) h2.chk hin hy, h.s]
      refine ⟨rfl, rfl, rfl, fun i => ?_⟩
      dsimp only
      rw [List.filter_append, List.filter_append, h.rs]
theorem filter_none {t i : Int} {l : List Rc} (h : ∀ c ∈ l, c.task = t) (hi : t ≠ i) : (l.filter fun r => decide (r.task = i)) = [] := by
  rw [List.filter_eq_nil_iff]
  intro c hc
  rw [h c hc]
  simp [hi]
theorem stepX_comm {x : Sx} (hx : SxOk x) {q : Pl} {m : Nat} (h : PlOk x q m) (hw : WOk x q) {a b : Int} (hab : a ≠ b) (ha : a ∈ enTo q x.ps.length) (hb : b ∈ enTo (stepX x q a) x.ps.length) (hi : indy (footX x q a) (footX x (stepX x q a) b) = true) :
    b ∈ enTo q x.ps.length ∧ a ∈ enTo (stepX x q b) x.ps.length ∧ footX x q b = footX x (stepX x q a) b ∧ footX x (stepX x q b) a = footX x q a ∧ Eqv (stepX x (stepX x q a) b) (stepX x (stepX x q b) a) := by
  have live : ∀ {w : Wa} {b : Bn}, canX b w = true → w ≠ endW := fun h e => by subst e; simp [canX, endW] at h
  obtain ⟨i, wa, hil, rfl, hwa, hca⟩ := en_iff.1 ha
  obtain ⟨ta, hta, _⟩ := at_lt (show i < q.ts.length by rw [h.tn]; exact hil)
  obtain ⟨ya, hya, rfl⟩ := (hw i ta wa hta hwa).resolve_left (live hca)
  obtain ⟨hina, _⟩ := id_in hx h hta
  have hka := h.ts i ta hta
  have sa := step_run hil hka h.chk hina hya
  have xa := stepX_at (x := x) hta
  have fa := foot_at h hta hya
  have hP := pl_step h ((i : Int) + 1)
  rw [xa, sa] at hb hi hP
  dsimp only at hb hi hP
  obtain ⟨j, wb, hjl, rfl, hwb, hcb⟩ := en_iff.1 hb
  have hij : i ≠ j := fun e => hab (by rw [e])
  dsimp only at hwb hcb
  rw [List.getElem?_set_ne hij] at hwb
  obtain ⟨tb, htb, _⟩ := at_lt (show j < q.ts.length by rw [h.tn]; exact hjl)
  obtain ⟨yb, hyb, rfl⟩ := (hw j tb wb htb hwb).resolve_left (live hcb)
  obtain ⟨hinb, _⟩ := id_in hx h htb
  have hkb := h.ts j tb htb
  have sb := step_run hjl hkb h.chk hinb hyb
  have xb := stepX_at (x := x) htb
  have fb := foot_at h htb hyb
  have fb2 := foot_at hP (i := j) (by dsimp only; rw [List.getElem?_set_ne hij]; exact htb) hyb
  rw [fa, fb2] at hi
  have hne : ta.id ≠ tb.id := by rw [hka.id, hkb.id]; omega
  have hca' : chk (doA q.b.s (axOf ta.id ya)).1 = 0 := hP.chk
  have hPb := pl_step h ((j : Int) + 1)
  rw [xb, sb] at hPb
  dsimp only at hPb
  have hcb' : chk (doA q.b.s (axOf tb.id yb)).1 = 0 := hPb.chk
  have hi' : indy (usesI yb) (usesI ya) = true := by rw [indy_comm]; exact hi
  obtain ⟨c1, c2, c3⟩ := ax_comm h.chk hne hi
  have hcb0 : canX q.b (waitB yb) = true := by
    rw [can_stays h.chk hca' hi _ q.b.rs] at hcb
    exact hcb
  have hca2 : canX ⟨(doA q.b.s (axOf tb.id yb)).1, q.b.rs ++ recsOf tb.id (doA q.b.s (axOf tb.id yb))⟩ (waitB ya) = true := by
    rw [can_stays h.chk hcb' hi' _ q.b.rs]
    exact hca
  refine ⟨en_iff.2 ⟨j, _, hjl, rfl, hwb, hcb0⟩, ?_, ?_, ?_, ?_⟩
  · rw [xb, sb]
    refine en_iff.2 ⟨i, waitB ya, hil, rfl, ?_, hca2⟩
    dsimp only
    rw [List.getElem?_set_ne fun e => hij e.symm]
    exact hwa
  · rw [xa, sa, fb, fb2]
  · rw [xb, sb, fa]
    exact foot_at hPb (by dsimp only; rw [List.getElem?_set_ne fun e => hij e.symm]; exact hta) hya
  · rw [xa, sa, xb, sb]
    rw [stepX_at (i := j) (t := tb) (by dsimp only; rw [List.getElem?_set_ne hij]; exact htb), stepX_at (i := i) (t := ta) (by dsimp only; rw [List.getElem?_set_ne fun e => hij e.symm]; exact hta)]
    dsimp only
    rw [step_run hjl hkb hca' hinb hyb, step_run hil hka hcb' hina hya]
    dsimp only
    have r1 : recsOf tb.id (doA (doA q.b.s (axOf ta.id ya)).1 (axOf tb.id yb)) = recsOf tb.id (doA q.b.s (axOf tb.id yb)) := by unfold recsOf; rw [c1]
    have r2 : recsOf ta.id (doA (doA q.b.s (axOf tb.id yb)).1 (axOf ta.id ya)) = recsOf ta.id (doA q.b.s (axOf ta.id ya)) := by unfold recsOf; rw [c2]
    rw [r1, r2, c1, c2]
    refine ⟨c3, List.set_comm _ _ hij, List.set_comm _ _ hij, fun k => ?_⟩
    dsimp only
    rw [List.filter_append, List.filter_append, List.filter_append, List.filter_append]
    by_cases e : ta.id = k
    · rw [filter_none (t := tb.id) (i := k) recsOf_task (by rw [← e]; exact fun h => hne h.symm)]
      simp
    · rw [filter_none (t := ta.id) (i := k) recsOf_task e]
      simp
theorem wok_at {x : Sx} (hx : SxOk x) (p : List Int) : WOk x (atX x p) := by
  have : ∀ (p : List Int) (q : Pl) (m : Nat), PlOk x q m → WOk x q → WOk x (p.foldl (stepX x) q) := by
    intro p
    induction p with
    | nil => exact fun q m _ h => h
    | cons t p ih => exact fun q m h1 h2 => ih _ _ (pl_step h1 t) (wok_step hx h1 h2 t)
  exact this p _ 0 (pl_start hx) wok_start
theorem at_append (x : Sx) (p v : List Int) : atX x (p ++ v) = v.foldl (stepX x) (atX x p) := by unfold atX; rw [List.foldl_append]
theorem eqv_alike {x : Sx} (hx : SxOk x) {p p' : List Int} (h : Eqv (atX x p) (atX x p')) : Alike (sysX x) p p' := by
  have key : ∀ v, Eqv (atX x (p ++ v)) (atX x (p' ++ v)) := by
    intro v
    rw [at_append, at_append]
    have : ∀ (v : List Int) (q q' : Pl) (m m' : Nat), PlOk x q m → PlOk x q' m' → Eqv q q' → Eqv (v.foldl (stepX x) q) (v.foldl (stepX x) q') := by
      intro v
      induction v with
      | nil => exact fun _ _ _ _ _ _ h => h
      | cons t v ih => exact fun q q' m m' h1 h2 h => ih _ _ _ _ (pl_step h1 t) (pl_step h2 t) (h.step hx h1 h2 t)
    exact this v _ _ _ _ (pl_at hx p) (pl_at hx p') h
  exact ⟨fun v => (key v).en _, fun v t => (key v).foot t, fun v => (key v).done, fun v => congrArg strOfNums (key v).out⟩
theorem comm_sys {x : Sx} (hx : SxOk x) : Comm (sysX x) := by
  intro p a b hl hab hi
  obtain ⟨_, hlf⟩ := legal_F.1 hl
  rw [legalF_append] at hlf
  obtain ⟨_, h1, h2, _⟩ := hlf
  simp only [List.nil_append] at h1 h2
  have e1 : atX x (p ++ [a]) = stepX x (atX x p) a := at_snoc x p a
  have e2 : atX x (p ++ [b]) = stepX x (atX x p) b := at_snoc x p b
  have e3 : atX x (p ++ [a, b]) = stepX x (stepX x (atX x p) a) b := by rw [at_append]; rfl
  have e4 : atX x (p ++ [b, a]) = stepX x (stepX x (atX x p) b) a := by rw [at_append]; rfl
  have h2' : b ∈ enTo (stepX x (atX x p) a) x.ps.length := by
    have : b ∈ enTo (atX x (p ++ [a])) x.ps.length := h2
    rwa [e1] at this
  have hi' : indy (footX x (atX x p) a) (footX x (stepX x (atX x p) a) b) = true := by
    have : indy (footX x (atX x p) a) (footX x (atX x (p ++ [a])) b) = true := hi
    rwa [e1] at this
  obtain ⟨g1, g2, g3, g4, g5⟩ := stepX_comm hx (pl_at hx p) (wok_at hx p) hab h1 h2' hi'
  refine ⟨g1, ?_, ?_, ?_, eqv_alike hx (by rw [e3, e4]; exact g5)⟩
  · show a ∈ enTo (atX x (p ++ [b])) x.ps.length
    rw [e2]; exact g2
  · show footX x (atX x p) b = footX x (atX x (p ++ [a])) b
    rw [e1]; exact g3
  · show footX x (atX x (p ++ [b])) a = footX x (atX x p) a
    rw [e2]; exact g4
end Go.Proofs.YtplooifpgmlofaaGreat
