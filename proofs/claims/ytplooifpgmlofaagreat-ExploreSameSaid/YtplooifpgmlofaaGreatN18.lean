/- Turns that sleep. No condition. -/
import Derived.Test.YtplooifpgmlofaaGreatN17
import Derived.Test.YtplooifpgmlofaaGreatN15
namespace Go.Proofs.YtplooifpgmlofaaGreat
open Go.RowKit

def Comm2 (Y : Sys) : Prop := ∀ p a b, a ∈ Y.en p → b ∈ Y.en p → a ≠ b → indy (Y.foot p a) (Y.foot p b) = true → b ∈ Y.en (p ++ [a]) ∧ Y.foot (p ++ [a]) b = Y.foot p b
def Asc (Y : Sys) : Prop := ∀ p, (Y.en p).Pairwise (· < ·)

theorem Swp.app {l m : List Stp} (u : List Stp) (h : Swp l m) : Swp (u ++ l) (u ++ m) := by
 obtain ⟨u', x, y, v, ht, hi⟩ := h
 rw [← List.append_assoc, ← List.append_assoc]
 exact .mk _ x y v ht hi
theorem Sws.app {l m : List Stp} (u : List Stp) (h : Sws l m) : Sws (u ++ l) (u ++ m) := by
 induction h with
 | refl => exact .refl _
 | step h _ ih => exact .step (h.app u) ih
theorem sws_behind {Y : Sys} (hY : Comm Y) {p r : List Int} {m : List Stp} (hl : legal Y (p ++ r)) (h : Sws (stepsF Y p r) m) : ∃ r', legal Y (p ++ r') ∧ stepsF Y p r' = m ∧ Alike Y (p ++ r) (p ++ r') := by
 obtain ⟨q, h1, h2, h3⟩ := sws_turns hY (h.app (stepsF Y [] p)) hl (by rw [stepsF_append]; simp)
 have e : q = p ++ m.map Stp.task := by
  rw [← stepsF_task (Y := Y) (r := q) (q := []), h2, List.map_append, stepsF_task]
 subst e
 refine ⟨m.map Stp.task, h1, ?_, h3⟩
 rw [stepsF_append] at h2
 simpa using h2
theorem front_en {Y : Sys} (hY : Comm Y) {p r : List Int} (hl : legal Y (p ++ r)) {u : Int} {s : Stp} (h : frontS (stepsF Y p r) u = some s) : u ∈ Y.en p ∧ s.uses = Y.foot p u := by
 obtain ⟨r', h1, h2, _⟩ := sws_behind hY hl (sws_front _ _ _ h)
 have ht := (free_front _ _ _ h).1
 cases r' with
 | nil => cases h2
 | cons t r' =>
  simp only [stepsF, List.cons.injEq] at h2
  have e1 : t = u := by rw [← ht, ← h2.1]
  subst e1
  obtain ⟨_, hlf⟩ := legal_F.1 h1
  rw [legalF_append] at hlf
  refine ⟨by simpa using hlf.2.1, ?_⟩
  rw [← h2.1]

def slAt (Y : Sys) (p : List Int) : List Stp → List Int → Int → List Stp
 | sl, [], _ => sl
 | sl, u :: ts, t => if u = t then sl else if sl.any (fun q => q.task == u) then slAt Y p sl ts t else slAt Y p (sl ++ [⟨u, Y.foot p u⟩]) ts t
def awk (Y : Sys) : List Int → List Stp → List Int → Bool
 | _, _, [] => true
 | p, sl, t :: r => !((slAt Y p sl (Y.en p) t).any fun q => q.task == t) && awk Y (p ++ [t]) ((slAt Y p sl (Y.en p) t).filter fun q => indy q.uses (Y.foot p t)) r
theorem slAt_mem {Y : Sys} {p : List Int} {t : Int} : ∀ {ts : List Int} {sl : List Stp}, ts.Pairwise (· < ·) → t ∈ ts → ∀ x, x ∈ slAt Y p sl ts t ↔ x ∈ sl ∨ (x.task ∈ ts ∧ x.task < t ∧ (∀ q ∈ sl, q.task ≠ x.task) ∧ x.uses = Y.foot p x.task)
 | [], _, _, h, _ => by cases h
 | u :: ts, sl, hp, ht, x => by
  rw [List.pairwise_cons] at hp
  unfold slAt
  by_cases hu : u = t
  ·subst hu
   rw [if_pos rfl]
   constructor
   ·exact .inl
   ·rintro (h | ⟨h1, h2, _⟩)
    ·exact h
    ·rcases List.mem_cons.1 h1 with e | h1
     ·omega
     ·have := hp.1 _ h1; omega
  ·rw [if_neg hu]
   have ht' : t ∈ ts := (List.mem_cons.1 ht).resolve_left fun e => hu e.symm
   have hut := hp.1 t ht'
   by_cases hs : sl.any (fun q => q.task == u) = true
   ·rw [if_pos hs, slAt_mem hp.2 ht']
    obtain ⟨q, hq, hqu⟩ := List.any_eq_true.1 hs
    have hqu : q.task = u := by simpa using hqu
    constructor
    ·rintro (h | ⟨h1, h2, h3, h4⟩)
     ·exact .inl h
     ·exact .inr ⟨List.mem_cons_of_mem _ h1, h2, h3, h4⟩
    ·rintro (h | ⟨h1, h2, h3, h4⟩)
     ·exact .inl h
     ·rcases List.mem_cons.1 h1 with e | h1
      ·exact absurd (hqu.trans e.symm) (h3 q hq)
      ·exact .inr ⟨h1, h2, h3, h4⟩
   ·rw [if_neg hs, slAt_mem hp.2 ht']
    have hs' : ∀ q ∈ sl, q.task ≠ u := fun q hq e => hs (List.any_eq_true.2 ⟨q, hq, by simp [e]⟩)
    constructor
    ·rintro (h | ⟨h1, h2, h3, h4⟩)
     ·rcases List.mem_append.1 h with h | h
      ·exact .inl h
      ·rw [List.mem_singleton] at h
       subst h
       exact .inr ⟨List.mem_cons_self .., hut, hs', rfl⟩
     ·exact .inr ⟨List.mem_cons_of_mem _ h1, h2, fun q hq => h3 q (List.mem_append_left _ hq), h4⟩
    ·rintro (h | ⟨h1, h2, h3, h4⟩)
     ·exact .inl (List.mem_append_left _ h)
     ·rcases List.mem_cons.1 h1 with e | h1
      ·refine .inl (List.mem_append_right _ ?_)
       obtain ⟨a, b⟩ := x
       dsimp only at e h4
       subst e
       rw [List.mem_singleton, h4]
      ·refine .inr ⟨h1, h2, fun q hq => ?_, h4⟩
       rcases List.mem_append.1 hq with hq | hq
       ·exact h3 q hq
       ·rw [List.mem_singleton] at hq
        subst hq
        have := hp.1 _ h1
        dsimp only
        omega
def SlOk (Y : Sys) (p : List Int) (sl : List Stp) : Prop := ∀ s ∈ sl, s.task ∈ Y.en p ∧ s.uses = Y.foot p s.task
theorem awk_iff {Y : Sys} (hY : Comm Y) (hY2 : Comm2 Y) (hA : Asc Y) : ∀ (r p : List Int) (sl : List Stp), legal Y (p ++ r) → SlOk Y p sl → (awk Y p sl r = true ↔ (∀ s ∈ sl, frontS (stepsF Y p r) s.task = none) ∧ normX r.length (stepsF Y p r) = r)
 | [], p, sl, _, _ => by simp [awk, stepsF, frontS, normX]
 | t :: r, p, sl, hl, hs => by
  have hl' : legal Y (p ++ [t] ++ r) := by simpa using hl
  obtain ⟨_, hlf⟩ := legal_F.1 hl
  rw [legalF_append] at hlf
  have ht : t ∈ Y.en p := by simpa using hlf.2.1
  have hmem := fun x => slAt_mem (Y := Y) (p := p) (t := t) (sl := sl) (hA p) ht x
  have hS : stepsF Y p (t :: r) = ⟨t, Y.foot p t⟩ :: stepsF Y (p ++ [t]) r := rfl
  -- those who sleep behind this turn
  have hs' : (∀ q ∈ sl, q.task ≠ t) → SlOk Y (p ++ [t]) ((slAt Y p sl (Y.en p) t).filter fun q => indy q.uses (Y.foot p t)) := fun hnt s hsm => by
   obtain ⟨h1, h2⟩ := List.mem_filter.1 hsm
   have key : s.task ∈ Y.en p ∧ s.uses = Y.foot p s.task ∧ s.task ≠ t := by
    rcases (hmem s).1 h1 with h | ⟨h3, h4, _, h5⟩
    ·exact ⟨(hs s h).1, (hs s h).2, hnt s h⟩
    ·exact ⟨h3, h5, by omega⟩
   obtain ⟨k1, k2, k3⟩ := key
   have hi : indy (Y.foot p t) (Y.foot p s.task) = true := by rw [indy_comm, ← k2]; exact h2
   obtain ⟨g1, g2⟩ := hY2 p t s.task ht k1 (fun e => k3 e.symm) hi
   exact ⟨g1, by rw [g2]; exact k2⟩
  have front_cons : ∀ u, u ≠ t → frontS (stepsF Y p (t :: r)) u = match frontS (stepsF Y (p ++ [t]) r) u with
    | some s => if indy (Y.foot p t) s.uses then some s else none
    | none => none := fun u hu => by
   rw [hS, frontS, if_neg (fun e => hu e.symm)]
   cases frontS (stepsF Y (p ++ [t]) r) u <;> rfl
  have ih := fun hnt => awk_iff hY hY2 hA r (p ++ [t]) _ hl' (hs' hnt)
  -- one who could come first behind this turn, and is independent of it, could have come first before
  have back : ∀ u s, u ≠ t → u ∈ Y.en p → indy (Y.foot p u) (Y.foot p t) = true → frontS (stepsF Y (p ++ [t]) r) u = some s → frontS (stepsF Y p (t :: r)) u = some s := fun u s hu hue hi hf => by
   obtain ⟨_, g2⟩ := front_en hY hl' hf
   have hi' : indy (Y.foot p t) (Y.foot p u) = true := by rw [indy_comm]; exact hi
   rw [front_cons u hu, hf]
   dsimp only
   rw [g2, (hY2 p t u ht hue (fun e => hu e.symm) hi').2, hi', if_pos rfl]
  constructor
  ·intro h
   rw [awk, Bool.and_eq_true, Bool.not_eq_true', List.any_eq_false] at h
   obtain ⟨h1, h2⟩ := h
   have hnt : ∀ q ∈ sl, q.task ≠ t := fun q hq e => by
    have := h1 q ((hmem q).2 (.inl hq))
    simp [e] at this
   obtain ⟨i1, i2⟩ := (ih hnt).1 h2
   have a : ∀ s ∈ sl, frontS (stepsF Y p (t :: r)) s.task = none := fun s hsm => by
    cases hf : frontS (stepsF Y p (t :: r)) s.task with
    | none => rfl
    | some s' =>
     exfalso
     obtain ⟨g1, g2⟩ := front_en hY hl hf
     rw [front_cons _ (hnt s hsm)] at hf
     cases hf' : frontS (stepsF Y (p ++ [t]) r) s.task with
     | none => rw [hf'] at hf; cases hf
     | some s2 =>
      rw [hf'] at hf
      dsimp only at hf
      split at hf
      ·rename_i hi
       obtain rfl := Option.some.inj hf
       have hin : s ∈ (slAt Y p sl (Y.en p) t).filter fun q => indy q.uses (Y.foot p t) := List.mem_filter.2 ⟨(hmem s).2 (.inl hsm), by rw [(hs s hsm).2, ← g2, indy_comm]; exact hi⟩
       rw [i1 s hin] at hf'
       cases hf'
      ·cases hf
   refine ⟨a, ?_⟩
   have least : leastS (stepsF Y p (t :: r)) t := by
    refine ⟨by rw [hS, frontS, if_pos rfl]; rfl, fun u hu => ?_⟩
    obtain ⟨s, hf⟩ := Option.isSome_iff_exists.1 hu
    obtain ⟨g1, g2⟩ := front_en hY hl hf
    rcases Int.lt_or_le u t with hlt | hle
    ·exfalso
     by_cases hin : ∃ q ∈ sl, q.task = u
     ·obtain ⟨q, hq, e⟩ := hin
      have := a q hq
      rw [e, hf] at this
      cases this
     ·rw [front_cons u (by omega)] at hf
      cases hf' : frontS (stepsF Y (p ++ [t]) r) u with
      | none => rw [hf'] at hf; cases hf
      | some s2 =>
       rw [hf'] at hf
       dsimp only at hf
       split at hf
       ·rename_i hi
        obtain rfl := Option.some.inj hf
        have hm : (⟨u, Y.foot p u⟩ : Stp) ∈ (slAt Y p sl (Y.en p) t).filter fun q => indy q.uses (Y.foot p t) := List.mem_filter.2 ⟨(hmem _).2 (.inr ⟨g1, hlt, fun q hq e => hin ⟨q, hq, e⟩, rfl⟩), by
         dsimp only
         rw [← g2, indy_comm]; exact hi⟩
        have := i1 _ hm
        dsimp only at this
        rw [hf'] at this
        cases this
       ·cases hf
    ·exact hle
   rw [List.length_cons, normX_least least, hS, remS, if_pos rfl, i2]
  ·rintro ⟨a, b⟩
   have hnt : ∀ q ∈ sl, q.task ≠ t := fun q hq e => by
    have := a q hq
    rw [e, hS, frontS, if_pos rfl] at this
    cases this
   obtain ⟨t', ht'⟩ := has_least (l := stepsF Y p (t :: r)) (by rw [hS]; simp)
   rw [List.length_cons, normX_least ht'] at b
   obtain ⟨e1, e2⟩ := List.cons.inj b
   subst e1
   rw [hS, remS, if_pos rfl] at e2
   rw [awk, Bool.and_eq_true, Bool.not_eq_true', List.any_eq_false]
   refine ⟨fun q hq => ?_, (ih hnt).2 ⟨fun s hsm => ?_, e2⟩⟩
   ·rcases (hmem q).1 hq with h | ⟨_, h, _⟩
    ·simpa using hnt q h
    ·simp only [beq_iff_eq]; omega
   ·obtain ⟨h1, h2⟩ := List.mem_filter.1 hsm
    cases hf : frontS (stepsF Y (p ++ [t']) r) s.task with
    | none => rfl
    | some s2 =>
     exfalso
     rcases (hmem s).1 h1 with h | ⟨h3, h4, _, h5⟩
     ·have := back s.task s2 (hnt s h) (hs s h).1 (by rw [← (hs s h).2]; exact h2) hf
      rw [a s h] at this
      cases this
     ·have := back s.task s2 (by omega) h3 (by rw [← h5]; exact h2) hf
      have := ht'.2 s.task (by rw [this]; rfl)
      omega
theorem awk_normal {Y : Sys} (hY : Comm Y) (hY2 : Comm2 Y) (hA : Asc Y) {r : List Int} (hl : legal Y r) : awk Y [] [] r = true ↔ normal Y r = r := by
 rw [awk_iff hY hY2 hA r [] [] (by simpa using hl) (fun s h => by cases h), normal_F]
 simp

def lps (rec : List Int → List Stp → List (List Int × Bool)) (Y : Sys) (b : Bool) (p : List Int) : List Int → List Stp → List (List Int × Bool)
 | [], _ => []
 | t :: ts, sl => if sl.any (fun q => b && q.task == t) then lps rec Y b p ts sl else rec (p ++ [t]) (sl.filter fun q => indy q.uses (Y.foot p t)) ++ lps rec Y b p ts (sl ++ [⟨t, Y.foot p t⟩])
def lvs (Y : Sys) (b : Bool) : Nat → List Int → List Stp → List (List Int × Bool)
 | 0, p, _ => [(p, decide (0 < (Y.en p).length))]
 | n + 1, p, sl => if Y.en p = [] then [(p, false)] else lps (lvs Y b n) Y b p (Y.en p) sl
theorem lvs_pre {Y : Sys} {b : Bool} : ∀ (n : Nat) (p : List Int) (sl : List Stp), ∀ x ∈ lvs Y b n p sl, ∃ r, x.1 = p ++ r
 | 0, p, _, x, h => by
  unfold lvs at h
  rw [List.mem_singleton] at h
  exact ⟨[], by rw [h]; simp⟩
 | n + 1, p, sl, x, h => by
  unfold lvs at h
  split at h
  ·rw [List.mem_singleton] at h
   exact ⟨[], by rw [h]; simp⟩
  ·have key : ∀ (ts : List Int) (sl : List Stp), x ∈ lps (lvs Y b n) Y b p ts sl → ∃ r, x.1 = p ++ r := by
    intro ts
    induction ts with
    | nil => intro sl h; cases h
    | cons t ts ih =>
     intro sl h
     unfold lps at h
     split at h
     ·exact ih _ h
     ·rcases List.mem_append.1 h with h | h
      ·obtain ⟨r, hr⟩ := lvs_pre n _ _ x h
       exact ⟨t :: r, by rw [hr]; simp⟩
      ·exact ih _ h
   exact key _ _ h
theorem lvs_sl {Y : Sys} : ∀ (n : Nat) (p : List Int) (sl sl' : List Stp), lvs Y false n p sl = lvs Y false n p sl'
 | 0, _, _, _ => rfl
 | n + 1, p, sl, sl' => by
  have key : ∀ (ts : List Int) (sl sl' : List Stp), lps (lvs Y false n) Y false p ts sl = lps (lvs Y false n) Y false p ts sl' := by
   intro ts
   induction ts with
   | nil => exact fun _ _ => rfl
   | cons t ts ih =>
    intro sl sl'
    have h0 : ∀ l : List Stp, (l.any fun q => false && q.task == t) = false := fun l => by simp
    unfold lps
    rw [h0, h0]
    simp only [Bool.false_eq_true, if_false]
    rw [lvs_sl n (p ++ [t]) (sl.filter fun q => indy q.uses (Y.foot p t)) (sl'.filter fun q => indy q.uses (Y.foot p t)), ih (sl ++ [Stp.mk t (Y.foot p t)]) (sl' ++ [Stp.mk t (Y.foot p t)])]
  unfold lvs
  rw [key]
theorem lvs_awk {Y : Sys} (hA : Asc Y) : ∀ (n : Nat) (p : List Int) (sl : List Stp), lvs Y true n p sl = (lvs Y false n p []).filter fun x => awk Y p sl (x.1.drop p.length)
 | 0, p, sl => by simp [lvs, awk]
 | n + 1, p, sl => by
  unfold lvs
  split
  ·simp [awk]
  ·-- pre: the tasks that were tried already
   have key : ∀ (ts pre : List Int) (sl' : List Stp), pre ++ ts = Y.en p → (∀ t ∈ ts, slAt Y p sl (Y.en p) t = slAt Y p sl' ts t) →
     lps (lvs Y true n) Y true p ts sl' = (lps (lvs Y false n) Y false p ts []).filter fun x => awk Y p sl (x.1.drop p.length) := by
    intro ts
    induction ts with
    | nil => intro _ _ _ _; rfl
    | cons t ts ih =>
     intro pre sl' hpre hat
     have hnd : (pre ++ t :: ts).Pairwise (· < ·) := by rw [hpre]; exact hA p
     have hnt : t ∉ ts := fun h => by
      have := (List.pairwise_append.1 hnd).2.1
      rw [List.pairwise_cons] at this
      have := this.1 t h
      omega
     have htat : slAt Y p sl (Y.en p) t = sl' := by rw [hat t (by simp), slAt, if_pos rfl]
     have h0 : (([] : List Stp).any fun q => false && q.task == t) = false := rfl
     -- what is awake of those that begin with t
     have hd : ∀ x ∈ lvs Y false n (p ++ [t]) [], ∃ r, x.1 = p ++ [t] ++ r := lvs_pre n _ _
     have hone : ∀ x ∈ lvs Y false n (p ++ [t]) [], awk Y p sl (x.1.drop p.length) = (!(sl'.any fun q => q.task == t) && awk Y (p ++ [t]) (sl'.filter fun q => indy q.uses (Y.foot p t)) (x.1.drop (p ++ [t]).length)) := by
      intro x hx
      obtain ⟨r, hr⟩ := hd x hx
      have e1 : x.1.drop p.length = t :: r := by rw [hr, List.append_assoc, List.drop_left']; rfl; rfl
      have e2 : x.1.drop (p ++ [t]).length = r := by rw [hr, List.drop_left']; rfl
      rw [e1, e2, awk, htat]
     have hnext : ∀ u ∈ ts, u ≠ t := fun u hu e => hnt (e ▸ hu)
     rw [lps, lps, h0]
     simp only [Bool.true_and, Bool.false_eq_true, if_false]
     rw [List.filter_append]
     have hrest : ∀ sl'' : List Stp, (∀ u ∈ ts, slAt Y p sl' (t :: ts) u = slAt Y p sl'' ts u) →
       lps (lvs Y true n) Y true p ts sl'' = (lps (lvs Y false n) Y false p ts []).filter fun x => awk Y p sl (x.1.drop p.length) := fun sl'' h1 =>
      ih (pre ++ [t]) sl'' (by rw [← hpre]; simp) (fun u hu => (hat u (List.mem_cons_of_mem _ hu)).trans (h1 u hu))
     have hlsl : lps (lvs Y false n) Y false p ts ([] ++ [⟨t, Y.foot p t⟩]) = lps (lvs Y false n) Y false p ts [] := by
      have : ∀ (ts : List Int) (a b : List Stp), lps (lvs Y false n) Y false p ts a = lps (lvs Y false n) Y false p ts b := by
       intro ts
       induction ts with
       | nil => exact fun _ _ => rfl
       | cons t ts ih =>
        intro a b
        have h0 : ∀ l : List Stp, (l.any fun q => false && q.task == t) = false := fun l => by simp
        unfold lps
        rw [h0, h0]
        simp only [Bool.false_eq_true, if_false]
        rw [lvs_sl n (p ++ [t]) (a.filter fun q => indy q.uses (Y.foot p t)) (b.filter fun q => indy q.uses (Y.foot p t)), ih (a ++ [Stp.mk t (Y.foot p t)]) (b ++ [Stp.mk t (Y.foot p t)])]
      exact this _ _ _
     rw [hlsl]
     by_cases hsl : (sl'.any fun q => q.task == t) = true
     ·rw [if_pos hsl]
      have hz : (lvs Y false n (p ++ [t]) (([] : List Stp).filter fun q => indy q.uses (Y.foot p t))).filter (fun x => awk Y p sl (x.1.drop p.length)) = [] := by
       rw [List.filter_eq_nil_iff]
       intro x hx
       rw [hone x hx, hsl]
       simp
      rw [hz, List.nil_append]
      refine hrest sl' fun u hu => ?_
      rw [slAt, if_neg (fun e => hnext u hu e.symm), if_pos hsl]
     ·rw [if_neg hsl]
      have hsl' : (sl'.any fun q => q.task == t) = false := by simpa using hsl
      have hy : (lvs Y false n (p ++ [t]) (([] : List Stp).filter fun q => indy q.uses (Y.foot p t))).filter (fun x => awk Y p sl (x.1.drop p.length)) = lvs Y true n (p ++ [t]) (sl'.filter fun q => indy q.uses (Y.foot p t)) := by
       rw [lvs_awk hA n (p ++ [t])]
       refine List.filter_congr fun x hx => ?_
       rw [hone x hx, hsl']
       rfl
      rw [hy, hrest (sl' ++ [Stp.mk t (Y.foot p t)]) fun u hu => ?_]
      rw [slAt, if_neg (fun e => hnext u hu e.symm), if_neg hsl]
   exact key (Y.en p) [] sl rfl fun _ _ => rfl
end Go.Proofs.YtplooifpgmlofaaGreat
namespace Go.Proofs.YtplooifpgmlofaaGreat
open Go.RowKit
open Lo (Sy Lk Qu chk inT)

theorem asc_en (q : Pl) : ∀ k, (enTo q k).Pairwise (· < ·)
 | 0 => List.Pairwise.nil
 | k + 1 => by
  have ih := asc_en q k
  have e : enTo q (k + 1) = match q.ws[k]? with
   | some w => if canX q.b w then enTo q k ++ [((k : Int) + 1)] else enTo q k
   | none => enTo q k := rfl
  rw [e]
  split
  ·split
   ·rw [List.pairwise_append]
    refine ⟨ih, List.pairwise_singleton _ _, fun a ha b hb => ?_⟩
    rw [List.mem_singleton] at hb
    obtain ⟨i, _, hi, rfl, _⟩ := en_iff.1 ha
    omega
   ·exact ih
  ·exact ih
theorem asc_sys (x : Sx) : Asc (sysX x) := fun p => asc_en (atX x p) x.ps.length
theorem comm2_sys {x : Sx} (hx : SxOk x) : Comm2 (sysX x) := by
 intro p a b ha hb hab hi
 have ha : a ∈ enTo (atX x p) x.ps.length := ha
 have hb : b ∈ enTo (atX x p) x.ps.length := hb
 have hi : indy (footX x (atX x p) a) (footX x (atX x p) b) = true := hi
 show b ∈ enTo (atX x (p ++ [a])) x.ps.length ∧ footX x (atX x (p ++ [a])) b = footX x (atX x p) b
 rw [at_snoc]
 have h := pl_at hx p
 have hw := wok_at hx p
 generalize atX x p = q at ha hb hi h hw ⊢
 generalize p.length = m at h
 have live : ∀ {w : Wa} {b : Bn}, canX b w = true → w ≠ endW := fun h e => by subst e; simp [canX, endW] at h
 obtain ⟨i, wa, hil, rfl, hwa, hca⟩ := en_iff.1 ha
 obtain ⟨ta, hta, _⟩ := at_lt (show i < q.ts.length by rw [h.tn]; exact hil)
 obtain ⟨ya, hya, rfl⟩ := (hw i ta wa hta hwa).resolve_left (live hca)
 obtain ⟨j, wb, hjl, rfl, hwb, hcb⟩ := en_iff.1 hb
 obtain ⟨tb, htb, _⟩ := at_lt (show j < q.ts.length by rw [h.tn]; exact hjl)
 obtain ⟨yb, hyb, rfl⟩ := (hw j tb wb htb hwb).resolve_left (live hcb)
 have hij : i ≠ j := fun e => hab (by rw [e])
 obtain ⟨hina, _⟩ := id_in hx h hta
 have hka := h.ts i ta hta
 have sa := step_run hil hka h.chk hina hya
 have xa := stepX_at (x := x) hta
 have hP := pl_step h ((i : Int) + 1)
 rw [foot_at h hta hya, foot_at h htb hyb] at hi
 rw [xa, sa] at hP ⊢
 dsimp only at hP ⊢
 have hca' : chk (doA q.b.s (axOf ta.id ya)).1 = 0 := hP.chk
 have htb2 : (q.ts.set i { ta with pc := ta.pc + 1 })[j]? = some tb := by rw [List.getElem?_set_ne hij]; exact htb
 refine ⟨en_iff.2 ⟨j, waitB yb, hjl, rfl, ?_, ?_⟩, ?_⟩
 ·dsimp only
  rw [List.getElem?_set_ne hij]
  exact hwb
 ·rw [can_stays h.chk hca' hi _ q.b.rs]
  exact hcb
 ·rw [foot_at hP htb2 hyb, foot_at h htb hyb]

structure LfOk {β : Type} (most : Int) (lf : List Int → Bool → FdB β → FdB β) : Prop where
 step : ∀ p cut s, s.1.enough = false → s.1.runs < most → (lf p cut s).1.runs = s.1.runs + 1 ∧ (lf p cut s).1.enough = false
 full : ∀ p cut s, s.1.enough = false → (lf p cut s).1.full = true → s.1.full = true ∧ cut = false ∧ (lf p cut s).1.runs = s.1.runs + 1 ∧ (lf p cut s).1.enough = false
def foldL {β : Type} (lf : List Int → Bool → FdB β → FdB β) (l : List (List Int × Bool)) (s : FdB β) : FdB β := l.foldl (fun s x => lf x.1 x.2 s) s
theorem rest_pos {last left t : Int} {n m : Nat} (h : m + (n + 1) = 60) (hl : 60 ≤ left + m) : ¬ (if 0 < last ∧ last ≠ t then left - 1 else left) < 0 ∧ 60 ≤ (if 0 < last ∧ last ≠ t then left - 1 else left) + ((m : Int) + 1) := by
 split <;> omega
theorem goX_fold {β : Type} {most : Int} {lf : List Int → Bool → FdB β → FdB β} (h : LfOk most lf) {Y : Sys} {f : Cf} : ∀ (n : Nat) (p : List Int) (sl : List Stp) (left : Int) (s : FdB β), p.length + n = 60 → 60 ≤ left + p.length → s.1.enough = false → s.1.runs + (lvs Y f.sleeps n p sl).length ≤ most →
  goX lf Y f n p sl left s = foldL lf (lvs Y f.sleeps n p sl) s ∧ (goX lf Y f n p sl left s).1.runs = s.1.runs + (lvs Y f.sleeps n p sl).length ∧ (goX lf Y f n p sl left s).1.enough = false
 | 0, p, sl, left, s, _, _, he, hm => by
  have hm : s.1.runs + 1 ≤ most := by simpa [lvs] using hm
  obtain ⟨h1, h2⟩ := h.step p (decide (0 < (Y.en p).length)) s he (by omega)
  exact ⟨rfl, by simpa [goX, lvs] using h1, h2⟩
 | n + 1, p, sl, left, s, hn, hl, he, hm => by
  unfold goX
  unfold lvs at hm ⊢
  split
  ·rename_i h0
   rw [if_pos h0] at hm
   have hm : s.1.runs + 1 ≤ most := by simpa using hm
   obtain ⟨h1, h2⟩ := h.step p false s he (by omega)
   exact ⟨rfl, by simpa using h1, h2⟩
  ·rename_i h0
   rw [if_neg h0] at hm
   have key : ∀ (last : Int) (ts : List Int) (sl : List Stp) (s : FdB β), s.1.enough = false → s.1.runs + (lps (lvs Y f.sleeps n) Y f.sleeps p ts sl).length ≤ most →
     loopX (goX lf Y f n) Y f p last left ts sl s = foldL lf (lps (lvs Y f.sleeps n) Y f.sleeps p ts sl) s ∧ (loopX (goX lf Y f n) Y f p last left ts sl s).1.runs = s.1.runs + (lps (lvs Y f.sleeps n) Y f.sleeps p ts sl).length ∧ (loopX (goX lf Y f n) Y f p last left ts sl s).1.enough = false := by
    intro last ts
    induction ts with
    | nil => exact fun sl s he _ => ⟨rfl, by simp [loopX, lps], he⟩
    | cons t ts ih =>
     intro sl s he hm
     obtain ⟨r1, r2⟩ := rest_pos (last := last) (t := t) (n := n) hn hl
     unfold loopX
     unfold lps at hm ⊢
     by_cases ha : (sl.any fun q => f.sleeps && q.task == t) = true
     ·rw [if_pos ha] at hm
      rw [if_pos ha, if_pos ha]
      exact ih sl s he hm
     ·rw [if_neg ha, List.length_append] at hm
      rw [if_neg ha, if_neg ha, if_neg r1]
      obtain ⟨g1, g2, g3⟩ := goX_fold h (Y := Y) (f := f) n (p ++ [t]) (sl.filter fun q => indy q.uses (Y.foot p t)) (if 0 < last ∧ last ≠ t then left - 1 else left) s (by simp; omega) (by simpa using r2) he (by omega)
      rw [if_neg (by rw [g3]; exact Bool.false_ne_true)]
      obtain ⟨k1, k2, k3⟩ := ih (sl ++ [⟨t, Y.foot p t⟩]) (goX lf Y f n (p ++ [t]) (sl.filter fun q => indy q.uses (Y.foot p t)) (if 0 < last ∧ last ≠ t then left - 1 else left) s) g3 (by omega)
      refine ⟨?_, by rw [k2, g2, List.length_append]; omega, k3⟩
      rw [k1, g1]
      unfold foldL
      rw [List.foldl_append]
   exact key _ _ _ _ he hm
theorem goX_full {β : Type} {most : Int} {lf : List Int → Bool → FdB β → FdB β} (h : LfOk most lf) {Y : Sys} {f : Cf} : ∀ (n : Nat) (p : List Int) (sl : List Stp) (left : Int) (s : FdB β), p.length + n = 60 → 60 ≤ left + p.length → s.1.enough = false → (goX lf Y f n p sl left s).1.full = true →
  s.1.full = true ∧ (∀ x ∈ lvs Y f.sleeps n p sl, x.2 = false) ∧ goX lf Y f n p sl left s = foldL lf (lvs Y f.sleeps n p sl) s ∧ (goX lf Y f n p sl left s).1.runs = s.1.runs + (lvs Y f.sleeps n p sl).length ∧ (goX lf Y f n p sl left s).1.enough = false
 | 0, p, sl, left, s, _, _, he, hf => by
  obtain ⟨h1, h2, h3, h4⟩ := h.full p (decide (0 < (Y.en p).length)) s he hf
  refine ⟨h1, fun x hx => ?_, rfl, by simpa [goX, lvs] using h3, h4⟩
  unfold lvs at hx
  rw [List.mem_singleton] at hx
  rw [hx]; exact h2
 | n + 1, p, sl, left, s, hn, hl, he, hf => by
  unfold goX at hf ⊢
  unfold lvs
  split
  ·rename_i h0
   rw [if_pos h0] at hf
   obtain ⟨h1, h2, h3, h4⟩ := h.full p false s he hf
   refine ⟨h1, fun x hx => ?_, rfl, by simpa using h3, h4⟩
   rw [List.mem_singleton] at hx
   rw [hx]
  ·rename_i h0
   rw [if_neg h0] at hf
   have key : ∀ (last : Int) (ts : List Int) (sl : List Stp) (s : FdB β), s.1.enough = false → (loopX (goX lf Y f n) Y f p last left ts sl s).1.full = true →
     s.1.full = true ∧ (∀ x ∈ lps (lvs Y f.sleeps n) Y f.sleeps p ts sl, x.2 = false) ∧ loopX (goX lf Y f n) Y f p last left ts sl s = foldL lf (lps (lvs Y f.sleeps n) Y f.sleeps p ts sl) s ∧ (loopX (goX lf Y f n) Y f p last left ts sl s).1.runs = s.1.runs + (lps (lvs Y f.sleeps n) Y f.sleeps p ts sl).length ∧ (loopX (goX lf Y f n) Y f p last left ts sl s).1.enough = false := by
    intro last ts
    induction ts with
    | nil => exact fun sl s he hf => ⟨by simpa [loopX] using hf, fun x hx => (by cases hx), rfl, by simp [loopX, lps], he⟩
    | cons t ts ih =>
     intro sl s he hf
     obtain ⟨r1, r2⟩ := rest_pos (last := last) (t := t) (n := n) hn hl
     unfold loopX at hf ⊢
     unfold lps
     by_cases ha : (sl.any fun q => f.sleeps && q.task == t) = true
     ·rw [if_pos ha] at hf
      rw [if_pos ha, if_pos ha]
      exact ih sl s he hf
     ·rw [if_neg ha, if_neg r1] at hf
      rw [if_neg ha, if_neg ha, if_neg r1]
      have hr := goX_full h (Y := Y) (f := f) n (p ++ [t]) (sl.filter fun q => indy q.uses (Y.foot p t)) (if 0 < last ∧ last ≠ t then left - 1 else left) s (by simp; omega) (by simpa using r2) he
      by_cases hen : (goX lf Y f n (p ++ [t]) (sl.filter fun q => indy q.uses (Y.foot p t)) (if 0 < last ∧ last ≠ t then left - 1 else left) s).1.enough = true
      ·rw [if_pos hen] at hf
       have := (hr hf).2.2.2.2
       rw [hen] at this
       cases this
      ·rw [if_neg hen] at hf ⊢
       obtain ⟨k0, k1, k2, k3, k4⟩ := ih (sl ++ [⟨t, Y.foot p t⟩]) _ (by simpa using hen) hf
       obtain ⟨g0, g1, g2, g3, _⟩ := hr k0
       refine ⟨g0, fun x hx => ?_, ?_, by rw [k3, g3, List.length_append]; omega, k4⟩
       ·rcases List.mem_append.1 hx with hx | hx
        ·exact g1 x hx
        ·exact k1 x hx
       ·rw [k2, g2]
        unfold foldL
        rw [List.foldl_append]
   exact key _ _ _ _ he hf
theorem lfR_ok (Y : Sys) (f : Cf) : LfOk f.most (leafR Y f none) where
 step := fun p cut s he hr => by
  unfold leafR
  rw [if_neg (by omega)]
  split
  ·exact ⟨rfl, he⟩
  ·exact ⟨rfl, rfl⟩
 full := fun p cut s he hf => by
  unfold leafR at hf ⊢
  split
  ·rename_i hr
   rw [if_pos hr] at hf
   cases hf
  ·rename_i hr
   rw [if_neg hr] at hf
   cases cut
   ·exact ⟨hf, rfl, rfl, rfl⟩
   ·cases hf
def stuckN (Y : Sys) (l : List (List Int)) : Nat := l.countP fun p => !Y.done p
theorem foldR_eq (Y : Sys) (f : Cf) : ∀ (l : List (List Int × Bool)) (s : FdR), (∀ x ∈ l, x.2 = false) → s.1.enough = false → s.1.runs + l.length ≤ f.most →
  foldL (leafR Y f none) l s = (⟨s.1.runs + l.length, s.1.stuck + stuckN Y (l.map Prod.fst), s.1.full, false⟩, ⟨(l.map Prod.fst).foldl (fun o p => addR (Y.out p) o) s.2.outs, s.2.runs ++ l.map Prod.fst, s.2.fd, s.2.has⟩)
 | [], s, _, he, _ => by
  obtain ⟨⟨a, b, c, d⟩, o, r, u, v⟩ := s
  simp only at he
  subst he
  simp [foldL, stuckN]
 | x :: l, s, hx, he, hm => by
  rw [List.length_cons] at hm
  obtain ⟨p, cut⟩ := x
  obtain rfl : cut = false := hx (p, cut) (List.mem_cons_self ..)
  have hstep : leafR Y f none p false s = (⟨s.1.runs + 1, if Y.done p then s.1.stuck else s.1.stuck + 1, s.1.full, false⟩, ⟨addR (Y.out p) s.2.outs, s.2.runs ++ [p], s.2.fd, s.2.has⟩) := by
   unfold leafR
   rw [if_neg (by omega)]
   simp
  have : foldL (leafR Y f none) ((p, false) :: l) s = foldL (leafR Y f none) l (leafR Y f none p false s) := rfl
  rw [this, hstep, foldR_eq Y f l _ (fun y hy => hx y (List.mem_cons_of_mem _ hy)) rfl (by dsimp only; omega)]
  simp only [List.map_cons, List.foldl_cons, List.length_cons, List.append_assoc, List.singleton_append, Prod.mk.injEq, Ct.mk.injEq, and_true]
  refine ⟨by omega, ?_⟩
  unfold stuckN
  rw [List.countP_cons]
  cases Y.done p <;> simp <;> omega
def allR (Y : Sys) : List (List Int) := (lvs Y false 60 [] []).map Prod.fst
def someR (Y : Sys) : List (List Int) := (lvs Y true 60 [] []).map Prod.fst
def outsR (Y : Sys) (l : List (List Int)) : List ByteArray := l.foldl (fun o p => addR (Y.out p) o) []
theorem seen_full {Y : Sys} {f : Cf} (hs : f.sleeps = false) (hw : f.switches = 60) (hm : 0 ≤ f.most ∧ f.most ≤ 100000) (h : (seenR Y f none).full = true) :
  (∀ x ∈ lvs Y false 60 [] [], x.2 = false) ∧ ((allR Y).length : Int) ≤ f.most ∧ seenR Y f none = ⟨(allR Y).length, stuckN Y (allR Y), outsR Y (allR Y), true⟩ ∧ (seen Y f none).2.runs = allR Y := by
 obtain ⟨_, g1, g2, g3, _⟩ := goX_full (lfR_ok Y f) (Y := Y) (f := f) 60 [] [] f.switches (⟨0, 0, true, false⟩, ⟨[], [], [], false⟩) rfl (by rw [hw]; decide) rfl h
 rw [hs] at g1 g2 g3
 have hok := goX_inv (f := f) (lf := leafR Y f none) (Y := Y) (R := FdR.Ok f) (fun s h => ⟨⟨h.ct.most, h.ct.runs0, h.ct.runs, h.ct.stuck0, h.ct.stuck⟩, h.outs, h.runs⟩) (fun p cut s h => leafR_ok h) 60 [] [] f.switches (⟨0, 0, true, false⟩, ⟨[], [], [], false⟩) ⟨⟨hm.2, by simp, by simpa using hm.1, by simp, by simp⟩, by simp, by simp⟩
 have hle : ((lvs Y false 60 [] []).length : Int) ≤ f.most := by
  have := hok.ct.runs
  rw [g3] at this
  simpa using this
 have e := foldR_eq Y f (lvs Y false 60 [] []) (⟨0, 0, true, false⟩, ⟨[], [], [], false⟩) g1 rfl (by simpa using hle)
 have e2 : seen Y f none = _ := g2.trans e
 refine ⟨g1, by unfold allR; rw [List.length_map]; exact hle, ?_, ?_⟩
 ·unfold seenR
  rw [e2]
  simp [allR, outsR]
 ·rw [e2]
  simp [allR]
theorem some_sub {Y : Sys} (hA : Asc Y) : lvs Y true 60 [] [] = (lvs Y false 60 [] []).filter fun x => awk Y [] [] x.1 := by
 rw [lvs_awk hA]
 simp
theorem seen_some {Y : Sys} (hA : Asc Y) {f : Cf} (hs : f.sleeps = true) (hw : f.switches = 60) (hl : ((allR Y).length : Int) ≤ f.most) (hc : ∀ x ∈ lvs Y false 60 [] [], x.2 = false) :
  seenR Y f none = ⟨(someR Y).length, stuckN Y (someR Y), outsR Y (someR Y), true⟩ := by
 have hsub : (lvs Y true 60 [] []).Sublist (lvs Y false 60 [] []) := by rw [some_sub hA]; exact List.filter_sublist
 have hlen : ((lvs Y true 60 [] []).length : Int) ≤ f.most := by
  have := hsub.length_le
  unfold allR at hl
  rw [List.length_map] at hl
  omega
 have hc2 : ∀ x ∈ lvs Y true 60 [] [], x.2 = false := fun x hx => hc x (hsub.mem hx)
 obtain ⟨g1, _, _⟩ := goX_fold (lfR_ok Y f) (Y := Y) (f := f) 60 [] [] f.switches (⟨0, 0, true, false⟩, ⟨[], [], [], false⟩) rfl (by rw [hw]; decide) rfl (by rw [hs]; simpa using hlen)
 rw [hs, foldR_eq Y f _ _ hc2 rfl (by simpa using hlen)] at g1
 have g1 : seen Y f none = _ := g1
 unfold seenR
 rw [g1]
 simp [someR, outsR]

theorem mem_lvs {Y : Sys} : ∀ (n : Nat) (p : List Int) (sl : List Stp) (q : List Int), (q, false) ∈ lvs Y false n p sl ↔ ∃ r, q = p ++ r ∧ legalF Y p r ∧ r.length ≤ n ∧ Y.en q = []
 | 0, p, sl, q => by
  unfold lvs
  rw [List.mem_singleton, Prod.mk.injEq]
  constructor
  ·rintro ⟨rfl, h⟩
   have h := of_decide_eq_false h.symm
   exact ⟨[], by simp, trivial, Nat.le_refl _, List.eq_nil_of_length_eq_zero (by omega)⟩
  ·rintro ⟨r, rfl, _, hl, he⟩
   obtain rfl := List.eq_nil_of_length_eq_zero (Nat.le_zero.1 hl)
   rw [List.append_nil] at he ⊢
   exact ⟨rfl, by rw [he]; rfl⟩
 | n + 1, p, sl, q => by
  have key : ∀ (ts : List Int) (sl : List Stp), (q, false) ∈ lps (lvs Y false n) Y false p ts sl ↔ ∃ t r, t ∈ ts ∧ q = p ++ t :: r ∧ legalF Y (p ++ [t]) r ∧ r.length ≤ n ∧ Y.en q = [] := by
   intro ts
   induction ts with
   | nil => intro sl; simp [lps]
   | cons t ts ih =>
    intro sl
    have h0 : (sl.any fun q => false && q.task == t) = false := by simp
    unfold lps
    rw [h0]
    simp only [Bool.false_eq_true, if_false]
    rw [List.mem_append, mem_lvs n, ih]
    constructor
    ·rintro (⟨r, rfl, h2, h3, h4⟩ | ⟨u, r, h1, h2, h3, h4, h5⟩)
     ·exact ⟨t, r, by simp, by simp, h2, h3, h4⟩
     ·exact ⟨u, r, by simp [h1], h2, h3, h4, h5⟩
    ·rintro ⟨u, r, h1, h2, h3, h4, h5⟩
     rcases List.mem_cons.1 h1 with rfl | h1
     ·exact .inl ⟨r, by rw [h2]; simp, h3, h4, h5⟩
     ·exact .inr ⟨u, r, h1, h2, h3, h4, h5⟩
  unfold lvs
  split
  ·rename_i he
   rw [List.mem_singleton, Prod.mk.injEq]
   constructor
   ·rintro ⟨rfl, _⟩
    exact ⟨[], by simp, trivial, Nat.zero_le _, he⟩
   ·rintro ⟨r, rfl, hl, _, _⟩
    cases r with
    | nil => simp
    | cons t r => rw [legalF, he] at hl; cases hl.1
  ·rename_i he
   rw [key]
   constructor
   ·rintro ⟨t, r, h1, rfl, h3, h4, h5⟩
    exact ⟨t :: r, rfl, ⟨h1, h3⟩, by simp; omega, h5⟩
   ·rintro ⟨r, rfl, hl, h4, h5⟩
    cases r with
    | nil => rw [List.append_nil] at h5; exact absurd h5 he
    | cons t r => exact ⟨t, r, hl.1, rfl, hl.2, by simp at h4; omega, h5⟩
theorem lvs_nodup {Y : Sys} (hA : Asc Y) : ∀ (n : Nat) (p : List Int) (sl : List Stp), ((lvs Y false n p sl).map Prod.fst).Nodup
 | 0, p, sl => by simp [lvs]
 | n + 1, p, sl => by
  have key : ∀ (ts : List Int) (sl : List Stp), ts.Pairwise (· < ·) → ((lps (lvs Y false n) Y false p ts sl).map Prod.fst).Nodup ∧ ∀ x ∈ lps (lvs Y false n) Y false p ts sl, ∃ t r, t ∈ ts ∧ x.1 = p ++ t :: r := by
   intro ts
   induction ts with
   | nil => intro sl _; exact ⟨by simp [lps], fun x hx => by cases hx⟩
   | cons t ts ih =>
    intro sl hp
    rw [List.pairwise_cons] at hp
    have h0 : (sl.any fun q => false && q.task == t) = false := by simp
    obtain ⟨i1, i2⟩ := ih (sl ++ [⟨t, Y.foot p t⟩]) hp.2
    unfold lps
    rw [h0]
    simp only [Bool.false_eq_true, if_false]
    refine ⟨?_, fun x hx => ?_⟩
    ·rw [List.map_append, List.nodup_append]
     refine ⟨lvs_nodup hA n _ _, i1, fun a ha b hb e => ?_⟩
     obtain ⟨x, hx, rfl⟩ := List.mem_map.1 ha
     obtain ⟨y, hy, rfl⟩ := List.mem_map.1 hb
     obtain ⟨r, hr⟩ := lvs_pre n _ _ x hx
     obtain ⟨u, r', hu, hr'⟩ := i2 y hy
     rw [hr, hr', List.append_assoc] at e
     have := List.append_cancel_left e
     simp only [List.singleton_append, List.cons.injEq] at this
     have := hp.1 u hu
     omega
    ·rcases List.mem_append.1 hx with hx | hx
     ·obtain ⟨r, hr⟩ := lvs_pre n _ _ x hx
      exact ⟨t, r, by simp, by rw [hr]; simp⟩
     ·obtain ⟨u, r, hu, hr⟩ := i2 x hx
      exact ⟨u, r, by simp [hu], hr⟩
  unfold lvs
  split
  ·simp
  ·exact (key _ _ (hA p)).1
section
variable {Y : Sys} (hY : Comm Y) (hY2 : Comm2 Y) (hA : Asc Y) (hc : ∀ x ∈ lvs Y false 60 [] [], x.2 = false)
include hc
theorem mem_all (q : List Int) : q ∈ allR Y ↔ legal Y q ∧ Y.en q = [] := by
 have h := mem_lvs (Y := Y) 60 [] [] q
 have e : q ∈ allR Y ↔ (q, false) ∈ lvs Y false 60 [] [] := by
  unfold allR
  rw [List.mem_map]
  constructor
  ·rintro ⟨⟨a, b⟩, hx, rfl⟩
   obtain rfl : b = false := hc _ hx
   exact hx
  ·exact fun h => ⟨_, h, rfl⟩
 rw [e, h, legal_F]
 constructor
 ·rintro ⟨r, rfl, h1, h2, h3⟩
  exact ⟨⟨by simpa using h2, by simpa using h1⟩, h3⟩
 ·rintro ⟨⟨h1, h2⟩, h3⟩
  exact ⟨q, by simp, h2, h1, h3⟩
include hY hY2 hA
theorem some_eq : someR Y = (allR Y).filter fun q => decide (normal Y q = q) := by
 unfold someR
 rw [some_sub hA]
 have hm : ∀ x ∈ lvs Y false 60 [] [], awk Y [] [] x.1 = decide (normal Y x.1 = x.1) := fun x hx => by
  have hl : legal Y x.1 := ((mem_all hc x.1).1 (List.mem_map.2 ⟨x, hx, rfl⟩)).1
  rw [Bool.eq_iff_iff, awk_normal hY hY2 hA hl, decide_eq_true_iff]
 rw [List.filter_congr hm]
 unfold allR
 rw [List.filter_map]
 rfl
theorem mem_some (q : List Int) : q ∈ someR Y ↔ q ∈ allR Y ∧ normal Y q = q := by
 rw [some_eq hY hY2 hA hc, List.mem_filter, decide_eq_true_iff]
theorem normal_some {q : List Int} (h : q ∈ allR Y) : normal Y q ∈ someR Y ∧ Y.out (normal Y q) = Y.out q ∧ Y.done (normal Y q) = Y.done q := by
 obtain ⟨h1, h2⟩ := (mem_all hc q).1 h
 obtain ⟨n1, n2, n3, _⟩ := normal_legal hY h1
 have e := n2.en []
 have o := n2.out []
 have d := n2.done []
 simp only [List.append_nil] at e o d
 exact ⟨(mem_some hY hY2 hA hc _).2 ⟨(mem_all hc _).2 ⟨n1, by rw [← e]; exact h2⟩, n3⟩, o.symm, d.symm⟩
theorem some_nodup : (someR Y).Nodup := by
 rw [some_eq hY hY2 hA hc]
 exact (lvs_nodup hA 60 [] []).filter _
theorem some_stuck : decide (0 < stuckN Y (someR Y)) = decide (0 < stuckN Y (allR Y)) := by
 unfold stuckN
 rw [decide_eq_decide, List.countP_pos_iff, List.countP_pos_iff]
 constructor
 ·rintro ⟨q, hq, hd⟩
  exact ⟨q, ((mem_some hY hY2 hA hc q).1 hq).1, hd⟩
 ·rintro ⟨q, hq, hd⟩
  obtain ⟨h1, _, h3⟩ := normal_some hY hY2 hA hc hq
  exact ⟨_, h1, by rw [h3]; exact hd⟩
end
def putsZ (l : List ByteArray) (os : List ByteArray) : List ByteArray := os.foldl (fun l o => putZ o l) l
theorem putsZ_mem : ∀ (os l : List ByteArray) (x : ByteArray), x ∈ putsZ l os ↔ x ∈ l ∨ x ∈ os
 | [], l, x => by simp [putsZ]
 | o :: os, l, x => by
  have : putsZ l (o :: os) = putsZ (putZ o l) os := rfl
  rw [this, putsZ_mem os]
  have h : x ∈ putZ o l ↔ x ∈ l ∨ x = o := by
   unfold putZ
   split
   ·rename_i h
    exact ⟨.inl, fun hx => hx.elim id fun e => e ▸ h⟩
   ·rw [List.mem_append, List.mem_singleton]
  rw [h, List.mem_cons, or_assoc]
theorem putsZ_nodup : ∀ (os l : List ByteArray), l.Nodup → (putsZ l os).Nodup
 | [], _, h => h
 | o :: os, l, h => by
  refine putsZ_nodup os (putZ o l) ?_
  unfold putZ
  split
  ·exact h
  ·rename_i ho
   rw [List.nodup_append]
   exact ⟨h, by simp, fun a ha b hb e => ho (by rw [List.mem_singleton] at hb; rw [← hb, ← e]; exact ha)⟩
theorem outsR_sort (Y : Sys) (l : List (List Int)) : outsR Y l = sortB (putsZ [] (l.map Y.out)) := by
 have : ∀ (l : List (List Int)) (o : List ByteArray), l.foldl (fun o p => addR (Y.out p) o) (sortB o) = sortB (putsZ o (l.map Y.out)) := by
  intro l
  induction l with
  | nil => intro o; rfl
  | cons p l ih =>
   intro o
   rw [List.foldl_cons, addR_sort, ih]
   rfl
 have h := this l []
 have e : sortB [] = [] := by simp [sortB]
 rw [e] at h
 exact h
theorem same_outs {Y : Sys} {l m : List (List Int)} (h : ∀ o, o ∈ l.map Y.out ↔ o ∈ m.map Y.out) : outsR Y l = outsR Y m := by
 rw [outsR_sort, outsR_sort]
 refine sortB_perm ((List.perm_ext_iff_of_nodup (putsZ_nodup _ _ List.nodup_nil) (putsZ_nodup _ _ List.nodup_nil)).2 fun o => ?_)
 rw [putsZ_mem, putsZ_mem, h]
def putK (k : List (List Int)) (n : List Int) : List (List Int) := if n ∈ k then k else k ++ [n]
def putsK (k : List (List Int)) (l : List (List Int)) : List (List Int) := l.foldl putK k
theorem putsK_mem : ∀ (l k : List (List Int)) (x : List Int), x ∈ putsK k l ↔ x ∈ k ∨ x ∈ l
 | [], k, x => by simp [putsK]
 | n :: l, k, x => by
  have : putsK k (n :: l) = putsK (putK k n) l := rfl
  rw [this, putsK_mem l]
  have h : x ∈ putK k n ↔ x ∈ k ∨ x = n := by
   unfold putK
   split
   ·rename_i h
    exact ⟨.inl, fun hx => hx.elim id fun e => e ▸ h⟩
   ·rw [List.mem_append, List.mem_singleton]
  rw [h, List.mem_cons, or_assoc]
theorem putsK_nodup : ∀ (l k : List (List Int)), k.Nodup → (putsK k l).Nodup
 | [], _, h => h
 | n :: l, k, h => by
  refine putsK_nodup l (putK k n) ?_
  unfold putK
  split
  ·exact h
  ·rename_i ho
   rw [List.nodup_append]
   exact ⟨h, by simp, fun a ha b hb e => ho (by rw [List.mem_singleton] at hb; rw [← hb, ← e]; exact ha)⟩
theorem same_plain {Y : Sys} (hY : Comm Y) (hY2 : Comm2 Y) (hA : Asc Y) {m : Int} (hm : 0 ≤ m ∧ m ≤ 100000) (h : (seenR Y ⟨m, 60, false⟩ none).full = true) :
  (seen Y ⟨m, 60, false⟩ none).2.runs = allR Y ∧ (seenR Y ⟨m, 60, false⟩ none).runs = (allR Y).length ∧
  (seenR Y ⟨m, 60, true⟩ none).full = true ∧ (seenR Y ⟨m, 60, true⟩ none).outs = (seenR Y ⟨m, 60, false⟩ none).outs ∧
  decide (0 < (seenR Y ⟨m, 60, true⟩ none).stuck) = decide (0 < (seenR Y ⟨m, 60, false⟩ none).stuck) ∧
  (seenR Y ⟨m, 60, true⟩ none).runs = (putsK [] ((allR Y).map (normal Y))).length ∧ (seenR Y ⟨m, 60, true⟩ none).runs = (someR Y).length ∧
  (∀ q ∈ allR Y, legal Y q) ∧ ∀ q ∈ someR Y, legal Y q ∧ normal Y q = q := by
 obtain ⟨hc, hle, e1, e2⟩ := seen_full rfl rfl hm h
 have e3 := seen_some hA (f := ⟨m, 60, true⟩) rfl rfl hle hc
 have hcast : ∀ n : Nat, decide ((0 : Int) < (n : Int)) = decide (0 < n) := fun n => by rw [decide_eq_decide]; omega
 have hlen : (someR Y).length = (putsK [] ((allR Y).map (normal Y))).length := by
  refine ((List.perm_ext_iff_of_nodup (some_nodup hY hY2 hA hc) (putsK_nodup _ _ List.nodup_nil)).2 fun q => ?_).length_eq
  rw [putsK_mem, mem_some hY hY2 hA hc]
  constructor
  ·rintro ⟨h1, h2⟩
   exact .inr (List.mem_map.2 ⟨q, h1, h2⟩)
  ·rintro (h | h)
   ·cases h
   ·obtain ⟨p, hp, rfl⟩ := List.mem_map.1 h
    exact (mem_some hY hY2 hA hc _).1 (normal_some hY hY2 hA hc hp).1
 refine ⟨e2, by rw [e1], by rw [e3], ?_, ?_, by rw [e3, hlen], by rw [e3], fun q hq => ((mem_all hc q).1 hq).1, fun q hq => ?_⟩
 ·rw [e1, e3]
  refine same_outs fun o => ?_
  rw [List.mem_map, List.mem_map]
  constructor
  ·rintro ⟨q, hq, rfl⟩
   exact ⟨q, ((mem_some hY hY2 hA hc q).1 hq).1, rfl⟩
  ·rintro ⟨q, hq, rfl⟩
   obtain ⟨h1, h2, _⟩ := normal_some hY hY2 hA hc hq
   exact ⟨_, h1, h2⟩
 ·rw [e1, e3]
  dsimp only
  rw [hcast, hcast]
  exact some_stuck hY hY2 hA hc
 ·obtain ⟨h1, h2⟩ := (mem_some hY hY2 hA hc q).1 hq
  exact ⟨((mem_all hc q).1 h1).1, h2⟩
end Go.Proofs.YtplooifpgmlofaaGreat
