/- Plain laws on what is stuck; the statement Blocked No condition. -/
import Derived.Test.YtnkoibhjnahkiaaN7
import Derived.Test.YtnkoibhjnahkiaaN9
namespace Go.Proofs.Ytnkoibhjnahkiaa
/-- A lock, a queue and a group that Check takes. -/
def GoodL (l : Lk) : Prop := lkOk l = true ∧ formOk l = true
def GoodQ (q : Qu) : Prop := quOk q = true ∧ over q = false
theorem chk_iff {s : Sy} : chk s = 0 ↔ s.locks.length ≤ 16 ∧ s.queues.length ≤ 16 ∧ s.groups.length ≤ 16 ∧ (∀ l ∈ s.locks, GoodL l) ∧ (∀ q ∈ s.queues, GoodQ q) ∧ ∀ g ∈ s.groups, grOk g = true := by
  constructor
  · intro h
    obtain ⟨h1, h2, h3⟩ := chk_zero h
    unfold long at h1
    unfold ranges at h2
    simp only [Bool.or_eq_false_iff, decide_eq_false_iff_not, Bool.and_eq_true, List.all_eq_true, List.any_eq_false] at h1 h2 h3
    exact ⟨by omega, by omega, by omega, fun l hl => ⟨h2.1 l hl, h3 l hl⟩, fun q hq => ⟨h2.2.1 q hq, by simpa using h1.2 q hq⟩, h2.2.2⟩
  · rintro ⟨h1, h2, h3, h4, h5, h6⟩
    have a : long s = false := by
      unfold long
      simp only [Bool.or_eq_false_iff, decide_eq_false_iff_not, List.any_eq_false]
      exact ⟨⟨by omega, by omega, by omega⟩, fun q hq => by simp [(h5 q hq).2]⟩
    have b : ranges s = true := by
      unfold ranges
      simp only [Bool.and_eq_true, List.all_eq_true]
      exact ⟨fun l hl => (h4 l hl).1, fun q hq => (h5 q hq).1, h6⟩
    have c : s.locks.all formOk = true := by
      simp only [List.all_eq_true]
      exact fun l hl => (h4 l hl).2
    simp [chk, a, b, c]
theorem getD_mem {α : Type} {l : List α} {k : Nat} {d : α} (h : k < l.length) : l.getD k d ∈ l := by
  rw [List.getD_eq_getElem?_getD, List.getElem?_eq_getElem h]; exact List.getElem_mem h
theorem chk_onLock {s : Sy} (h : chk s = 0) {lock t : Int} {F : Lk → Int × Lk} (hF : ∀ l, inT t = true → GoodL l → (F l).1 = 0 → GoodL (F l).2) : chk (onLock s lock t F).1 = 0 := by
  unfold onLock
  split
  · exact h
  · rename_i hk
    have hk : known s lock t = 0 := by simpa using hk
    split
    · exact h
    · rename_i h0
      obtain ⟨g1, g2⟩ := known_lt hk
      have ht : inT t = true := by
        unfold known at hk
        rw [if_neg (by simpa using h), if_neg (by omega)] at hk
        split at hk
        · assumption
        · cases hk
      obtain ⟨a1, a2, a3, a4, a5, a6⟩ := chk_iff.1 h
      refine chk_iff.2 ⟨by simpa using a1, a2, a3, fun l hl => ?_, a5, a6⟩
      rcases List.mem_or_eq_of_mem_set hl with hl | rfl
      · exact a4 l hl
      · exact hF _ ht (a4 _ (getD_mem (by omega))) (by simpa using h0)
theorem chk_onQueue {s : Sy} (h : chk s = 0) {n : Int} {F : Qu → Int × Qu} (hF : ∀ q, GoodQ q → (F q).1 = 0 → GoodQ (F q).2) : chk (onQueue s n F).1 = 0 := by
  unfold onQueue
  split
  · exact h
  · rename_i hk
    have hk : queueE s n = 0 := by simpa using hk
    split
    · exact h
    · rename_i h0
      obtain ⟨g1, g2⟩ := queueE_lt hk
      obtain ⟨a1, a2, a3, a4, a5, a6⟩ := chk_iff.1 h
      refine chk_iff.2 ⟨a1, by simpa using a2, a3, a4, fun q hq => ?_, a6⟩
      rcases List.mem_or_eq_of_mem_set hq with hl | rfl
      · exact a5 q hl
      · exact hF _ (a5 _ (getD_mem (by omega))) (by simpa using h0)
theorem chk_addS {s : Sy} (h : chk s = 0) {n v : Int} : chk (addS s n v).1 = 0 := by
  unfold addS
  split
  · exact h
  · rename_i hk
    split
    · exact h
    · rename_i h0
      have hk : groupE s n = 0 := by simpa using hk
      have hn : 0 ≤ n ∧ n < s.groups.length := by
        unfold groupE at hk
        rw [if_neg (by simpa using h)] at hk
        split at hk
        · cases hk
        · omega
      obtain ⟨a1, a2, a3, a4, a5, a6⟩ := chk_iff.1 h
      refine chk_iff.2 ⟨a1, a2, by simpa using a3, a4, a5, fun g hg => ?_⟩
      rcases List.mem_or_eq_of_mem_set hg with hl | rfl
      · exact a6 g hl
      · have := a6 _ (getD_mem (d := 0) (show n.toNat < s.groups.length by omega))
        unfold grOk at this ⊢
        simp only [Bool.and_eq_true, decide_eq_true_eq] at this ⊢
        omega
theorem good_lock {t : Int} {l : Lk} (ht : inT t = true) (h : (lockF t l).1 = 0) : GoodL (lockF t l).2 := by
  unfold lockF at h ⊢
  split at h
  · cases h
  · rename_i h1
    rw [if_neg h1]
    split at h
    · cases h
    · rename_i h2
      rw [if_neg h2]
      have hr : l.rd = [] := List.length_eq_zero_iff.1 (by omega)
      refine ⟨?_, ?_⟩
      · simp [lkOk, ht, hr]
      · simp [formOk, hr, asc]
theorem good_unlock {t : Int} {l : Lk} (hg : GoodL l) (h : (unlockF t l).1 = 0) : GoodL (unlockF t l).2 := by
  unfold unlockF at h ⊢
  split at h
  · rename_i h1
    rw [if_pos h1]
    obtain ⟨a, b⟩ := hg
    unfold lkOk at a
    unfold formOk at b
    simp only [Bool.and_eq_true] at a b
    refine ⟨by simp [lkOk] ; simpa using a.2, by simp [formOk, b.2]⟩
  · cases h
theorem asc_tl {x : Int} {l : List Int} (h : asc (x :: l) = true) : asc l = true := by
  cases l with
  | nil => rfl
  | cons y r => simp only [asc, Bool.and_eq_true] at h; exact h.2
theorem asc_hd {x : Int} {l : List Int} (h : asc (x :: l) = true) : ∀ y ∈ l, x < y := by
  induction l generalizing x with
  | nil => intro y hy; cases hy
  | cons z r ih =>
    intro y hy
    simp only [asc, Bool.and_eq_true, decide_eq_true_eq] at h
    rcases List.mem_cons.1 hy with rfl | hy
    · exact h.1
    · have := ih h.2 y hy; omega
theorem asc_cons {x : Int} {l : List Int} (h : asc l = true) (h2 : ∀ y ∈ l, x < y) : asc (x :: l) = true := by
  cases l with
  | nil => rfl
  | cons y r => simp only [asc, Bool.and_eq_true, decide_eq_true_eq]; exact ⟨h2 y (by simp), h⟩
theorem putIn_cons {t x : Int} {l : List Int} : putIn t (x :: l) = if x < t then x :: putIn t l else t :: x :: l := by
  unfold putIn lower
  by_cases h : x < t
  · simp [h]
  · simp [h]
theorem putIn_mem {t : Int} : ∀ {l : List Int} {y : Int}, y ∈ putIn t l ↔ y = t ∨ y ∈ l
  | [], y => by simp [putIn, lower]
  | x :: l, y => by
    rw [putIn_cons]
    split
    · rw [List.mem_cons, putIn_mem, List.mem_cons]
      constructor
      · rintro (h | h | h) <;> simp [h]
      · rintro (h | h | h) <;> simp [h]
    · simp
theorem asc_putIn {t : Int} : ∀ {l : List Int}, asc l = true → t ∉ l → asc (putIn t l) = true
  | [], _, _ => rfl
  | x :: l, h, hn => by
    rw [putIn_cons]
    simp only [List.mem_cons, not_or] at hn
    split
    · refine asc_cons (asc_putIn (asc_tl h) hn.2) fun y hy => ?_
      rcases putIn_mem.1 hy with rfl | hy
      · assumption
      · exact asc_hd h y hy
    · refine asc_cons h fun y hy => ?_
      rcases List.mem_cons.1 hy with rfl | hy
      · omega
      · have := asc_hd h y hy; omega
theorem asc_erase : ∀ {l : List Int} (k : Nat), asc l = true → asc (l.eraseIdx k) = true
  | [], _, _ => rfl
  | _ :: _, 0, h => asc_tl h
  | _ :: _, k + 1, h => asc_cons (asc_erase k (asc_tl h)) fun y hy => asc_hd h y (List.mem_of_mem_eraseIdx hy)
theorem good_rlock {t : Int} {l : Lk} (ht : inT t = true) (hg : GoodL l) (h : (rlockF t l).1 = 0) : GoodL (rlockF t l).2 := by
  unfold rlockF at h ⊢
  split at h
  · cases h
  · rename_i h1
    rw [if_neg h1]
    split at h
    · cases h
    · rename_i h2
      rw [if_neg h2]
      obtain ⟨a, b⟩ := hg
      unfold lkOk at a
      unfold formOk at b
      simp only [Bool.and_eq_true, List.all_eq_true] at a b
      unfold hasT at h1
      simp only [Bool.or_eq_true, decide_eq_true_eq, not_or] at h1
      refine ⟨?_, ?_⟩
      · unfold lkOk
        simp only [Bool.and_eq_true, List.all_eq_true]
        refine ⟨a.1, fun x hx => ?_⟩
        rcases putIn_mem.1 hx with rfl | hx
        · exact ht
        · exact a.2 x hx
      · unfold formOk
        simp [h2, asc_putIn b.2 h1.2]
theorem good_runlock {t : Int} {l : Lk} (hg : GoodL l) (h : (runlockF t l).1 = 0) : GoodL (runlockF t l).2 := by
  unfold runlockF at h ⊢
  split at h
  · rename_i h1
    rw [if_pos h1]
    obtain ⟨a, b⟩ := hg
    unfold lkOk at a
    unfold formOk at b
    simp only [Bool.and_eq_true, List.all_eq_true] at a b
    refine ⟨?_, ?_⟩
    · unfold lkOk
      simp only [Bool.and_eq_true, List.all_eq_true]
      exact ⟨a.1, fun x hx => a.2 x (List.mem_of_mem_eraseIdx hx)⟩
    · unfold formOk
      simp only [Bool.and_eq_true]
      refine ⟨?_, asc_erase _ b.2⟩
      have := b.1
      have hl := List.length_eraseIdx_le (l := l.rd) (i := lower t l.rd)
      have h5 := List.length_pos_of_mem h1
      simp only [Bool.not_eq_true', Bool.and_eq_false_iff, decide_eq_false_iff_not] at this ⊢
      omega
  · cases h
theorem good_send {v : Int} {q : Qu} (hg : GoodQ q) (h : (sendF v q).1 = 0) : GoodQ (sendF v q).2 := by
  unfold sendF at h ⊢
  split at h
  · cases h
  · rename_i h1
    rw [if_neg h1]
    split at h
    · cases h
    · rename_i h2
      rw [if_neg h2]
      obtain ⟨a, b⟩ := hg
      refine ⟨a, ?_⟩
      unfold over at b ⊢
      simp only [decide_eq_false_iff_not] at b ⊢
      simp only [List.length_append, List.length_cons, List.length_nil]
      omega
theorem good_recv {q : Qu} (hg : GoodQ q) : GoodQ (recvF q).2 := by
  unfold recvF
  split
  · obtain ⟨a, b⟩ := hg
    refine ⟨a, ?_⟩
    unfold over at b ⊢
    have := List.length_eraseIdx_le (l := q.items) (i := 0)
    simp only [decide_eq_false_iff_not] at b ⊢
    omega
  · split <;> exact hg
theorem good_shut {q : Qu} (hg : GoodQ q) : GoodQ (shutF q).2 := by
  unfold shutF
  split <;> exact hg
theorem chk_lockS {s : Sy} (h : chk s = 0) {n t : Int} : chk (onLock s n t (lockF t)).1 = 0 := chk_onLock h fun _ ht _ h0 => good_lock ht h0
theorem chk_unlockS {s : Sy} (h : chk s = 0) {n t : Int} : chk (onLock s n t (unlockF t)).1 = 0 := chk_onLock h fun _ _ hg h0 => good_unlock hg h0
theorem chk_rlockS {s : Sy} (h : chk s = 0) {n t : Int} : chk (onLock s n t (rlockF t)).1 = 0 := chk_onLock h fun _ ht hg h0 => good_rlock ht hg h0
theorem chk_runlockS {s : Sy} (h : chk s = 0) {n t : Int} : chk (onLock s n t (runlockF t)).1 = 0 := chk_onLock h fun _ _ hg h0 => good_runlock hg h0
end Go.Proofs.Ytnkoibhjnahkiaa
namespace Go.Proofs.Ytnkoibhjnahkiaa
/-- Of those in st each is blocked by one in st, of the tasks ahead of k. -/
def Closed (s : Sy) (tasks : List Int) (waits : List Wt) (K : Int → Prop) : Prop := ∀ k t, tasks[k]? = some t → K t → ∃ b, K b ∧ blocksS s b (waits.getD k default) = true
theorem stepK_mem {s : Sy} {t x : Int} {w : Wt} {st : List Int} (h : x ∈ stepK s t w st) : x ∈ st := by
  unfold stepK at h
  split at h
  · exact (List.mem_filter.1 h).1
  · exact h
theorem fin_sub {s : Sy} {tasks : List Int} {waits : List Wt} : ∀ (n : Nat) {st : List Int}, st.length ≤ n → ∀ {t}, t ∈ fin s tasks waits st → t ∈ st
  | 0, st, hn, t, h => by
    unfold fin at h
    rw [if_neg (by omega)] at h
    exact h
  | n + 1, st, hn, t, h => by
    unfold fin at h
    split at h
    · exact passTo_sub _ (fin_sub n (by omega) h)
    · exact h
theorem fin_mem {s : Sy} {tasks : List Int} {waits : List Wt} {st : List Int} {t : Int} (h : t ∈ fin s tasks waits st) : t ∈ st := fin_sub _ (Nat.le_refl _) h
theorem fin_still {s : Sy} {tasks : List Int} {waits : List Wt} : ∀ (n : Nat) {st : List Int}, st.length ≤ n → passTo s tasks waits (fin s tasks waits st) tasks.length = fin s tasks waits st
  | 0, st, hn => by
    unfold fin
    rw [if_neg (by omega)]
    exact passTo_same (by omega)
  | n + 1, st, hn => by
    unfold fin
    split
    · exact fin_still n (by omega)
    · exact passTo_same (by omega)
theorem passTo_stop {s : Sy} {tasks : List Int} {waits : List Wt} {st : List Int} {n k : Nat} (h : passTo s tasks waits st n = st) (hk : k < n) (ht : tasks.getD k 0 ∈ st) : held s (waits.getD k default) st = true := by
  induction n with
  | zero => omega
  | succ n ih =>
    have h1 : st.length ≤ (passTo s tasks waits st n).length := by
      have := stepK_len s (tasks.getD n 0) (waits.getD n default) (passTo s tasks waits st n)
      have h2 : (passTo s tasks waits st (n + 1)).length = st.length := by rw [h]
      unfold passTo at h2
      omega
    have h2 := passTo_same h1
    rcases Nat.lt_or_ge k n with hkn | hkn
    · exact ih h2 hkn
    · obtain rfl : k = n := by omega
      unfold passTo at h
      rw [h2] at h
      unfold stepK at h
      split at h
      · rename_i hc
        have := rest_lt hc.1
        rw [h] at this
        omega
      · rename_i hc
        cases hh : held s (waits.getD k default) st
        · exact absurd ⟨ht, hh⟩ hc
        · rfl
theorem held_iff {s : Sy} {w : Wt} {st : List Int} (hin : ∀ t ∈ st, 1 ≤ t ∧ t ≤ 200) : held s w st = true ↔ ∃ b, b ∈ st ∧ blocksS s b w = true := by
  unfold held
  simp only [List.any_eq_true, decide_eq_true_eq]
  constructor
  · rintro ⟨b, h1, h2⟩
    exact ⟨b, h2, (blks_mem (hin b h2).1 (hin b h2).2).1 h1⟩
  · rintro ⟨b, h1, h2⟩
    exact ⟨b, (blks_mem (hin b h1).1 (hin b h1).2).2 h2, h1⟩
theorem step_keeps {s : Sy} {t : Int} {w : Wt} {st : List Int} {K : Int → Prop} (hin : ∀ t ∈ st, 1 ≤ t ∧ t ≤ 200) (hK : ∀ x, K x → x ∈ st) (hb : K t → ∃ b, K b ∧ blocksS s b w = true) : ∀ x, K x → x ∈ stepK s t w st := by
  intro x hx
  unfold stepK
  split
  · rename_i hc
    unfold rest
    refine List.mem_filter.2 ⟨hK x hx, ?_⟩
    have : ¬ x = t := by
      rintro rfl
      obtain ⟨b, h1, h2⟩ := hb hx
      have := (held_iff (s := s) (w := w) hin).2 ⟨b, hK b h1, h2⟩
      rw [hc.2] at this
      cases this
    simp [this]
  · exact hK x hx
theorem passTo_keeps {s : Sy} {tasks : List Int} {waits : List Wt} {K : Int → Prop} (hc : Closed s tasks waits K) {st : List Int} (hin : ∀ t ∈ st, 1 ≤ t ∧ t ≤ 200) (hK : ∀ x, K x → x ∈ st) : ∀ n, n ≤ tasks.length → ∀ x, K x → x ∈ passTo s tasks waits st n
  | 0, _ => hK
  | n + 1, hn => by
    unfold passTo
    refine step_keeps (fun t ht => hin t (passTo_sub _ ht)) (passTo_keeps hc hin hK n (by omega)) fun hk => ?_
    obtain ⟨x, hx, _⟩ := at_lt (show n < tasks.length by omega)
    rw [List.getD_eq_getElem?_getD, hx] at hk
    exact hc n x hx hk
theorem fin_keeps {s : Sy} {tasks : List Int} {waits : List Wt} {K : Int → Prop} (hc : Closed s tasks waits K) : ∀ (n : Nat) {st : List Int}, st.length ≤ n → (∀ t ∈ st, 1 ≤ t ∧ t ≤ 200) → (∀ x, K x → x ∈ st) → ∀ x, K x → x ∈ fin s tasks waits st
  | 0, st, hn, hin, hK => by
    unfold fin
    rw [if_neg (by omega)]
    exact hK
  | n + 1, st, hn, hin, hK => by
    unfold fin
    split
    · exact fin_keeps hc n (by omega) (fun t ht => hin t (passTo_sub _ ht)) (passTo_keeps hc hin hK _ (Nat.le_refl _))
    · exact hK
theorem outTo_mem {st : List Int} {t : Int} : ∀ n, t ∈ outTo st n ↔ t ∈ st ∧ 0 ≤ t ∧ t < n
  | 0 => by simp [outTo]
  | n + 1 => by
    unfold outTo
    rw [List.mem_append, outTo_mem n]
    split
    · rename_i h
      simp only [List.mem_cons, List.not_mem_nil, or_false]
      constructor
      · rintro (⟨h1, h2, h3⟩ | rfl)
        · exact ⟨h1, h2, by omega⟩
        · exact ⟨h, by omega, by omega⟩
      · rintro ⟨h1, h2, h3⟩
        by_cases e : t = n
        · exact .inr e
        · exact .inl ⟨h1, h2, by omega⟩
    · rename_i h
      simp only [List.not_mem_nil, or_false]
      constructor
      · rintro ⟨h1, h2, h3⟩
        exact ⟨h1, h2, by omega⟩
      · rintro ⟨h1, h2, h3⟩
        have : ¬ t = n := by rintro rfl; exact h h1
        exact ⟨h1, h2, by omega⟩
theorem stuckE_zero {s : Sy} {tasks : List Int} {waits : List Wt} : stuckE s tasks waits = 0 ↔ chk s = 0 ∧ tasks.length = waits.length ∧ tasks.length ≤ 200 ∧ (∀ t ∈ tasks, 1 ≤ t ∧ t ≤ 200) ∧ tasks.Nodup := by
  unfold stuckE
  by_cases h1 : chk s = 0
  case neg => simp [h1]
  by_cases h2 : tasks.length = waits.length ∧ tasks.length ≤ 200
  case neg =>
    rw [if_neg (by simpa using h1), if_pos (by omega)]
    constructor
    · intro h; cases h
    · rintro ⟨_, h3, h4, _⟩; exact absurd ⟨h3, h4⟩ h2
  rw [if_neg (by simpa using h1), if_neg (by omega)]
  by_cases h3 : ∀ t ∈ tasks, 1 ≤ t ∧ t ≤ 200
  case neg =>
    rw [if_pos]
    · constructor
      · intro h; cases h
      · rintro ⟨_, _, _, h4, _⟩; exact absurd h4 h3
    · cases hany : tasks.any fun t => !inT t
      · refine absurd (fun t ht => ?_) h3
        have := List.any_eq_false.1 hany t ht
        unfold inT at this
        simp at this
        exact this
      · rfl
  rw [if_neg]
  · split
    · rename_i h4
      exact ⟨fun _ => ⟨h1, h2.1, h2.2, h3, h4⟩, fun _ => rfl⟩
    · rename_i h4
      constructor
      · intro h; cases h
      · rintro ⟨_, _, _, _, h5⟩; exact absurd h5 h4
  · simp only [Bool.not_eq_true, List.any_eq_false, Bool.not_eq_false']
    intro t ht
    have := h3 t ht
    unfold inT
    simp; omega
/-- Who is stuck: a greatest set of which each is blocked by one of it. -/
theorem stuck_sub {s : Sy} {tasks : List Int} {waits : List Wt} {t : Int} (h : t ∈ (stuckS s tasks waits).1) : t ∈ tasks := by
  unfold stuckS at h
  split at h
  · cases h
  · exact fin_mem ((outTo_mem _).1 h).1
theorem stuck_closed {s : Sy} {tasks : List Int} {waits : List Wt} (he : stuckE s tasks waits = 0) : Closed s tasks waits (· ∈ (stuckS s tasks waits).1) := by
  obtain ⟨h1, h2, h3, h4, h5⟩ := stuckE_zero.1 he
  intro k t hk ht
  unfold stuckS at ht ⊢
  rw [if_neg (by simpa using he)] at ht ⊢
  have hf := ((outTo_mem _).1 ht).1
  have hlt : k < tasks.length := (List.getElem?_eq_some_iff.1 hk).1
  have hst := passTo_stop (fin_still (s := s) (tasks := tasks) (waits := waits) _ (Nat.le_refl tasks.length)) hlt (by rw [List.getD_eq_getElem?_getD, hk]; exact hf)
  obtain ⟨b, hb, hbb⟩ := (held_iff fun t ht => h4 t (fin_mem ht)).1 hst
  have := h4 b (fin_mem hb)
  exact ⟨b, (outTo_mem _).2 ⟨hb, by omega, by omega⟩, hbb⟩
theorem stuck_great {s : Sy} {tasks : List Int} {waits : List Wt} (he : stuckE s tasks waits = 0) {K : Int → Prop} (hK : ∀ x, K x → x ∈ tasks) (hc : Closed s tasks waits K) {x : Int} (hx : K x) : x ∈ (stuckS s tasks waits).1 := by
  obtain ⟨h1, h2, h3, h4, h5⟩ := stuckE_zero.1 he
  unfold stuckS
  rw [if_neg (by simpa using he)]
  have := h4 x (hK x hx)
  exact (outTo_mem _).2 ⟨fin_keeps hc _ (Nat.le_refl _) h4 hK x hx, by omega, by omega⟩
theorem stuck_iff {s : Sy} {tasks : List Int} {waits : List Wt} (he : stuckE s tasks waits = 0) {k : Nat} {t : Int} {w : Wt} (hk : tasks[k]? = some t) (hw : waits[k]? = some w) :
    t ∈ (stuckS s tasks waits).1 ↔ ∃ b, b ∈ (stuckS s tasks waits).1 ∧ blocksS s b w = true := by
  obtain ⟨h1, h2, h3, h4, h5⟩ := stuckE_zero.1 he
  have hg : waits.getD k default = w := by rw [List.getD_eq_getElem?_getD, hw]; rfl
  constructor
  · intro h
    rw [← hg]
    exact stuck_closed he k t hk h
  · rintro ⟨b, hb, hbb⟩
    refine stuck_great he (K := fun x => x = t ∨ x ∈ (stuckS s tasks waits).1) ?_ ?_ (.inl rfl)
    · rintro x (rfl | hx)
      · exact List.mem_of_getElem? hk
      · exact stuck_sub hx
    · rintro j x hj (rfl | hx)
      · obtain rfl := nodup_inj h5 hj hk
        exact ⟨b, .inr hb, by rw [hg]; exact hbb⟩
      · obtain ⟨c, hc1, hc2⟩ := stuck_closed he j x hj hx
        exact ⟨c, .inr hc1, hc2⟩
/-- Task b of the list blocks task a. -/
def Edge (s : Sy) (tasks : List Int) (waits : List Wt) (a b : Nat) : Prop := ∃ t, tasks[b]? = some t ∧ blocksS s t (waits.getD a default) = true
inductive Path (s : Sy) (tasks : List Int) (waits : List Wt) : Nat → Nat → Prop
  | one {a b} (h : Edge s tasks waits a b) : Path s tasks waits a b
  | more {a b c} (h : Edge s tasks waits a b) (g : Path s tasks waits b c) : Path s tasks waits a c
theorem Path.snoc {s : Sy} {tasks : List Int} {waits : List Wt} {a b c : Nat} (h : Path s tasks waits a b) (g : Edge s tasks waits b c) : Path s tasks waits a c := by
  induction h with
  | one h => exact .more h (.one g)
  | more h _ ih => exact .more h (ih g)
theorem cycle_stuck {s : Sy} {tasks : List Int} {waits : List Wt} (he : stuckE s tasks waits = 0) {i : Nat} {t : Int} (hi : tasks[i]? = some t) (hp : Path s tasks waits i i) : t ∈ (stuckS s tasks waits).1 := by
  obtain ⟨h1, h2, h3, h4, h5⟩ := stuckE_zero.1 he
  refine stuck_great he (K := fun x => ∃ c, tasks[c]? = some x ∧ Path s tasks waits i c ∧ Path s tasks waits c i) ?_ ?_ ⟨i, hi, hp, hp⟩
  · rintro x ⟨c, hc, _⟩
    exact List.mem_of_getElem? hc
  · rintro j x hj ⟨c, hc, p1, p2⟩
    obtain rfl := nodup_inj h5 hj hc
    cases p2 with
    | one h => 
      obtain ⟨u, hu, hb⟩ := h
      exact ⟨u, ⟨i, hu, hp, hp⟩, hb⟩
    | more h g =>
      obtain ⟨u, hu, hb⟩ := h
      exact ⟨u, ⟨_, hu, p1.snoc ⟨u, hu, hb⟩, g⟩, hb⟩
/-- What others lock and unlock does not free whom a task blocks. -/
def Others (t : Int) (F : Lk → Int × Lk) : Prop := ∀ l u, u ≠ t → 1 ≤ u → GoodL l → (F l).1 = 0 → (l.hold = u → (F l).2.hold = u) ∧ (u ∈ l.rd → u ∈ (F l).2.rd)
theorem blocks_on {s : Sy} {n t u : Int} {w : Wt} {F : Lk → Int × Lk} (hF : Others t F) (hu : u ≠ t) (h1 : 1 ≤ u) (h : blocksS s u w = true) : blocksS (onLock s n t F).1 u w = true := by
  unfold onLock
  split
  · exact h
  split
  · exact h
  rename_i hk h0
  have hk : known s n t = 0 := by simpa using hk
  obtain ⟨g1, g2⟩ := known_lt hk
  unfold blocksS at h ⊢
  split
  · rename_i hc
    rw [if_pos hc] at h
    exact h
  · rename_i hc
    rw [if_neg hc] at h
    split at h
    · cases h
    · rename_i hd
      rw [if_neg (by simpa using hd)]
      by_cases e : n.toNat = w.obj.toNat
      · have hlt : n.toNat < s.locks.length := by omega
        have hg : (s.locks.set n.toNat (F (s.locks.getD n.toNat default)).2).getD w.obj.toNat default = (F (s.locks.getD n.toNat default)).2 := by
          rw [← e, List.getD_eq_getElem?_getD, List.getElem?_set, if_pos rfl, if_pos hlt]; rfl
        rw [← e] at h
        show (decide (((s.locks.set n.toNat (F (s.locks.getD n.toNat default)).2).getD w.obj.toNat default).hold = u) || _) = true
        rw [hg]
        obtain ⟨a, b⟩ := hF (s.locks.getD n.toNat default) u hu h1 ((chk_iff.1 (known_chk hk)).2.2.2.1 _ (getD_mem hlt)) (by simpa using h0)
        simp only [Bool.or_eq_true, Bool.and_eq_true, decide_eq_true_eq] at h ⊢
        rcases h with h | ⟨h, h'⟩
        · exact .inl (a h)
        · exact .inr ⟨h, b h'⟩
      · have hg : (s.locks.set n.toNat (F (s.locks.getD n.toNat default)).2).getD w.obj.toNat default = s.locks.getD w.obj.toNat default := by
          rw [List.getD_eq_getElem?_getD, List.getElem?_set, if_neg e, List.getD_eq_getElem?_getD]
        show (decide (((s.locks.set n.toNat (F (s.locks.getD n.toNat default)).2).getD w.obj.toNat default).hold = u) || _) = true
        rw [hg]
        exact h
theorem others_lock {t : Int} : Others t (lockF t) := by
  intro l u _ h1 _ h
  unfold lockF at h ⊢
  split at h
  · cases h
  · rename_i a
    rw [if_neg a]
    split at h
    · cases h
    · rename_i b
      rw [if_neg b]
      exact ⟨fun h => absurd (show 0 < l.hold by omega) (fun h => b (.inl h)), id⟩
theorem others_unlock {t : Int} : Others t (unlockF t) := by
  intro l u hu _ _ h
  unfold unlockF at h ⊢
  split at h
  · rename_i a
    rw [if_pos a]
    exact ⟨fun h => absurd (h.symm.trans a) hu, id⟩
  · cases h
theorem others_rlock {t : Int} : Others t (rlockF t) := by
  intro l u _ _ _ h
  unfold rlockF at h ⊢
  split at h
  · cases h
  · rename_i a
    rw [if_neg a]
    split at h
    · cases h
    · rename_i b
      rw [if_neg b]
      exact ⟨id, fun h => putIn_mem.2 (.inr h)⟩
theorem lower_mem_at {t : Int} : ∀ {l : List Int}, asc l = true → t ∈ l → l[lower t l]? = some t
  | x :: l, ha, h => by
    unfold lower
    by_cases e : x < t
    · have : t ∈ l := by
        rcases List.mem_cons.1 h with rfl | h
        · omega
        · exact h
      have ih := lower_mem_at (asc_tl ha) this
      unfold lower at ih
      simp [e, ih]
    · have : t = x := by
        rcases List.mem_cons.1 h with rfl | h
        · rfl
        · have := asc_hd ha t h; omega
      simp [this]
theorem mem_erase {α : Type} {l : List α} {k : Nat} {x y : α} (hk : l[k]? = some x) (hy : y ∈ l) (hne : y ≠ x) : y ∈ l.eraseIdx k := by
  obtain ⟨i, hi⟩ := List.getElem?_of_mem hy
  have hik : i ≠ k := by rintro rfl; rw [hk] at hi; cases hi; exact hne rfl
  rw [List.mem_iff_getElem?]
  rcases Nat.lt_or_ge i k with h | h
  · exact ⟨i, by rw [List.getElem?_eraseIdx, if_pos h, hi]⟩
  · exact ⟨i - 1, by rw [List.getElem?_eraseIdx, if_neg (by omega), show i - 1 + 1 = i by omega, hi]⟩
theorem others_runlock {t : Int} : Others t (runlockF t) := by
  intro l u hu _ hg h
  unfold runlockF at h ⊢
  split at h
  · rename_i a
    rw [if_pos a]
    have hb := hg.2
    unfold formOk at hb
    simp only [Bool.and_eq_true] at hb
    exact ⟨id, fun h => mem_erase (lower_mem_at hb.2 a) h hu⟩
  · cases h
/-- Those who are stuck stay so, whatever another locks or gives back. -/
theorem closed_on {s : Sy} {tasks : List Int} {waits : List Wt} {K : Int → Prop} {n t : Int} {F : Lk → Int × Lk} (hF : Others t F) (ht : ¬ K t) (h1 : ∀ x, K x → 1 ≤ x) (hc : Closed s tasks waits K) : Closed (onLock s n t F).1 tasks waits K := by
  intro k x hk hx
  obtain ⟨b, hb, hbb⟩ := hc k x hk hx
  exact ⟨b, hb, blocks_on hF (by rintro rfl; exact ht hb) (h1 b hb) hbb⟩
end Go.Proofs.Ytnkoibhjnahkiaa
namespace Go.Proofs.Ytnkoibhjnahkiaa
open Go.RowKit Go.ChangeShapes Go.WideShapes
set_option maxRecDepth 100000

theorem in_m (l : List Int) (hl : l.length < 4294967296) (n : Int) : Meets Try.prog 25 [.d (il l), .i n] [] (Ret (.b (decide (n ∈ l)))) := by
  refine meetsH [] tbOk mixed Try.func25 pl25 rfl rfl ?_
  simp [Try.ntmps25]
  refine vc_loop (fun m σ => ∃ k : Nat, m = l.length - k ∧ k ≤ l.length ∧ noneTo (fun y => decide (y = n)) l k ∧ σ = ⟨18, [(5, .i k), (0, .d (il l)), (1, .i n)], []⟩) ?_ ?_
  · exact ⟨_, _, ⟨0, rfl, Nat.zero_le _, noneTo_zero _ _, rfl⟩, [], _, rfl, by simp⟩
  rintro m σ ⟨k, rfl, hk, hn, rfl⟩
  by_cases hlt : k < l.length
  · obtain ⟨x, hx, e⟩ := at_lt hlt
    by_cases h : x = n
    · simp [hlt, e, h]
      refine vcRet_of [] ?_ rfl
      simp [← h, List.mem_of_getElem? hx]
    · simp [hlt, e, h, wrap_succ hlt hl]
      exact ⟨_, by omega, _, ⟨k + 1, rfl, hlt, noneTo_succ hn hx (by simp [h]), rfl⟩, [], _, rfl, by simp⟩
  obtain rfl : k = l.length := by omega
  have hno : ¬ n ∈ l := fun hm => by
    obtain ⟨i, hi⟩ := List.getElem?_of_mem hm
    have := hn i n (List.getElem?_eq_some_iff.1 hi).1 hi
    simp at this
  simp
  refine vcRet_of [] ?_ rfl
  simp [hno]
/-- The first four kinds of calls are done to a lock. -/
theorem doS_lock {s : Sy} {c : Ca} (h : c.what % 10 ≤ 4) (hc : chk s = 0) : ∃ F, Others c.task F ∧ doS s c = (onLock s c.obj c.task F).1 ∧ chk (doS s c) = 0 := by
  unfold doS
  split
  · exact ⟨_, others_unlock, rfl, chk_unlockS hc⟩
  split
  · exact ⟨_, others_rlock, rfl, chk_rlockS hc⟩
  split
  · exact ⟨_, others_runlock, rfl, chk_runlockS hc⟩
  rw [if_neg (by omega), if_neg (by omega), if_neg (by omega), if_neg (by omega), if_neg (by omega)]
  exact ⟨_, others_lock, rfl, chk_lockS hc⟩
theorem take_any {α : Type} {f : α → Bool} {l : List α} {k : Nat} {x : α} (h : l[k]? = some x) : (l.take (k + 1)).any f = ((l.take k).any f || f x) := by
  rw [List.take_add_one, h]; simp
/-- Where the way through those who block is; who is the next so far. -/
def Cur (s : Sy) (tasks : List Int) (waits : List Wt) (i : Nat) (x : Int) : Prop := x = -1 ∨ ∃ j : Nat, x = j ∧ j < tasks.length ∧ (j = i ∨ Path s tasks waits i j)
def Nxt (s : Sy) (tasks : List Int) (waits : List Wt) (j : Nat) (x : Int) : Prop := x = -1 ∨ ∃ q : Nat, x = q ∧ q < tasks.length ∧ Edge s tasks waits j q
set_option maxHeartbeats 4000000 in
theorem lawBlocked_m (s : Sy) (hs : Lens s) (tasks : List Int) (waits : List Wt) (l : List Ca) (hw : ∀ c ∈ l, 0 ≤ c.what) :
    Meets Try.prog 7 [s.pv, .agg [.d (il tasks), .d (wts waits)], .d (cas l)] [] (Ret (.b true)) := by
  refine meetsH [] tbOk mixed Try.func7 pl7 rfl rfl ?_
  simp [Try.ntmps7]
  refine ⟨by kernel_rfl, ?_⟩
  refine (far_m s hs).mono ?_
  rintro _ rfl
  cases hfr : far s
  case true =>
    simp
    refine awake_m.mono ?_
    rintro _ rfl
    simp
    exact vcRet_of [] (by simp) rfl
  have hf := far_Fits hfr
  by_cases h : (60 : Int) < tasks.length
  · simp [h]
    refine awake_m.mono ?_
    rintro _ rfl
    simp
    exact vcRet_of [] (by simp) rfl
  by_cases h2 : (60 : Int) < waits.length
  · simp [h, h2]
    refine awake_m.mono ?_
    rintro _ rfl
    simp
    exact vcRet_of [] (by simp) rfl
  by_cases h3 : (40 : Int) < l.length
  · simp [h, h2, h3]
    refine awake_m.mono ?_
    rintro _ rfl
    simp
    exact vcRet_of [] (by simp) rfl
  simp [h, h2, h3]
  refine (stuck_m s hf tasks waits (by omega) (by omega)).mono ?_
  rintro _ rfl
  by_cases he0 : (stuckS s tasks waits).2 = 0
  case neg =>
    simp [he0]
    refine awake_m.mono ?_
    rintro _ rfl
    simp
    exact vcRet_of [] (by simp) rfl
  have he : stuckE s tasks waits = 0 := by
    unfold stuckS at he0
    split at he0
    · assumption
    · rename_i h; simpa using h
  obtain ⟨hc0, hlw, _, h1, hnd⟩ := stuckE_zero.1 he
  have hKl := stuckS_len s tasks waits
  have hiff : ∀ {k t w}, tasks[k]? = some t → waits[k]? = some w → (t ∈ (stuckS s tasks waits).1 ↔ ∃ b, b ∈ (stuckS s tasks waits).1 ∧ blocksS s b w = true) := fun a b => stuck_iff he a b
  have hcyc : ∀ {i t}, tasks[i]? = some t → Path s tasks waits i i → t ∈ (stuckS s tasks waits).1 := fun a b => cycle_stuck he a b
  have hcl := stuck_closed he
  have hsub : ∀ x, x ∈ (stuckS s tasks waits).1 → x ∈ tasks := fun _ => stuck_sub
  simp [he0]
  generalize (stuckS s tasks waits).1 = K at *
  refine vc_loop (fun m σ => ∃ i : Nat, m = tasks.length - i ∧ i ≤ tasks.length ∧ σ = ⟨188, [(11, .i i), (9, .d (il K)), (8, .d (wts waits)), (7, .d (il tasks)), (3, .ptr 3 0), (2, .d (cas l))], [(3, s.box)]⟩) ?_ ?_
  · exact ⟨_, _, ⟨0, rfl, Nat.zero_le _, rfl⟩, [], _, rfl, by simp⟩
  rintro m σ ⟨i, rfl, hi, rfl⟩
  by_cases hlt : i < tasks.length
  · obtain ⟨t, ht, e⟩ := at_lt hlt
    have hltw : i < waits.length := by omega
    obtain ⟨w, hwi, ew⟩ := at_lt hltw
    simp [hlt]
    refine vc_loop (fun m' σ => ∃ k : Nat, m' = K.length - k ∧ k ≤ K.length ∧ σ = ⟨188, [(13, .i k), (12, .b ((K.take k).any fun b => blocksS s b w)), (11, .i i), (9, .d (il K)), (8, .d (wts waits)), (7, .d (il tasks)), (3, .ptr 3 0), (2, .d (cas l))], [(3, s.box)]⟩) ?_ ?_
    · exact ⟨_, _, ⟨0, rfl, Nat.zero_le _, rfl⟩, [], _, rfl, by simp⟩
    rintro m' σ ⟨k, rfl, hk, rfl⟩
    by_cases hkl : k < K.length
    · obtain ⟨b, hb, eb⟩ := at_lt hkl
      have htk := take_any (f := fun b => blocksS s b w) hb
      cases hbl : (K.take k).any fun b => blocksS s b w
      case true =>
        rw [hbl] at htk
        simp [hkl, wrap_succ hkl hKl]
        refine ⟨by kernel_rfl, ?_⟩
        exact ⟨_, by omega, _, ⟨k + 1, rfl, hkl, rfl⟩, [], _, rfl, by simp [htk]⟩
      case false =>
        rw [hbl] at htk
        simp [hkl, hltw, eb, ew]
        refine effCall (blocks_m s hf b w) ?_
        simp
        refine ⟨by kernel_rfl, ?_⟩
        simp [wrap_succ hkl hKl]
        exact ⟨_, by omega, _, ⟨k + 1, rfl, hkl, rfl⟩, [], _, rfl, by simp [htk]⟩
    obtain rfl : k = K.length := by omega
    have hany : (K.any fun b => blocksS s b w) = decide (t ∈ K) := by
      rw [Bool.eq_iff_iff]
      simp only [List.any_eq_true, decide_eq_true_eq]
      exact (hiff ht hwi).symm
    simp [hlt, e, hany]
    refine (in_m K hKl t).mono ?_
    rintro _ rfl
    simp
    refine vc_loop (fun m' σ => ∃ n : Nat, m' = tasks.length + 1 - n ∧ n ≤ tasks.length + 1 ∧ ∃ at_ : Int, Cur s tasks waits i at_ ∧
      σ = ⟨188, [(15, .i n), (14, .i at_), (11, .i i), (9, .d (il K)), (8, .d (wts waits)), (7, .d (il tasks)), (3, .ptr 3 0), (2, .d (cas l))], [(3, s.box)]⟩) ?_ ?_
    · exact ⟨_, _, ⟨0, rfl, Nat.zero_le _, i, .inr ⟨i, rfl, hlt, .inl rfl⟩, rfl⟩, [], _, rfl, by simp⟩
    rintro m' σ ⟨n, rfl, hn, at_, hat, rfl⟩
    by_cases hnl : n ≤ tasks.length
    case neg =>
      simp [hnl, wrap_succ hlt (show tasks.length < 4294967296 by omega)]
      exact ⟨_, by omega, _, ⟨i + 1, rfl, hlt, rfl⟩, [], _, rfl, by simp⟩
    rcases hat with rfl | ⟨j, rfl, hj, hpj⟩
    · simp [hnl, wrap_succ hlt (show tasks.length < 4294967296 by omega)]
      exact ⟨_, by omega, _, ⟨i + 1, rfl, hlt, rfl⟩, [], _, rfl, by simp⟩
    have hjw : j < waits.length := by omega
    obtain ⟨wj, hwj, ewj⟩ := at_lt hjw
    have hwg : waits.getD j default = wj := by rw [List.getD_eq_getElem?_getD, hwj]; rfl
    have hwr : IntKind.i64.wrap ((tasks.length : Int) - 1) = (tasks.length : Int) - 1 := IntWalk.i64_in _ (by omega)
    simp [hnl, hwr]
    refine vc_loop (fun m' σ => ∃ k : Nat, m' = k + 1 ∧ k ≤ tasks.length ∧ ∃ nx : Int, Nxt s tasks waits j nx ∧
      σ = ⟨188, [(17, .i ((k : Int) - 1)), (16, .i nx), (15, .i n), (14, .i j), (11, .i i), (9, .d (il K)), (8, .d (wts waits)), (7, .d (il tasks)), (3, .ptr 3 0), (2, .d (cas l))], [(3, s.box)]⟩) ?_ ?_
    · exact ⟨_, _, ⟨tasks.length, rfl, Nat.le_refl _, -1, .inl rfl, rfl⟩, [], _, rfl, by simp⟩
    rintro m' σ ⟨k, rfl, hk, nx, hnx, rfl⟩
    cases k with
    | succ k =>
      have hkt : k < tasks.length := by omega
      obtain ⟨u, hu, eu⟩ := at_lt hkt
      have hk1 : ((k + 1 : Nat) : Int) - 1 = (k : Int) := by omega
      have hwk : IntKind.i64.wrap ((k : Int) - 1) = (k : Int) - 1 := IntWalk.i64_in _ (by omega)
      rw [hk1]
      simp [hkt, hjw, eu, ewj]
      refine effCall (blocks_m s hf u wj) ?_
      simp
      refine ⟨by kernel_rfl, ?_⟩
      cases hbu : blocksS s u wj
      · simp [hwk]
        exact ⟨_, by omega, _, ⟨k, rfl, by omega, nx, hnx, rfl⟩, [], _, rfl, by simp⟩
      · simp [hwk]
        exact ⟨_, by omega, _, ⟨k, rfl, by omega, k, .inr ⟨k, rfl, hkt, u, hu, by rw [hwg]; exact hbu⟩, rfl⟩, [], _, rfl, by simp⟩
    | zero =>
      have hpath : ∀ q, Edge s tasks waits j q → Path s tasks waits i q := fun q hq => by
        rcases hpj with rfl | hp
        · exact .one hq
        · exact hp.snoc hq
      have hwn : IntKind.i64.wrap ((n : Int) + 1) = (n : Int) + 1 := IntWalk.i64_in _ (by omega)
      by_cases hni : nx = i
      · have hin : t ∈ K := by
          rcases hnx with rfl | ⟨q, rfl, hq, hqe⟩
          · omega
          · obtain rfl : q = i := by omega
            exact hcyc ht (hpath q hqe)
        simp [hni, hlt, e]
        refine (in_m K hKl t).mono ?_
        rintro _ rfl
        simp [hin, hwn]
        exact ⟨_, by omega, _, ⟨n + 1, rfl, by omega, i, .inr ⟨i, rfl, hlt, .inl rfl⟩, rfl⟩, [], _, rfl, by simp⟩
      · simp [hni, hwn]
        refine ⟨_, by omega, _, ⟨n + 1, rfl, by omega, nx, ?_, rfl⟩, [], _, rfl, by simp⟩
        rcases hnx with rfl | ⟨q, rfl, hq, hqe⟩
        · exact .inl rfl
        · exact .inr ⟨q, rfl, hq, .inr (hpath q hqe)⟩
  obtain rfl : i = tasks.length := by omega
  simp
  refine vc_loop (fun m σ => ∃ i : Nat, m = l.length - i ∧ i ≤ l.length ∧ ∃ s' : Sy, Fits s' ∧ chk s' = 0 ∧ Closed s' tasks waits (· ∈ K) ∧
    σ = ⟨188, [(18, .i i), (9, .d (il K)), (8, .d (wts waits)), (7, .d (il tasks)), (3, .ptr 3 0), (2, .d (cas l))], [(3, s'.box)]⟩) ?_ ?_
  · exact ⟨_, _, ⟨0, rfl, Nat.zero_le _, s, hf, hc0, hcl, rfl⟩, [], _, rfl, by simp⟩
  clear hcl hiff hcyc hf hc0 he he0 hfr hs
  rintro m σ ⟨i, rfl, hi, s', hf, hc0, hcl, rfl⟩
  by_cases hlt : i < l.length
  · obtain ⟨c, hci, e⟩ := at_lt hlt
    have hcw := hw c (List.mem_of_getElem? hci)
    have hrem : c.what.tmod 10 = c.what % 10 := Int.tmod_eq_emod_of_nonneg hcw
    have hws := wrap_succ hlt (show l.length < 4294967296 by omega)
    simp [hlt, e]
    refine (in_m K hKl c.task).mono ?_
    rintro _ rfl
    by_cases hct : c.task ∈ K
    · simp [hct, hws]
      exact ⟨_, by omega, _, ⟨i + 1, rfl, hlt, s', hf, hc0, hcl, rfl⟩, [], _, rfl, by simp⟩
    by_cases h4 : 4 < c.what % 10
    · simp [hct, hlt, e, hrem, h4, hws]
      exact ⟨_, by omega, _, ⟨i + 1, rfl, hlt, s', hf, hc0, hcl, rfl⟩, [], _, rfl, by simp⟩
    simp [hct, hlt, e, hrem, h4]
    refine effCall (do_m s' hf c hcw) ?_
    simp
    refine ⟨by kernel_rfl, ?_⟩
    obtain ⟨F, hF, hd, hcd⟩ := doS_lock (c := c) (by omega) hc0
    have hcl' : Closed (doS s' c) tasks waits (· ∈ K) := by
      rw [hd]
      exact closed_on hF hct (fun x hx => (h1 x (hsub x hx)).1) hcl
    have he' : stuckE (doS s' c) tasks waits = 0 := stuckE_zero.2 ⟨hcd, hlw, by omega, h1, hnd⟩
    have hf' := hf.doS c
    have hall : ∀ x ∈ K, x ∈ (stuckS (doS s' c) tasks waits).1 := fun x hx => stuck_great he' (K := (· ∈ K)) hsub hcl' hx
    have h0 : (stuckS (doS s' c) tasks waits).2 = 0 := by
      unfold stuckS
      rw [if_neg (by simpa using he')]
    have hNl := stuckS_len (doS s' c) tasks waits
    refine (stuck_m (doS s' c) hf' tasks waits (by omega) (by omega)).mono ?_
    rintro _ rfl
    simp [h0]
    generalize (stuckS (doS s' c) tasks waits).1 = N at *
    generalize doS s' c = s2 at *
    refine vc_loop (fun m' σ => ∃ k : Nat, m' = K.length - k ∧ k ≤ K.length ∧
      σ = ⟨188, [(23, .i k), (21, .d (il N)), (18, .i i), (9, .d (il K)), (8, .d (wts waits)), (7, .d (il tasks)), (3, .ptr 3 0), (2, .d (cas l))], [(3, s2.box)]⟩) ?_ ?_
    · exact ⟨_, _, ⟨0, rfl, Nat.zero_le _, rfl⟩, [], _, rfl, by simp⟩
    rintro m' σ ⟨k, rfl, hk, rfl⟩
    by_cases hkl : k < K.length
    · obtain ⟨b, hb, eb⟩ := at_lt hkl
      simp [hkl, eb]
      refine (in_m N hNl b).mono ?_
      rintro _ rfl
      simp [hall b (List.mem_of_getElem? hb), wrap_succ hkl hKl]
      exact ⟨_, by omega, _, ⟨k + 1, rfl, hkl, rfl⟩, [], _, rfl, by simp⟩
    obtain rfl : k = K.length := by omega
    simp [hws]
    exact ⟨_, by omega, _, ⟨i + 1, rfl, hlt, s2, hf', hcd, hcl', rfl⟩, [], _, rfl, by simp⟩
  obtain rfl : i = l.length := by omega
  simp
  refine awake_m.mono ?_
  rintro _ rfl
  simp
  exact vcRet_of [] (by simp) rfl
theorem opens60 : Opens Try.prog 60 (fun ds => ∃ x : List Int × List Wt, PV.agg (ds.map PV.d) = .agg [.d (il x.1), .d (wts x.2)]) :=
  (opens_struct Try.underlying60 (Qs := [_, _]) ⟨rfl, opens22, by kernel_rfl, opens33, by show _ = _; kernel_rfl⟩).mono fun ds h => by
    obtain ⟨_, _, rfl, ⟨_, rfl, a, rfl, _⟩, _, _, rfl, ⟨_, rfl, b, rfl⟩, rfl⟩ := h
    exact ⟨⟨a, b⟩, rfl⟩
section
variable {H : Type} {enc : TypeId × Value → H} {w : World} {base : Nat} {spare : Nat → Bool} {held : Bool} {r : Reach} {b0 : Nat} {v : Value} {d : DataW H} {p : List MemPlace} {m : Map}
theorem argWaiting (hv : Value.okWide Try.prog w r b0 60 v) (h : DataW.Trod enc Try.prog w base spare held 60 v d p) : ∃ (a : List Int) (b : List Wt), Rep m w (allCells w) v (.agg [.d (il a), .d (wts b)]) := by
  obtain ⟨ds, ⟨x, hs⟩, hr⟩ := arg_struct (m := m) Try.underlying60 opens60 hv h
  rw [hs] at hr
  exact ⟨x.1, x.2, hr⟩
end
end Go.Proofs.Ytnkoibhjnahkiaa
