/- The late ones in their order; the machine s tick and begin. No condition. -/
import Derived.Test.YticgikpccbgjbaaK7
import Derived.Test.YticgikpccbgjbaaK6
import Derived.Test.YticgikpccbgjbaaK8
namespace Go.Proofs.Yticgikpccbgjbaa
open Go.RowKit

/-- The check of the first began before that of the second, or at once and the first's number is less. -/
def bf (bs : List Bk) (i j : Int) : Prop := bgn bs i < bgn bs j ∨ (bgn bs i = bgn bs j ∧ i < j)
theorem bf_trans {bs : List Bk} {i j k : Int} (h1 : bf bs i j) (h2 : bf bs j k) : bf bs i k := by
  unfold bf at *; omega
theorem cutJ_spec (lt : Int → Int → Bool) (x : Int) (P : List Int) : ∀ j, (∀ i, cutJ lt x P j ≤ i → i < j → lt x (P.getD i 0) = true) ∧ (0 < cutJ lt x P j → lt x (P.getD (cutJ lt x P j - 1) 0) = false)
  | 0 => ⟨fun i h1 h2 => by omega, fun h => absurd h (by simp [cutJ])⟩
  | j + 1 => by
    obtain ⟨h1, h2⟩ := cutJ_spec lt x P j
    unfold cutJ
    split
    · rename_i hc
      refine ⟨fun i h3 h4 => ?_, h2⟩
      by_cases hij : i = j
      · subst hij; exact hc
      · exact h1 i h3 (by omega)
    · rename_i hc
      refine ⟨fun i h3 h4 => by omega, fun _ => ?_⟩
      rw [Nat.add_sub_cancel]
      simpa using hc
theorem insJ_sorted {bs : List Bk} {lt : Int → Int → Bool} (hlt : ∀ x y, lt x y = true ↔ bgn bs x < bgn bs y) {x : Int} {P : List Int} (hP : P.Pairwise (bf bs)) (hx : ∀ y ∈ P, y < x) : (insJ lt x P).Pairwise (bf bs) := by
  have hle := cutJ_le lt x P P.length
  obtain ⟨s1, s2⟩ := cutJ_spec lt x P P.length
  unfold insJ
  generalize cutJ lt x P P.length = c at *
  have hP2 := hP
  rw [← List.take_append_drop c P, List.pairwise_append] at hP2
  obtain ⟨p1, p2, p3⟩ := hP2
  rw [List.pairwise_append]
  refine ⟨p1, List.pairwise_cons.2 ⟨fun b hb => ?_, p2⟩, fun a ha b hb => ?_⟩
  · obtain ⟨i, hi⟩ := List.getElem?_of_mem hb
    rw [List.getElem?_drop] at hi
    have := s1 (c + i) (by omega) (List.getElem?_eq_some_iff.1 hi).1
    rw [List.getD_eq_getElem?_getD, hi, Option.getD_some, hlt] at this
    exact .inl this
  · rcases List.mem_cons.1 hb with rfl | hb
    · obtain ⟨i, hi⟩ := List.getElem?_of_mem ha
      rw [List.getElem?_take] at hi
      split at hi
      · rename_i hic
        have hc := s2 (by omega)
        obtain ⟨z, hz⟩ : ∃ z, P[c - 1]? = some z := ⟨_, List.getElem?_eq_getElem (by omega)⟩
        rw [List.getD_eq_getElem?_getD, hz, Option.getD_some] at hc
        have hc : ¬ bgn bs b < bgn bs z := fun h => by rw [(hlt b z).2 h] at hc; cases hc
        have hax := hx a (List.mem_of_getElem? hi)
        by_cases hic2 : i = c - 1
        · rw [hic2, hz] at hi
          cases hi
          unfold bf; omega
        · have := List.pairwise_iff_getElem.1 hP i (c - 1) (List.getElem?_eq_some_iff.1 hi).1 (by omega) (by omega)
          rw [(List.getElem?_eq_some_iff.1 hi).2, (List.getElem?_eq_some_iff.1 hz).2] at this
          unfold bf at this ⊢; omega
      · cases hi
    · exact p3 a ha b hb
theorem insJ_iff {lt : Int → Int → Bool} {x y : Int} {P : List Int} : y ∈ insJ lt x P ↔ y = x ∨ y ∈ P := by
  refine ⟨insJ_mem, fun h => ?_⟩
  unfold insJ
  rcases h with rfl | h
  · simp
  · rw [← List.take_append_drop (cutJ lt x P P.length) P] at h
    rcases List.mem_append.1 h with h | h
    · exact List.mem_append_left _ h
    · exact List.mem_append_right _ (List.mem_cons_of_mem _ h)
theorem sortI_ok {bs : List Bk} {lt : Int → Int → Bool} (hlt : ∀ x y, lt x y = true ↔ bgn bs x < bgn bs y) {xs : List Int} (hx : xs.Pairwise (· < ·)) : (sortI lt xs).Pairwise (bf bs) ∧ ∀ y, y ∈ sortI lt xs ↔ y ∈ xs := by
  have key : ∀ (xs P : List Int), xs.Pairwise (· < ·) → P.Pairwise (bf bs) → (∀ y ∈ P, ∀ x ∈ xs, y < x) → (xs.foldl (fun P x => insJ lt x P) P).Pairwise (bf bs) ∧ ∀ y, y ∈ xs.foldl (fun P x => insJ lt x P) P ↔ y ∈ P ∨ y ∈ xs := by
    intro xs
    induction xs with
    | nil => intro P _ hP _; exact ⟨hP, fun y => by simp⟩
    | cons x xs ih =>
      intro P h1 h2 h3
      obtain ⟨h4, h5⟩ := List.pairwise_cons.1 h1
      obtain ⟨g1, g2⟩ := ih (insJ lt x P) h5 (insJ_sorted hlt h2 fun y hy => h3 y hy x (by simp)) fun y hy z hz => by
        rcases insJ_iff.1 hy with rfl | hy
        · exact h4 z hz
        · exact h3 y hy z (List.mem_cons_of_mem _ hz)
      rw [List.foldl_cons]
      refine ⟨g1, fun y => ?_⟩
      rw [g2, insJ_iff, List.mem_cons]
      constructor
      · rintro ((h | h) | h)
        · exact .inr (.inl h)
        · exact .inl h
        · exact .inr (.inr h)
      · rintro (h | h | h)
        · exact .inl (.inr h)
        · exact .inl (.inl h)
        · exact .inr h
  obtain ⟨g1, g2⟩ := key xs [] hx List.Pairwise.nil fun y hy => by cases hy
  exact ⟨g1, fun y => by rw [sortI, g2]; simp⟩

/-- A check that is late at a time. -/
def lateB (c : Cf) (now : Int) (b : Bk) : Bool := decide (b.probe ≠ 0) && decide (b.began + c.tm ≤ now)
def lateTo (c : Cf) (now : Int) (bs : List Bk) : Nat → List Int
  | 0 => []
  | k + 1 => lateTo c now bs k ++ (if lateB c now (bs.getD k default) then [(k : Int)] else [])
theorem lateTo_succ {c : Cf} {now : Int} {bs : List Bk} {k : Nat} {b : Bk} (h : bs[k]? = some b) : lateTo c now bs (k + 1) = lateTo c now bs k ++ (if lateB c now b then [(k : Int)] else []) := by rw [lateTo, getD_some h]
theorem lateTo_len (c : Cf) (now : Int) (bs : List Bk) : ∀ k, (lateTo c now bs k).length ≤ k
  | 0 => Nat.le_refl _
  | k + 1 => by
    have := lateTo_len c now bs k
    rw [lateTo, List.length_append]
    split <;> simp <;> omega
theorem lateTo_mem {c : Cf} {now : Int} {bs : List Bk} {y : Int} : ∀ {k : Nat}, k ≤ bs.length → (y ∈ lateTo c now bs k ↔ ∃ (i : Nat) (b : Bk), y = i ∧ i < k ∧ bs[i]? = some b ∧ lateB c now b = true)
  | 0, _ => by simp [lateTo]
  | k + 1, h => by
    obtain ⟨b, hb, _⟩ := at_lt (show k < bs.length by omega)
    rw [lateTo_succ hb, List.mem_append, lateTo_mem (by omega)]
    constructor
    · rintro (⟨i, b', h1, h2, h3⟩ | h1)
      · exact ⟨i, b', h1, by omega, h3⟩
      · split at h1
        · rename_i hc
          simp at h1
          exact ⟨k, b, h1, by omega, hb, hc⟩
        · cases h1
    · rintro ⟨i, b', h1, h2, h3, h4⟩
      by_cases hik : i = k
      · subst hik
        rw [hb] at h3; cases h3
        rw [if_pos h4]
        exact .inr (by simp [h1])
      · exact .inl ⟨i, b', h1, by omega, h3, h4⟩
theorem lateTo_sorted {c : Cf} {now : Int} {bs : List Bk} : ∀ {k : Nat}, k ≤ bs.length → (lateTo c now bs k).Pairwise (· < ·)
  | 0, _ => List.Pairwise.nil
  | k + 1, h => by
    obtain ⟨b, hb, _⟩ := at_lt (show k < bs.length by omega)
    rw [lateTo_succ hb, List.pairwise_append]
    refine ⟨lateTo_sorted (by omega), by split <;> simp, fun a ha x hx => ?_⟩
    obtain ⟨i, _, rfl, hi, _⟩ := (lateTo_mem (by omega)).1 ha
    split at hx
    · simp at hx; omega
    · cases hx
/-- The picked one is before all others that are busy. -/
theorem firstTo_spec (bs : List Bk) : ∀ k, k ≤ bs.length → (firstTo bs k < 0 ∧ ∀ i y, i < k → bs[i]? = some y → y.probe = 0) ∨ ∃ (f : Nat) (y : Bk), firstTo bs k = f ∧ f < k ∧ bs[f]? = some y ∧ y.probe ≠ 0 ∧ ∀ i z, i < k → bs[i]? = some z → z.probe ≠ 0 → i = f ∨ bf bs f i
  | 0, _ => .inl ⟨by simp [firstTo], fun i y h => by omega⟩
  | k + 1, h => by
    obtain ⟨b, hb, _⟩ := at_lt (show k < bs.length by omega)
    have hbk : bgn bs (k : Int) = b.began := by simp [bgn, List.getD, hb]
    rw [firstTo_succ hb]
    rcases firstTo_spec bs k (by omega) with ⟨h1, h2⟩ | ⟨f, y, h1, h2, h3, h4, h5⟩
    · by_cases hp : b.probe = 0
      · rw [if_neg fun hc => hc.1 hp]
        refine .inl ⟨h1, fun i y hi hy => ?_⟩
        by_cases hik : i = k
        · subst hik; rw [hb] at hy; cases hy; exact hp
        · exact h2 i y (by omega) hy
      · rw [if_pos ⟨hp, .inl h1⟩]
        refine .inr ⟨k, b, rfl, by omega, hb, hp, fun i z hi hz hzp => ?_⟩
        by_cases hik : i = k
        · exact .inl hik
        · exact absurd (h2 i z (by omega) hz) hzp
    · have hfy : bgn bs (f : Int) = y.began := by simp [bgn, List.getD, h3]
      rw [h1]
      by_cases hc : b.probe ≠ 0 ∧ ((f : Int) < 0 ∨ b.began < bgn bs (f : Int))
      · rw [if_pos hc]
        refine .inr ⟨k, b, rfl, by omega, hb, hc.1, fun i z hi hz hzp => ?_⟩
        by_cases hik : i = k
        · exact .inl hik
        · right
          have hkf : bf bs k f := .inl (by rw [hbk]; rcases hc.2 with h | h; · omega
                                           · exact h)
          rcases h5 i z (by omega) hz hzp with rfl | h6
          · exact hkf
          · exact bf_trans hkf h6
      · rw [if_neg hc]
        refine .inr ⟨f, y, rfl, by omega, h3, h4, fun i z hi hz hzp => ?_⟩
        by_cases hik : i = k
        · subst hik
          rw [hb] at hz; cases hz
          right
          have : ¬ b.began < bgn bs (f : Int) := fun h => hc ⟨hzp, .inr h⟩
          unfold bf
          rw [hbk]
          omega
        · exact h5 i z (by omega) hz hzp
/-- The outcomes of late checks, one after the other. -/
def outF (c : Cf) : List Int → List Bk → List Bk × List Ch
  | [], bs => (bs, [])
  | f :: r, bs => ((outF c r (bs.set f.toNat (outB c (bs.getD f.toNat default) false))).1, outL c (bs.getD f.toNat default) f.toNat false ((bs.getD f.toNat default).began + c.tm) ++ (outF c r (bs.set f.toNat (outB c (bs.getD f.toNat default) false))).2)
structure LateOk (c : Cf) (now : Int) (bs : List Bk) (L : List Int) : Prop where
  sorted : L.Pairwise (bf bs)
  mem : ∀ y, y ∈ L ↔ ∃ (i : Nat) (b : Bk), y = i ∧ bs[i]? = some b ∧ lateB c now b = true
theorem bf_of {bs : List Bk} {i j : Int} (h : bf bs i j) (h' : bf bs j i) : False := by unfold bf at *; omega
theorem tick_same {c : Cf} {t now : Int} : ∀ (n : Nat) (bs : List Bk) (L : List Int), LateOk c now bs L → busy bs ≤ n → tickF (n + 1) ⟨c, t, bs⟩ now = (⟨c, now, (outF c L bs).1⟩, (outF c L bs).2)
  | n, bs, L, h, hn => by
    have spec := firstTo_spec bs bs.length (Nat.le_refl _)
    cases L with
    | nil =>
      have hstop : firstTo bs bs.length < 0 ∨ now < bgn bs (firstTo bs bs.length) + c.tm := by
        rcases spec with ⟨h1, _⟩ | ⟨f, y, h1, h2, h3, h4, _⟩
        · exact .inl h1
        · right
          have hfy : bgn bs (f : Int) = y.began := by simp [bgn, List.getD, h3]
          rw [h1, hfy]
          have hl : ¬ lateB c now y = true := fun hl => by
            have := (h.mem f).2 ⟨f, y, rfl, h3, hl⟩
            cases this
          simp only [lateB, Bool.and_eq_true, decide_eq_true_eq, not_and] at hl
          have := hl h4
          omega
      rw [tickF, if_pos hstop]
      rfl
    | cons f L =>
      obtain ⟨i, b, rfl, hb, hl⟩ := (h.mem f).1 (by simp)
      have hl2 : b.probe ≠ 0 ∧ b.began + c.tm ≤ now := by simpa [lateB] using hl
      have hbi : bgn bs (i : Int) = b.began := by simp [bgn, List.getD, hb]
      have hf : firstTo bs bs.length = (i : Int) := by
        rcases spec with ⟨_, h2⟩ | ⟨g, y, h1, h2, h3, h4, h5⟩
        · exact absurd (h2 i b (lt_some hb) hb) hl2.1
        · rw [h1]
          rcases h5 i b (lt_some hb) hb hl2.1 with rfl | h6
          · rfl
          · exfalso
            have hgy : bgn bs (g : Int) = y.began := by simp [bgn, List.getD, h3]
            have hg : (g : Int) ∈ (i : Int) :: L := (h.mem g).2 ⟨g, y, rfl, h3, by
              simp only [lateB, Bool.and_eq_true, decide_eq_true_eq]
              refine ⟨h4, ?_⟩
              unfold bf at h6
              omega⟩
            rcases List.mem_cons.1 hg with hg | hg
            · rw [hg] at h6; unfold bf at h6; omega
            · exact bf_of h6 ((List.pairwise_cons.1 h.sorted).1 _ hg)
      have hgo : ¬ (firstTo bs bs.length < 0 ∨ now < bgn bs (firstTo bs bs.length) + c.tm) := by rw [hf, hbi]; omega
      have hb1 : ∀ i', bgn (bs.set i (outB c b false)) i' = bgn bs i' ∨ i'.toNat = i := fun i' => by
        unfold bgn
        by_cases hii : i'.toNat = i
        · exact .inr hii
        · left
          rw [List.getD_eq_getElem?_getD, List.getElem?_set_ne (fun e => hii e.symm), ← List.getD_eq_getElem?_getD]
      have hnot : (i : Int) ∉ L := fun hm => bf_of ((List.pairwise_cons.1 h.sorted).1 _ hm) ((List.pairwise_cons.1 h.sorted).1 _ hm)
      have hmemL : ∀ y ∈ L, ∃ (j : Nat) (b' : Bk), y = j ∧ j ≠ i ∧ bs[j]? = some b' ∧ lateB c now b' = true := fun y hy => by
        obtain ⟨j, b', rfl, h1, h2⟩ := (h.mem y).1 (List.mem_cons_of_mem _ hy)
        exact ⟨j, b', rfl, fun e => hnot (e ▸ hy), h1, h2⟩
      have hnext : LateOk c now (bs.set i (outB c b false)) L := ⟨by
        refine List.Pairwise.imp_of_mem ?_ (List.pairwise_cons.1 h.sorted).2
        intro x y hx hy hxy
        obtain ⟨jx, _, rfl, hjx, _⟩ := hmemL x hx
        obtain ⟨jy, _, rfl, hjy, _⟩ := hmemL y hy
        have e1 := (hb1 (jx : Int)).resolve_right (by simpa using hjx)
        have e2 := (hb1 (jy : Int)).resolve_right (by simpa using hjy)
        unfold bf at hxy ⊢
        rw [e1, e2]
        exact hxy, fun y => ⟨fun hy => by
          obtain ⟨j, b', rfl, hj, h1, h2⟩ := hmemL y hy
          exact ⟨j, b', rfl, by rw [List.getElem?_set_ne (fun e => hj e.symm)]; exact h1, h2⟩, fun ⟨j, b', e, h1, h2⟩ => by
          subst e
          by_cases hj : j = i
          · subst hj
            rw [List.getElem?_set_self (lt_some hb)] at h1
            cases h1
            simp [lateB, outB_probe] at h2
          · rw [List.getElem?_set_ne (fun e => hj e.symm)] at h1
            rcases List.mem_cons.1 ((h.mem j).2 ⟨j, b', rfl, h1, h2⟩) with e | hm
            · exact absurd (by omega) hj
            · exact hm⟩⟩
      have hbz := busy_set hb hl2.1 (outB_probe c b false)
      cases n with
      | zero => omega
      | succ n =>
        have ih := tick_same (c := c) (t := t) (now := now) n (bs.set i (outB c b false)) L hnext (by omega)
        rw [tickF, if_neg hgo]
        simp only [hf, Int.toNat_natCast, getD_some hb, ih, outF]
  termination_by n => n

theorem outL_len (c : Cf) (b : Bk) (i : Nat) (ok : Bool) (t : Int) : (outL c b i ok t).length ≤ 1 := by
  unfold outL
  split
  · simp
  · split <;> simp
theorem ltB_iff (s : Hs) (x y : Int) : ltB s x y = true ↔ bgn s.bs x < bgn s.bs y := by
  simp only [ltB, bgAt, cmpI, decide_eq_true_eq]
  by_cases h1 : bgn s.bs x < bgn s.bs y
  · simp [h1]
  · by_cases h2 : bgn s.bs y < bgn s.bs x <;> simp [h1, h2]
theorem busy_le (bs : List Bk) : busy bs ≤ bs.length := List.length_filter_le _ _
theorem outF_len (c : Cf) : ∀ (L : List Int) (bs : List Bk), (outF c L bs).1.length = bs.length
  | [], _ => rfl
  | f :: L, bs => by rw [outF, outF_len c L]; simp
/-- The late ones in their order. -/
def lateS (s : Hs) (now : Int) : List Int := sortI (ltB s) (lateTo s.c now s.bs s.bs.length)
theorem lateS_ok (s : Hs) (now : Int) : LateOk s.c now s.bs (lateS s now) := by
  obtain ⟨h1, h2⟩ := sortI_ok (bs := s.bs) (ltB_iff s) (lateTo_sorted (c := s.c) (now := now) (Nat.le_refl s.bs.length))
  refine ⟨h1, fun y => ?_⟩
  show y ∈ sortI (ltB s) _ ↔ _
  rw [h2, lateTo_mem (Nat.le_refl _)]
  exact ⟨fun ⟨i, b, h1, _, h3⟩ => ⟨i, b, h1, h3⟩, fun ⟨i, b, h1, h3⟩ => ⟨i, b, h1, lt_some h3.1, h3⟩⟩
theorem tickR_eq (s : Hs) (now : Int) : tickR s now = (⟨s.c, now, (outF s.c (lateS s now) s.bs).1⟩, (outF s.c (lateS s now) s.bs).2) := tick_same (c := s.c) (t := s.now) (busy s.bs) s.bs (lateS s now) (lateS_ok s now) (Nat.le_refl _)
set_option maxRecDepth 100000 in
set_option maxHeartbeats 8000000 in
theorem tick_m (s : Hs) (hv : validC s.c = true) (hl : s.bs.length ≤ 16) (hr : RunOk s.c s.bs) (now : Int) :
    Meets Try.prog 54 [.ptr 1000000 0, .i now] [.box 76 (mcells s 1000001 (.d (.v (.slice none 0 0)))), .row 42 5 (s.bs.map Bk.ds) false]
      (fun r => r = ⟨.tup [], [.box 76 (mcells (tickR s now).1 1000001 (.rw 2000000 (tickR s now).2.length)), .row 42 5 ((tickR s now).1.bs.map Bk.ds) false], [.row 51 3 ((tickR s now).2.map Ch.ds) false]⟩) := by
  refine meetsH [] tbOk mixed Try.func54 pl54 rfl rfl ?_
  obtain ⟨_, hiv, ⟨htm1, htm2⟩, _⟩ := validC_iff.1 hv
  simp [Try.ntmps54]
  refine vc_loop (fun n σ => ∃ k : Nat, n = s.bs.length - k ∧ k ≤ s.bs.length ∧ σ = ⟨69, [(15, .i k), (14, .i s.bs.length), (13, .rw 1000001 s.bs.length), (4, .rw 4 (lateTo s.c now s.bs k).length), (2, .ptr 2 0), (1, .i now)], [(1000000, .box 76 (mcells s 1000001 (.d (.v (.slice none 0 0))))), (1000001, .row 42 5 (s.bs.map Bk.ds) false), (2, .box 74 [.ptr 1000000 0]), (4, .row 3 1 ((lateTo s.c now s.bs k).map nds) false)]⟩) ?_ ?_
  · exact ⟨_, _, ⟨0, rfl, Nat.zero_le _, rfl⟩, [.row 4 3 1], _, rfl, by simp [lateTo]⟩
  rintro n σ ⟨k, rfl, hk, rfl⟩
  by_cases hlt : k < s.bs.length
  · obtain ⟨b, hb, e⟩ := at_lt hlt
    have w := wrap_succ hlt (by omega)
    have hll := lateTo_len s.c now s.bs k
    have hs := lateTo_succ (c := s.c) (now := now) hb
    have hrb := hr k b hb
    by_cases p0 : b.probe = 0
    · have hf : lateB s.c now b = false := by simp [lateB, p0]
      simp [hlt, e, p0, w]
      refine ⟨by kernel_rfl, _, ?_, _, ⟨k + 1, rfl, hlt, rfl⟩, [], _, rfl, by simp [hs, hf]⟩
      omega
    · have w2 : IntKind.i64.wrap (b.began + s.c.tm) = b.began + s.c.tm := small_wrap (by omega)
      simp [hlt, e, p0]
      refine effCall (deadlineR_m s b) ?_
      rw [w2]
      by_cases hn : b.began + s.c.tm ≤ now
      · have hf : lateB s.c now b = true := by simp [lateB, p0, hn]
        simp [hn, w]
        refine ⟨by kernel_rfl, by omega, _, ?_, _, ⟨k + 1, rfl, hlt, rfl⟩, [], _, rfl, by simp [hs, hf]⟩
        omega
      · have hf : lateB s.c now b = false := by simp [lateB, p0, hn]
        simp [hn, w]
        refine ⟨by kernel_rfl, _, ?_, _, ⟨k + 1, rfl, hlt, rfl⟩, [], _, rfl, by simp [hs, hf]⟩
        omega
  obtain rfl : k = s.bs.length := by omega
  have hxl : (lateTo s.c now s.bs s.bs.length).length ≤ 16 := Nat.le_trans (lateTo_len ..) hl
  have hidx : Idx s (lateTo s.c now s.bs s.bs.length) := fun y hy => by
    obtain ⟨i, b, h1, _, h3, _⟩ := (lateTo_mem (Nat.le_refl _)).1 hy
    exact ⟨i, b, h1, h3⟩
  simp
  refine (sort_m s (by omega) (.v (.slice none 0 0)) _ hxl hidx).mono ?_
  rintro _ rfl
  have hT := tickR_eq s now
  have hSl : (lateS s now).length = (lateTo s.c now s.bs s.bs.length).length := sortI_len ..
  have hmem := (lateS_ok s now).mem
  rw [← hSl] at hxl ⊢
  rw [show sortI (ltB s) (lateTo s.c now s.bs s.bs.length) = lateS s now from rfl]
  generalize lateS s now = S at *
  simp
  refine vc_loop (fun n σ => ∃ (k : Nat) (bs : List Bk) (cs : List Ch), n = S.length - k ∧ k ≤ S.length ∧ bs.length = s.bs.length ∧ cs.length ≤ k ∧ RunOk s.c bs ∧ (outF s.c S s.bs).1 = (outF s.c (S.drop k) bs).1 ∧ (outF s.c S s.bs).2 = cs ++ (outF s.c (S.drop k) bs).2 ∧
    σ = ⟨69, [(43, .i k), (42, .i S.length), (41, .rw 4 S.length), (2, .ptr 2 0), (1, .i now)], [(1000000, .box 76 (mcells ⟨s.c, s.now, bs⟩ 1000001 (.rw 60 cs.length))), (1000001, .row 42 5 (bs.map Bk.ds) false), (2, .box 74 [.ptr 1000000 0]), (4, .row 3 1 (S.map nds) false), (60, .row 51 3 (cs.map Ch.ds) false)]⟩) ?_ ?_
  · exact ⟨_, _, ⟨0, s.bs, [], rfl, Nat.zero_le _, rfl, Nat.zero_le _, hr, rfl, rfl, rfl⟩, [.cell 1000000 7 60 51 3], _, (by simp [Prep.all, Prep.run]; rfl), by simp⟩
  rintro n σ ⟨k, bs, cs, rfl, hk, hbl, hcl, hrun, ho1, ho2, rfl⟩
  by_cases hlt : k < S.length
  · obtain ⟨y, hy, ey⟩ := at_lt hlt
    obtain ⟨i, b0, rfl, hb0, _⟩ := (hmem y).1 (List.mem_of_getElem? hy)
    have hil : i < bs.length := by rw [hbl]; exact lt_some hb0
    obtain ⟨b, hb, eb⟩ := at_lt hil
    have hrb := hrun i b hb
    have h10 := lim_le hv b.up
    have w := wrap_succ hlt (by omega)
    have w2 : IntKind.i64.wrap (b.began + s.c.tm) = b.began + s.c.tm := small_wrap (by omega)
    have hdrop : S.drop k = (i : Int) :: S.drop (k + 1) := by rw [List.drop_eq_getElem_cons hlt, ey]
    rw [hdrop, outF] at ho1 ho2
    simp only [Int.toNat_natCast, getD_some hb] at ho1 ho2
    simp [hlt, ey, hil, eb]
    refine effCall (deadlineR_m ⟨s.c, s.now, bs⟩ b) ?_
    simp [w2]
    refine effCallN (outcome_m ⟨s.c, s.now, bs⟩ hb ⟨hrb.1.1, by omega⟩ false (b.began + s.c.tm) cs (by omega)) ?_
    have hol := outL_len s.c b i false (b.began + s.c.tm)
    simp [w]
    refine ⟨by kernel_rfl, ?_⟩
    refine ⟨_, ?_, _, ⟨k + 1, rfl, hlt, bs.set i (outB s.c b false), by simpa using hbl, cs ++ outL s.c b i false (b.began + s.c.tm), by simp; omega, hrun.set hv hb false, ho1, by rw [ho2, List.append_assoc], rfl⟩, [], _, rfl, ?_⟩
    · omega
    · simp
  · obtain rfl : k = S.length := by omega
    rw [List.drop_length, outF] at ho1 ho2
    simp only [List.append_nil] at ho2
    have hT2 : tickR s now = (⟨s.c, now, bs⟩, cs) := by rw [hT, ho1, ho2]
    rw [hT2]
    simp
    refine vcRet_of [60] ?_ rfl
    simp

/-- A backend whose check begins. -/
def begB (s : Hs) (b : Bk) (id : Int) : Bk := ⟨b.up, b.run, b.next + ((s.now - b.next) / s.c.iv * s.c.iv + s.c.iv), id, s.now⟩
theorem beg_wrap {s : Hs} (hf : Fine s) {b : Bk} (h0 : 0 ≤ b.next) (h1 : b.next ≤ s.now) :
    s.c.iv ≠ 0 ∧ IntKind.i64.wrap (s.now - b.next) = s.now - b.next ∧ IntKind.i64.wrap ((s.now - b.next).tdiv s.c.iv) = (s.now - b.next) / s.c.iv ∧ IntKind.i64.wrap ((s.now - b.next) / s.c.iv * s.c.iv) = (s.now - b.next) / s.c.iv * s.c.iv ∧
    IntKind.i64.wrap ((s.now - b.next) / s.c.iv * s.c.iv + s.c.iv) = (s.now - b.next) / s.c.iv * s.c.iv + s.c.iv ∧ IntKind.i64.wrap (b.next + ((s.now - b.next) / s.c.iv * s.c.iv + s.c.iv)) = b.next + ((s.now - b.next) / s.c.iv * s.c.iv + s.c.iv) := by
  have hiv := hf.iv
  have hn := hf.n1
  have e1 := Int.emod_add_mul_ediv (s.now - b.next) s.c.iv
  have e2 := Int.emod_nonneg (s.now - b.next) (show s.c.iv ≠ 0 by omega)
  have e3 : 0 ≤ (s.now - b.next) / s.c.iv := Int.ediv_nonneg (by omega) (by omega)
  have e4 : (s.now - b.next) / s.c.iv ≤ s.now - b.next := Int.ediv_le_self _ (by omega)
  have e5 : (s.now - b.next) / s.c.iv * s.c.iv = s.c.iv * ((s.now - b.next) / s.c.iv) := Int.mul_comm ..
  have e6 : (s.now - b.next).tdiv s.c.iv = (s.now - b.next) / s.c.iv := Int.tdiv_eq_ediv_of_nonneg (by omega)
  have e7 : 0 ≤ s.c.iv * ((s.now - b.next) / s.c.iv) := Int.mul_nonneg (by omega) e3
  rw [e6]
  exact ⟨by omega, small_wrap (by omega), small_wrap (by omega), small_wrap (by omega), small_wrap (by omega), small_wrap (by omega)⟩
set_option maxRecDepth 100000 in
set_option maxHeartbeats 4000000 in
theorem begin_m (s : Hs) (hf : Fine s) {k : Nat} {b : Bk} (hb : s.bs[k]? = some b) (h0 : 0 ≤ b.next) (h1 : b.next ≤ s.now) (id : Int) (q : D) :
    Meets Try.prog 55 [.ptr 1000000 0, .i k, .i id] [.box 76 (mcells s 1000001 (.d q)), .row 42 5 (s.bs.map Bk.ds) false]
      (fun r => r = ⟨.tup [], [.box 76 (mcells s 1000001 (.d q)), .row 42 5 ((s.bs.set k (begB s b id)).map Bk.ds) false], []⟩) := by
  refine meetsH [] tbOk mixed Try.func55 pl55 rfl rfl ?_
  have hlt := lt_some hb
  have e : s.bs[k] = b := by rw [List.getElem?_eq_getElem hlt] at hb; exact Option.some.inj hb
  obtain ⟨w0, w1, w2, w3, w4, w5⟩ := beg_wrap hf h0 h1
  simp [Try.ntmps55, hlt, e, w0, w1, w2, w3, w4, w5]
  refine ⟨by kernel_rfl, ?_⟩
  refine vcRet_of [] ?_ rfl
  simp [begB]
end Go.Proofs.Yticgikpccbgjbaa
