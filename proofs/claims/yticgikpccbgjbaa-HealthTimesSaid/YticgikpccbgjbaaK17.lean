/- Contracts: the law HealthTimes. No condition. -/
import Derived.Test.YticgikpccbgjbaaK16
namespace Go.Proofs.Yticgikpccbgjbaa
open Go.RowKit

theorem mem_dueTo {s : Hs} {i : Nat} {b : Bk} (hb : s.bs[i]? = some b) : ∀ n, n ≤ s.bs.length → ((i : Int) ∈ dueTo s n ↔ i < n ∧ dueB s b = true)
  | 0, _ => by simp [dueTo]
  | n + 1, hn => by
    obtain ⟨y, hy, _⟩ := at_lt (show n < s.bs.length by omega)
    rw [dueTo_succ hy, List.mem_append, mem_dueTo hb n (by omega)]
    constructor
    · rintro (⟨h1, h2⟩ | h)
      · exact ⟨by omega, h2⟩
      · cases hd : dueB s y
        · rw [hd] at h; simp at h
        · rw [hd] at h
          have h3 : (i : Int) = n := by simpa using h
          have h3 : i = n := by omega
          subst h3
          rw [hy] at hb
          cases hb
          exact ⟨by omega, hd⟩
    · rintro ⟨h1, h2⟩
      by_cases h3 : i < n
      · exact .inl ⟨h3, h2⟩
      · have h4 : i = n := by omega
        subst h4
        rw [hy] at hb
        cases hb
        rw [h2]
        exact .inr (by simp)
set_option maxHeartbeats 4000000 in
theorem due1_m (s : Hs) (hl : s.bs.length < 4294967296) (h : Good s) (i : Nat) (b : Bk) (hb : s.bs[i]? = some b) : Meets Try.prog 21 [s.pv, .i i] [] (Ret (.b (dueB s b))) := by
  refine meetsH [] tbOk mixed Try.func21 pl21 rfl rfl ?_
  simp [Try.ntmps21]
  refine (due_m s hl).mono ?_
  rintro _ rfl
  have e : due s = (dueTo s s.bs.length, 0) := by simp [due, good_chk h]
  rw [e]
  have hm := mem_dueTo hb s.bs.length (Nat.le_refl _)
  have hi := lt_some hb
  have hL := dueTo_len s s.bs.length
  generalize dueTo s s.bs.length = L at *
  simp
  refine vc_loop (fun n σ => ∃ k : Nat, n = L.length - k ∧ k ≤ L.length ∧ (∀ x ∈ L.take k, x ≠ (i : Int)) ∧ σ = ⟨27, [(7, .i k), (6, .i 0), (5, .d (nl L)), (1, .i i)], []⟩) ?_ ?_
  · exact ⟨_, _, ⟨0, rfl, Nat.zero_le _, by simp, rfl⟩, [], _, rfl, by simp⟩
  rintro n σ ⟨k, rfl, hk, hne, rfl⟩
  by_cases hlt : k < L.length
  · obtain ⟨x, hx, e⟩ := at_lt hlt
    have w := wrap_succ hlt (by omega)
    by_cases hxi : x = (i : Int)
    · have hd : dueB s b = true := (hm.1 (hxi ▸ List.mem_of_getElem? hx)).2
      simp [hlt, e, hxi]
      exact vcRet_of [] (by simp [hd]) rfl
    · simp [hlt, e, hxi, w]
      refine ⟨_, ?_, _, ⟨k + 1, rfl, hlt, ?_, rfl⟩, [], _, rfl, by simp⟩
      · omega
      · rw [List.take_add_one, hx]
        intro y hy
        rcases List.mem_append.1 hy with hy | hy
        · exact hne y hy
        · have hy : y = x := by simpa using hy
          rw [hy]; exact hxi
  · obtain rfl : k = L.length := by omega
    have hd : dueB s b = false := by
      cases hd : dueB s b
      · rfl
      · exact absurd rfl (hne _ (by rw [List.take_length]; exact hm.2 ⟨hi, hd⟩))
    simp
    exact vcRet_of [] (by simp [hd]) rfl
/-- One check, from its beginning to the next one. -/
theorem one_check {c : Cf} {I : Nat} {A : Int} {bs : List Bk} {b : Bk} (hF : Fl c I A ⟨c, A, bs⟩ b) {R : Int} (hR : 0 ≤ R ∧ R < c.iv) (hA0 : 0 ≤ A) (hA : A + R ≤ 1000000000000) (ht : 1 ≤ c.tm) :
    ∃ bs2 b2, stepR ⟨c, A, bs⟩ ⟨2, 0, I, 9, false⟩ = (⟨c, A, bs2⟩, [], 0) ∧ bs2.length = bs.length ∧ Good ⟨c, A, bs2⟩ ∧ stepR ⟨c, A, bs2⟩ ⟨2, 0, I, 10, false⟩ = (Hs.zero, [], 9) ∧ bs2[I]? = some b2 ∧ dueB ⟨c, A, bs2⟩ b2 = false ∧
    (A + c.tm ≤ A + R → ∃ bs3 y d, stepR ⟨c, A, bs2⟩ ⟨1, A + R, 0, 0, false⟩ = (⟨c, A + R, bs3⟩, d, 0) ∧ bs3.length = bs.length ∧ stepR ⟨c, A + R, bs3⟩ ⟨3, 0, 0, 9, true⟩ = (Hs.zero, [], 4) ∧ Fl c I (A + c.iv) ⟨c, A + R, bs3⟩ y) ∧
    (¬ A + c.tm ≤ A + R → stepR ⟨c, A, bs2⟩ ⟨1, A + R, 0, 0, false⟩ = (⟨c, A + R, bs2⟩, [], 0) ∧ ∃ bs3 y d, stepR ⟨c, A + R, bs2⟩ ⟨3, 0, 0, 9, true⟩ = (⟨c, A + R, bs3⟩, d, 0) ∧ Fl c I (A + c.iv) ⟨c, A + R, bs3⟩ y) := by
  obtain ⟨e2, hg2⟩ := fl_begin hF rfl (id := 9) (by omega) (by omega)
  have hb : bs[I]? = some b := hF.hb
  have hq : quiet bs := hF.quiet
  refine ⟨bs.set I (runB c b A 9), runB c b A 9, e2, by rw [List.length_set], hg2, step_again hg2 (run_at hb) (show (runB c b A 9).probe ≠ 0 by show (9 : Int) ≠ 0; omega) (id := 10) (by omega) (by omega), run_at hb, by simp [dueB, runB], fun h => ?_, fun h => ?_⟩
  · obtain ⟨e4, hF4⟩ := run_late (bs := bs) (b := b) hg2 hb hq (show 1 ≤ (9 : Int) by omega) (t := A + R) (by omega) (by omega) h (by omega)
    exact ⟨_, _, _, e4, by rw [List.length_set], step_none hF4.good hF4.quiet (id := 9) (by omega) (by omega) true, hF4⟩
  · have e4 := run_wait (bs := bs) (b := b) hg2 hb hq (show 1 ≤ (9 : Int) by omega) (t := A + R) (by omega) (by omega) h
    obtain ⟨e5, hF5⟩ := run_end (bs := bs) (b := b) hg2 hb hq (show 1 ≤ (9 : Int) by omega) (A + R) (stepR_keep hg2 e4) (by omega) true
    exact ⟨e4, _, _, _, e5, hF5⟩
set_option maxRecDepth 100000 in
set_option maxHeartbeats 32000000 in
theorem times_m (c : Cf) (bk : Int) (hbk : 0 ≤ bk ∧ bk ≤ 255) (l : List Int) (hu : ∀ n ∈ l, 0 ≤ n ∧ n ≤ 4294967295) : Meets Try.prog 8 [c.pv, .d (.v (.int .u8 bk)), .d (.sl 1 (l.map uds))] [] (Ret (.b true)) := by
  refine meetsH [] tbOk mixed Try.func8 pl8 rfl rfl ?_
  simp [Try.ntmps8]
  refine (new_m c true).mono ?_
  rintro _ rfl
  cases hv : validC c
  · have e : newR c true = (Hs.zero, 7) := by simp [newR, hv]
    rw [e]
    simp
    refine shown_m.mono ?_
    rintro _ rfl
    simp
    exact vcRet_of [] (by simp) rfl
  have e : newR c true = (new c true, 0) := by simp [newR, hv]
  rw [e]
  by_cases h100 : (60 : Int) < l.length
  · simp [h100]
    refine shown_m.mono ?_
    rintro _ rfl
    simp
    exact vcRet_of [] (by simp) rfl
  obtain ⟨hn, hiv, htm, _, _⟩ := validC_iff.1 hv
  obtain ⟨g1, g2, g3⟩ := new_good hv true
  have hc0 : ¬ c.n = 0 := by omega
  have hc1 : ¬ c.n < 1 := by omega
  have hc2 : ¬ c.iv < 1 := by omega
  have w1 : IntKind.i64.wrap bk = bk := small_wrap (by omega)
  have hI0 : 0 ≤ bk.tmod c.n ∧ bk.tmod c.n < c.n := ⟨Int.tmod_nonneg _ hbk.1, Int.tmod_lt_of_pos _ (by omega)⟩
  have w2 : IntKind.i64.wrap (bk.tmod c.n) = bk.tmod c.n := small_wrap (by omega)
  obtain ⟨I, hI⟩ : ∃ I : Nat, bk.tmod c.n = I := ⟨(bk.tmod c.n).toNat, by omega⟩
  rw [hI] at hI0 w2
  simp [h100, hc0, hc1, hc2, w1, hI, w2]
  obtain ⟨_, f1, f2⟩ := fst_wrap hv (i := I) (by omega)
  have f3 := fst_nonneg hv I
  have hF0 : 0 ≤ (I : Int) * c.iv := Int.mul_nonneg (by omega) (by omega)
  have hF1 : fst c I ≤ 16 * 1000000 := by
    have h4 : (I : Int) * c.iv ≤ 16 * 1000000 := Int.mul_le_mul (by omega) (by omega) (by omega) (by omega)
    have h5 : fst c I ≤ (I : Int) * c.iv := Int.ediv_le_self _ hF0
    omega
  refine vc_loop (fun n σ => ∃ (k : Nat) (s : Hs) (b : Bk), n = l.length - k ∧ k ≤ l.length ∧ Fl c I (fst c I + (k : Int) * c.iv) s b ∧ σ = ⟨202, [(10, .i k), (9, .i I), (2, .d (.sl 1 (l.map uds))), (3, .ptr 3 0), (7, .ptr 7 0)], [(3, .box 23 c.ps), (7, .box 26 s.ps)]⟩) ?_ ?_
  · refine ⟨_, _, ⟨0, new c true, ⟨true, 0, fst c I, 0, 0⟩, rfl, Nat.zero_le _, ⟨g1, rfl, g2, g3 I (by omega), by simp, by simpa [new] using f3⟩, rfl⟩, [], _, rfl, by simp⟩
  rintro n σ ⟨k, s, b, rfl, hk, hF, rfl⟩
  by_cases hlt : k < l.length
  case neg =>
    simp [hlt]
    refine shown_m.mono ?_
    rintro _ rfl
    simp
    exact vcRet_of [] (by simp) rfl
  obtain ⟨x, hx, ex⟩ := at_lt hlt
  have w := wrap_succ hlt (by omega)
  have hK0 : 0 ≤ (k : Int) * c.iv := Int.mul_nonneg (by omega) (by omega)
  have hK1 : (k : Int) * c.iv ≤ 60 * 1000000 := Int.mul_le_mul (by omega) (by omega) (by omega) (by omega)
  have hK2 : ((k + 1 : Nat) : Int) * c.iv = (k : Int) * c.iv + c.iv := by rw [Int.natCast_add, Int.add_mul]; simp
  have wK : IntKind.i64.wrap ((k : Int) * c.iv) = (k : Int) * c.iv := small_wrap (by omega)
  have wA : IntKind.i64.wrap (fst c I + (k : Int) * c.iv) = fst c I + (k : Int) * c.iv := small_wrap (by omega)
  generalize hA : fst c I + (k : Int) * c.iv = A at *
  obtain ⟨hx0, hx1⟩ := hu x (List.mem_of_getElem? hx)
  have hiv0 : ¬ c.iv = 0 := by omega
  have wx : IntKind.i64.wrap x = x := small_wrap (by omega)
  have hR : 0 ≤ x.tmod c.iv ∧ x.tmod c.iv < c.iv := ⟨Int.tmod_nonneg _ hx0, Int.tmod_lt_of_pos _ (by omega)⟩
  have wr : IntKind.i64.wrap (x.tmod c.iv) = x.tmod c.iv := small_wrap (by omega)
  generalize hRe : x.tmod c.iv = R at *
  have wE : IntKind.i64.wrap (A + R) = A + R := small_wrap (by omega)
  have wT : IntKind.i64.wrap (A + c.tm) = A + c.tm := small_wrap (by omega)
  have hl16 := hF.good.fine.len
  have hnow := hF.now
  by_cases h01 : 0 < A ∧ s.now < A
  · obtain ⟨h0, h1⟩ := h01
    have wA1 : IntKind.i64.wrap (A - 1) = A - 1 := small_wrap (by omega)
    obtain ⟨e0, hF0⟩ := fl_tick hF (t := A - 1) (by omega) (by omega) (by omega)
    have hd0 : dueB ⟨c, A - 1, s.bs⟩ b = false := by
      have := hF.next
      simp [dueB]
      intro _
      omega
    simp [hlt, hc0, f1, f2, wK, wA, hA, h0, h1, wA1]
    refine ⟨by kernel_rfl, ?_⟩
    refine (step_m s (by omega) ⟨1, A - 1, 0, 0, false⟩).mono ?_
    rintro _ rfl
    rw [e0]
    simp
    refine (due1_m ⟨c, A - 1, s.bs⟩ (show s.bs.length < _ by omega) hF0.good I b hF.hb).mono ?_
    rintro _ rfl
    rw [hd0]
    simp
    obtain ⟨e1, hF1⟩ := fl_tick hF0 (t := A) hF0.now (by omega) (Int.le_refl _)
    have hF1 : Fl c I A ⟨c, A, s.bs⟩ b := hF1
    have hl1 : s.bs.length < 4294967296 := by omega
    have hp := hF.quiet _ _ hF.hb
    have hn := hF.next
    have hd1 : dueB ⟨c, A, s.bs⟩ b = true := by simp [dueB, hp, hn]
    refine (step_m ⟨c, A - 1, s.bs⟩ (show s.bs.length < _ by omega) ⟨1, A, 0, 0, false⟩).mono ?_
    rintro _ rfl
    rw [e1]
    have hb := hF.hb
    generalize s.bs = bs at hF1 hl1 hd1 hb ⊢
    obtain ⟨bs2, b2, e2, hl2, hg2, e3, hb2, hd2, X, Y⟩ := one_check hF1 hR (by omega) (by omega) (by omega)
    have hl2 : bs2.length < 4294967296 := by omega
    simp
    refine (due1_m ⟨c, A, bs⟩ hl1 hF1.good I b hb).mono ?_
    rintro _ rfl
    rw [hd1]
    simp
    refine (step_m ⟨c, A, bs⟩ hl1 ⟨2, 0, I, 9, false⟩).mono ?_
    rintro _ rfl
    rw [e2]
    simp
    refine (step_m ⟨c, A, bs2⟩ hl2 ⟨2, 0, I, 10, false⟩).mono ?_
    rintro _ rfl
    rw [e3]
    simp
    refine (due1_m ⟨c, A, bs2⟩ hl2 hg2 I _ hb2).mono ?_
    rintro _ rfl
    rw [hd2]
    simp [hlt, ex, hiv0, wx, wr, wE, hRe]
    refine ⟨by kernel_rfl, ?_⟩
    refine (step_m ⟨c, A, bs2⟩ hl2 ⟨1, A + R, 0, 0, false⟩).mono ?_
    rintro _ rfl
    by_cases hlate : A + c.tm ≤ A + R
    · obtain ⟨bs3, y, Lc, e4, hl3, e5, hF4⟩ := X hlate
      have hl3 : bs3.length < 4294967296 := by omega
      rw [e4]
      simp
      refine (step_m ⟨c, A + R, bs3⟩ hl3 ⟨3, 0, 0, 9, true⟩).mono ?_
      rintro _ rfl
      rw [e5]
      have hlt2 : ¬ A + R < A + c.tm := by omega
      have hlt3 : ¬ R < c.tm := by omega
      simp [wT, hlt2, hlt3, w]
      refine ⟨_, ?_, _, ⟨k + 1, rfl, hlt, ⟨c, A + R, bs3⟩, ⟨y, ?_⟩, rfl⟩, [], _, rfl, by simp⟩
      · omega
      · rw [hK2, ← Int.add_assoc, hA]; exact hF4
    · obtain ⟨e4, bs3, y, Lc, e5, hF5⟩ := Y hlate
      rw [e4]
      simp
      refine (step_m ⟨c, A + R, bs2⟩ hl2 ⟨3, 0, 0, 9, true⟩).mono ?_
      rintro _ rfl
      rw [e5]
      have hlt2 : A + R < A + c.tm := by omega
      have hlt3 : R < c.tm := by omega
      simp [wT, hlt2, hlt3, w]
      refine ⟨_, ?_, _, ⟨k + 1, rfl, hlt, ⟨c, A + R, bs3⟩, ⟨y, ?_⟩, rfl⟩, [], _, rfl, by simp⟩
      · omega
      · rw [hK2, ← Int.add_assoc, hA]; exact hF5
  · by_cases h0 : 0 < A
    · have h1 : ¬ s.now < A := fun h => h01 ⟨h0, h⟩
      simp [hlt, hc0, f1, f2, wK, wA, hA, h0, h1]
      refine ⟨by kernel_rfl, ?_⟩
      obtain ⟨e1, hF1⟩ := fl_tick hF (t := A) hF.now (by omega) (Int.le_refl _)
      have hF1 : Fl c I A ⟨c, A, s.bs⟩ b := hF1
      have hl1 : s.bs.length < 4294967296 := by omega
      have hp := hF.quiet _ _ hF.hb
      have hn := hF.next
      have hd1 : dueB ⟨c, A, s.bs⟩ b = true := by simp [dueB, hp, hn]
      refine (step_m s (show s.bs.length < _ by omega) ⟨1, A, 0, 0, false⟩).mono ?_
      rintro _ rfl
      rw [e1]
      have hb := hF.hb
      generalize s.bs = bs at hF1 hl1 hd1 hb ⊢
      obtain ⟨bs2, b2, e2, hl2, hg2, e3, hb2, hd2, X, Y⟩ := one_check hF1 hR (by omega) (by omega) (by omega)
      have hl2 : bs2.length < 4294967296 := by omega
      simp
      refine (due1_m ⟨c, A, bs⟩ hl1 hF1.good I b hb).mono ?_
      rintro _ rfl
      rw [hd1]
      simp
      refine (step_m ⟨c, A, bs⟩ hl1 ⟨2, 0, I, 9, false⟩).mono ?_
      rintro _ rfl
      rw [e2]
      simp
      refine (step_m ⟨c, A, bs2⟩ hl2 ⟨2, 0, I, 10, false⟩).mono ?_
      rintro _ rfl
      rw [e3]
      simp
      refine (due1_m ⟨c, A, bs2⟩ hl2 hg2 I _ hb2).mono ?_
      rintro _ rfl
      rw [hd2]
      simp [hlt, ex, hiv0, wx, wr, wE, hRe]
      refine ⟨by kernel_rfl, ?_⟩
      refine (step_m ⟨c, A, bs2⟩ hl2 ⟨1, A + R, 0, 0, false⟩).mono ?_
      rintro _ rfl
      by_cases hlate : A + c.tm ≤ A + R
      · obtain ⟨bs3, y, Lc, e4, hl3, e5, hF4⟩ := X hlate
        have hl3 : bs3.length < 4294967296 := by omega
        rw [e4]
        simp
        refine (step_m ⟨c, A + R, bs3⟩ hl3 ⟨3, 0, 0, 9, true⟩).mono ?_
        rintro _ rfl
        rw [e5]
        have hlt2 : ¬ A + R < A + c.tm := by omega
        have hlt3 : ¬ R < c.tm := by omega
        simp [wT, hlt2, hlt3, w]
        refine ⟨_, ?_, _, ⟨k + 1, rfl, hlt, ⟨c, A + R, bs3⟩, ⟨y, ?_⟩, rfl⟩, [], _, rfl, by simp⟩
        · omega
        · rw [hK2, ← Int.add_assoc, hA]; exact hF4
      · obtain ⟨e4, bs3, y, Lc, e5, hF5⟩ := Y hlate
        rw [e4]
        simp
        refine (step_m ⟨c, A + R, bs2⟩ hl2 ⟨3, 0, 0, 9, true⟩).mono ?_
        rintro _ rfl
        rw [e5]
        have hlt2 : A + R < A + c.tm := by omega
        have hlt3 : R < c.tm := by omega
        simp [wT, hlt2, hlt3, w]
        refine ⟨_, ?_, _, ⟨k + 1, rfl, hlt, ⟨c, A + R, bs3⟩, ⟨y, ?_⟩, rfl⟩, [], _, rfl, by simp⟩
        · omega
        · rw [hK2, ← Int.add_assoc, hA]; exact hF5
    · simp [hlt, hc0, f1, f2, wK, wA, hA, h0]
      refine ⟨by kernel_rfl, ?_⟩
      obtain ⟨e1, hF1⟩ := fl_tick hF (t := A) hF.now (by omega) (Int.le_refl _)
      have hF1 : Fl c I A ⟨c, A, s.bs⟩ b := hF1
      have hl1 : s.bs.length < 4294967296 := by omega
      have hp := hF.quiet _ _ hF.hb
      have hn := hF.next
      have hd1 : dueB ⟨c, A, s.bs⟩ b = true := by simp [dueB, hp, hn]
      refine (step_m s (show s.bs.length < _ by omega) ⟨1, A, 0, 0, false⟩).mono ?_
      rintro _ rfl
      rw [e1]
      have hb := hF.hb
      generalize s.bs = bs at hF1 hl1 hd1 hb ⊢
      obtain ⟨bs2, b2, e2, hl2, hg2, e3, hb2, hd2, X, Y⟩ := one_check hF1 hR (by omega) (by omega) (by omega)
      have hl2 : bs2.length < 4294967296 := by omega
      simp
      refine (due1_m ⟨c, A, bs⟩ hl1 hF1.good I b hb).mono ?_
      rintro _ rfl
      rw [hd1]
      simp
      refine (step_m ⟨c, A, bs⟩ hl1 ⟨2, 0, I, 9, false⟩).mono ?_
      rintro _ rfl
      rw [e2]
      simp
      refine (step_m ⟨c, A, bs2⟩ hl2 ⟨2, 0, I, 10, false⟩).mono ?_
      rintro _ rfl
      rw [e3]
      simp
      refine (due1_m ⟨c, A, bs2⟩ hl2 hg2 I _ hb2).mono ?_
      rintro _ rfl
      rw [hd2]
      simp [hlt, ex, hiv0, wx, wr, wE, hRe]
      refine ⟨by kernel_rfl, ?_⟩
      refine (step_m ⟨c, A, bs2⟩ hl2 ⟨1, A + R, 0, 0, false⟩).mono ?_
      rintro _ rfl
      by_cases hlate : A + c.tm ≤ A + R
      · obtain ⟨bs3, y, Lc, e4, hl3, e5, hF4⟩ := X hlate
        have hl3 : bs3.length < 4294967296 := by omega
        rw [e4]
        simp
        refine (step_m ⟨c, A + R, bs3⟩ hl3 ⟨3, 0, 0, 9, true⟩).mono ?_
        rintro _ rfl
        rw [e5]
        have hlt2 : ¬ A + R < A + c.tm := by omega
        have hlt3 : ¬ R < c.tm := by omega
        simp [wT, hlt2, hlt3, w]
        refine ⟨_, ?_, _, ⟨k + 1, rfl, hlt, ⟨c, A + R, bs3⟩, ⟨y, ?_⟩, rfl⟩, [], _, rfl, by simp⟩
        · omega
        · rw [hK2, ← Int.add_assoc, hA]; exact hF4
      · obtain ⟨e4, bs3, y, Lc, e5, hF5⟩ := Y hlate
        rw [e4]
        simp
        refine (step_m ⟨c, A + R, bs2⟩ hl2 ⟨3, 0, 0, 9, true⟩).mono ?_
        rintro _ rfl
        rw [e5]
        have hlt2 : A + R < A + c.tm := by omega
        have hlt3 : R < c.tm := by omega
        simp [wT, hlt2, hlt3, w]
        refine ⟨_, ?_, _, ⟨k + 1, rfl, hlt, ⟨c, A + R, bs3⟩, ⟨y, ?_⟩, rfl⟩, [], _, rfl, by simp⟩
        · omega
        · rw [hK2, ← Int.add_assoc, hA]; exact hF5
end Go.Proofs.Yticgikpccbgjbaa
