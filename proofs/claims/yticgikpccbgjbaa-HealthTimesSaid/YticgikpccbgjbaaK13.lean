/- Contracts: what the examples show, and the laws Runs, Steps, Checks, Known. No condition. -/
import Derived.Test.YticgikpccbgjbaaK12
namespace Go.Proofs.Yticgikpccbgjbaa
open Go.RowKit

set_option maxRecDepth 20000 in
set_option maxHeartbeats 2000000 in
theorem stepsEq_m (xs ys : List Sp) (hl : xs.length < 4294967296) (hc : ∀ x ∈ xs, x.cs.length < 4294967296) : Meets Try.prog 14 [.d (spl xs), .d (spl ys)] [] (Ret (.b (decide (xs = ys)))) := by
  refine meetsH [] tbOk mixed Try.func14 pl14 rfl rfl ?_
  by_cases hlen : xs.length = ys.length
  case neg =>
    have hl2 : ¬ ((xs.length : Int) = ys.length) := by omega
    simp [Try.ntmps14, hl2]
    refine vcRet_of [] ?_ rfl
    have : xs ≠ ys := fun e => hlen (by rw [e])
    simp [this]
  simp [Try.ntmps14, ← hlen]
  refine vc_loop (fun m σ => ∃ k : Nat, m = xs.length - k ∧ k ≤ xs.length ∧ xs.take k = ys.take k ∧ σ = ⟨42, [(5, .i k), (0, .d (spl xs)), (1, .d (spl ys))], []⟩) ?_ ?_
  · exact ⟨_, _, ⟨0, rfl, Nat.zero_le _, rfl, rfl⟩, [], _, rfl, by simp⟩
  · rintro m σ ⟨k, rfl, hk, hn, rfl⟩
    by_cases hlt : k < xs.length
    · obtain ⟨x, hx, e⟩ := at_lt hlt
      obtain ⟨y, hy, e'⟩ := at_lt (show k < ys.length by omega)
      have hlt' : k < ys.length := by omega
      have hne : x ≠ y → xs ≠ ys := fun h e2 => by
        subst e2
        rw [hx] at hy
        cases hy
        exact h rfl
      by_cases h1 : x.e = y.e
      case neg =>
        have : xs ≠ ys := hne fun e2 => h1 (by rw [e2])
        simp [hlt, hlt', e, e', h1]
        refine ⟨by kernel_rfl, vcRet_of [] ?_ rfl⟩
        simp [this]
      simp [hlt, hlt', e, e', h1]
      refine effCall (sameCh_m x.cs y.cs (hc x (List.mem_of_getElem? hx))) ?_
      by_cases h2 : x.cs = y.cs
      case neg =>
        have : xs ≠ ys := hne fun e2 => h2 (by rw [e2])
        simp [h2]
        refine ⟨by kernel_rfl, vcRet_of [] ?_ rfl⟩
        simp [this]
      simp [h2, wrap_succ hlt hl]
      refine ⟨by kernel_rfl, _, ?_, _, ⟨k + 1, rfl, hlt, ?_, rfl⟩, [], _, rfl, by simp⟩
      · omega
      · rw [List.take_add_one, List.take_add_one, hn, hx, hy]
        obtain ⟨c1, c2⟩ := x
        obtain ⟨d1, d2⟩ := y
        simp at h1 h2
        rw [h1, h2]
    · obtain rfl : k = xs.length := by omega
      simp
      refine vcRet_of [] ?_ rfl
      have : xs = ys := by rw [List.take_length, hlen, List.take_length] at hn; exact hn
      simp [this]
def exC : Cf := ⟨2, 10, 4, 1, 2⟩
def exE : List Ev := [⟨2, 0, 0, 1, false⟩, ⟨2, 0, 1, 2, false⟩, ⟨1, 6, 0, 0, false⟩, ⟨2, 0, 1, 2, false⟩, ⟨3, 0, 0, 2, false⟩, ⟨1, 10, 0, 0, false⟩, ⟨2, 0, 0, 3, false⟩, ⟨3, 0, 0, 3, false⟩, ⟨1, 33, 0, 0, false⟩, ⟨2, 0, 0, 4, false⟩, ⟨3, 0, 0, 4, true⟩]
theorem example_m : Meets Try.prog 32 [] [] (Ret exC.pv) := by
  refine meetsH [] tbOk mixed Try.func32 pl32 rfl rfl ?_
  simp [Try.ntmps32]
  refine vcRet_of [] ?_ rfl
  simp [exC]
set_option maxRecDepth 20000 in
set_option maxHeartbeats 2000000 in
theorem events_m : Meets Try.prog 33 [] [] (Ret (.d (evl exE))) := by
  refine meetsH [] tbOk mixed Try.func33 pl33 rfl rfl ?_
  simp [Try.ntmps33]
  refine vcRet_of [] ?_ rfl
  simp [exE]
def exS : Hs := ⟨exC, 0, [⟨true, 0, 0, 0, 0⟩, ⟨true, 0, 5, 0, 0⟩]⟩
def exL : List Sp := [⟨0, []⟩, ⟨9, []⟩, ⟨0, []⟩, ⟨0, []⟩, ⟨0, []⟩, ⟨0, []⟩, ⟨0, []⟩, ⟨0, [⟨0, false, 10⟩]⟩, ⟨0, []⟩, ⟨0, []⟩, ⟨0, [⟨0, true, 33⟩]⟩]
def exT : Hs := ⟨exC, 33, [⟨true, 0, 40, 0, 0⟩, ⟨true, 1, 15, 0, 0⟩]⟩
theorem new_ex : newR exC true = (exS, 0) := by decide +kernel
theorem run_ex : runR exS exE = (exL, exT, 0) := by decide +kernel
set_option maxRecDepth 100000 in
set_option maxHeartbeats 8000000 in
theorem shown_m : Meets Try.prog 11 [] [] (Ret (.b true)) := by
  refine meetsH [] tbOk mixed Try.func11 pl11 rfl rfl ?_
  simp [Try.ntmps11]
  refine example_m.mono ?_
  rintro _ rfl
  simp
  refine (new_m exC true).mono ?_
  rintro _ rfl
  rw [new_ex]
  simp
  refine effCall events_m ?_
  simp
  refine effCall (run_m exS (by decide) exE) ?_
  rw [run_ex]
  simp [exL, exT, exC, exE, exS]
  refine ⟨by kernel_rfl, ?_⟩
  refine vc_loop (fun n σ => ∃ k : Nat, n = 11 - k ∧ k ≤ 11 ∧ σ = ⟨99, [(6, .i k), (3, .d (spl exL)), (4, .ptr 4 0)], [(4, .box 26 exT.ps)]⟩) ?_ ?_
  · exact ⟨_, _, ⟨0, rfl, Nat.zero_le _, rfl⟩, [], _, rfl, by simp [exL, exT, exC]⟩
  rintro n σ ⟨k, rfl, hk, rfl⟩
  by_cases hlt : k < 11
  · obtain rfl | rfl | rfl | rfl | rfl | rfl | rfl | rfl | rfl | rfl | rfl : k = 0 ∨ k = 1 ∨ k = 2 ∨ k = 3 ∨ k = 4 ∨ k = 5 ∨ k = 6 ∨ k = 7 ∨ k = 8 ∨ k = 9 ∨ k = 10 := by omega
    · simp [exL, exT, exC, small_wrap]
      exact ⟨_, by decide, _, ⟨1, rfl, by decide, rfl⟩, [], _, rfl, by simp [exL, exT, exC]⟩
    · simp [exL, exT, exC, small_wrap]
      exact ⟨_, by decide, _, ⟨2, rfl, by decide, rfl⟩, [], _, rfl, by simp [exL, exT, exC]⟩
    · simp [exL, exT, exC, small_wrap]
      exact ⟨_, by decide, _, ⟨3, rfl, by decide, rfl⟩, [], _, rfl, by simp [exL, exT, exC]⟩
    · simp [exL, exT, exC, small_wrap]
      exact ⟨_, by decide, _, ⟨4, rfl, by decide, rfl⟩, [], _, rfl, by simp [exL, exT, exC]⟩
    · simp [exL, exT, exC, small_wrap]
      exact ⟨_, by decide, _, ⟨5, rfl, by decide, rfl⟩, [], _, rfl, by simp [exL, exT, exC]⟩
    · simp [exL, exT, exC, small_wrap]
      exact ⟨_, by decide, _, ⟨6, rfl, by decide, rfl⟩, [], _, rfl, by simp [exL, exT, exC]⟩
    · simp [exL, exT, exC, small_wrap]
      exact ⟨_, by decide, _, ⟨7, rfl, by decide, rfl⟩, [], _, rfl, by simp [exL, exT, exC]⟩
    · simp [exL, exT, exC, small_wrap]
      exact ⟨_, by decide, _, ⟨8, rfl, by decide, rfl⟩, [], _, rfl, by simp [exL, exT, exC]⟩
    · simp [exL, exT, exC, small_wrap]
      exact ⟨_, by decide, _, ⟨9, rfl, by decide, rfl⟩, [], _, rfl, by simp [exL, exT, exC]⟩
    · simp [exL, exT, exC, small_wrap]
      exact ⟨_, by decide, _, ⟨10, rfl, by decide, rfl⟩, [], _, rfl, by simp [exL, exT, exC]⟩
    · simp [exL, exT, exC, small_wrap]
      exact ⟨_, ⟨11, by decide, by decide, rfl⟩, [], _, rfl, by simp [exL, exT, exC]⟩
  · obtain rfl : k = 11 := by omega
    simp [exL, exT, exC]
    refine (sameCh_m [⟨0, false, 10⟩] [⟨0, false, 10⟩] (by decide)).mono ?_
    rintro _ rfl
    simp
    refine (sameCh_m [⟨0, true, 33⟩] [⟨0, true, 33⟩] (by decide)).mono ?_
    rintro _ rfl
    simp
    refine vcRet_of [] ?_ rfl
    simp

theorem outF_chs (c : Cf) : ∀ (L : List Int) (bs : List Bk), (outF c L bs).2.length ≤ L.length
  | [], _ => Nat.le_refl _
  | f :: L, bs => by
    rw [outF]
    have h1 := outF_chs c L (bs.set f.toNat (outB c (bs.getD f.toNat default) false))
    have h2 := outL_len c (bs.getD f.toNat default) f.toNat false ((bs.getD f.toNat default).began + c.tm)
    simp only [List.length_append, List.length_cons]
    omega
theorem stepM_chs {s : Hs} (h : Good s) (x : Ev) : (stepM s x).2.1.length ≤ 16 := by
  have h16 := h.fine.len
  unfold stepM
  split
  · exact Nat.zero_le _
  unfold stepK
  split
  · split
    · exact Nat.zero_le _
    · show (tickR s x.now).2.length ≤ 16
      rw [tickR_eq]
      have h1 := outF_chs s.c (lateS s x.now) s.bs
      have h2 : (lateS s x.now).length = (lateTo s.c x.now s.bs s.bs.length).length := sortI_len ..
      have h3 := lateTo_len s.c x.now s.bs s.bs.length
      show (outF s.c (lateS s x.now) s.bs).2.length ≤ 16
      omega
  · split
    · split
      · exact Nat.zero_le _
      · split <;> exact Nat.zero_le _
    · split
      · split
        · exact Nat.zero_le _
        · exact Nat.le_trans (outL_len ..) (by omega)
      · show (markL ..).length ≤ 16
        unfold markL
        split <;> simp
theorem runF_ok : ∀ (l : List Ev) {s : Hs}, Good s → Good (runF s l).1 ∧ (runF s l).2.length = l.length ∧ ∀ x ∈ (runF s l).2, x.cs.length ≤ 16
  | [], s, h => ⟨h, rfl, fun x hx => by cases hx⟩
  | x :: l, s, h => by
    obtain ⟨h1, h2, h3⟩ := runF_ok l (stepM_ok h x)
    refine ⟨h1, by simp [runF, h2], fun y hy => ?_⟩
    rw [runF] at hy
    rcases List.mem_cons.1 hy with rfl | hy
    · exact stepM_chs h x
    · exact h3 y hy
theorem runR_ok (s : Hs) (l : List Ev) : (runR s l).2.1.bs.length ≤ 16 ∧ (runR s l).1.length ≤ l.length ∧ ∀ x ∈ (runR s l).1, x.cs.length ≤ 16 := by
  unfold runR
  split
  · exact ⟨Nat.zero_le _, Nat.zero_le _, fun x hx => by cases hx⟩
  · rename_i hc
    split
    · exact ⟨Nat.zero_le _, Nat.zero_le _, fun x hx => by cases hx⟩
    · obtain ⟨h1, h2, h3⟩ := runF_ok l (chk_good (by simpa using hc))
      exact ⟨h1.fine.len, Nat.le_of_eq h2, h3⟩
theorem stepR_ok (s : Hs) (x : Ev) : (stepR s x).1.bs.length ≤ 16 ∧ (stepR s x).2.1.length ≤ 16 := by
  unfold stepR
  split
  · exact ⟨Nat.zero_le _, Nat.zero_le _⟩
  · rename_i hc
    have hg := chk_good (s := s) (by simpa using hc)
    split
    · exact ⟨Nat.zero_le _, Nat.zero_le _⟩
    · exact ⟨(stepM_ok hg x).fine.len, stepM_chs hg x⟩
theorem newR_len (c : Cf) (up : Bool) : (newR c up).1.bs.length ≤ 16 := by
  unfold newR
  split
  · rename_i hv
    have := (validC_iff.1 hv).1
    show (news c up c.n.toNat).length ≤ 16
    rw [news_len]; omega
  · exact Nat.zero_le _
set_option maxRecDepth 100000 in
set_option maxHeartbeats 8000000 in
theorem runs_m (s : Hs) (l : List Ev) : Meets Try.prog 3 [s.pv, .d (evl l)] [] (Ret (.b true)) := by
  refine meetsH [] tbOk mixed Try.func3 pl3 rfl rfl ?_
  have out : ∀ σ : Sta, True := fun _ => trivial
  by_cases h1 : (30 : Int) < s.bs.length
  · simp [Try.ntmps3, h1]
    refine shown_m.mono ?_
    rintro _ rfl
    simp
    exact vcRet_of [] (by simp) rfl
  by_cases h2 : (200 : Int) < l.length
  · by_cases h3 : (l.length : Int) ≤ 500
    · simp [Try.ntmps3, h1, h2, h3]
      refine shown_m.mono ?_
      rintro _ rfl
      simp
      exact vcRet_of [] (by simp) rfl
    by_cases h4 : (510 : Int) < l.length
    · simp [Try.ntmps3, h1, h2, h3, h4]
      refine shown_m.mono ?_
      rintro _ rfl
      simp
      exact vcRet_of [] (by simp) rfl
    obtain ⟨r1, r2, r3⟩ := runR_ok s l
    simp [Try.ntmps3, h1, h2, h3, h4]
    refine (run_m s (by omega) l).mono ?_
    rintro _ rfl
    simp
    refine (refRun_m s (by omega) l (by omega)).mono ?_
    rintro _ rfl
    simp
    refine (stepsEq_m (runR s l).1 (runR s l).1 (by omega) fun x hx => by have := r3 x hx; omega).mono ?_
    rintro _ rfl
    simp
    refine (same_m (runR s l).2.1 (runR s l).2.1 (by omega)).mono ?_
    rintro _ rfl
    simp
    refine shown_m.mono ?_
    rintro _ rfl
    simp
    exact vcRet_of [] (by simp) rfl
  have h4 : ¬ (510 : Int) < l.length := by omega
  obtain ⟨r1, r2, r3⟩ := runR_ok s l
  simp [Try.ntmps3, h1, h2, h4]
  refine (run_m s (by omega) l).mono ?_
  rintro _ rfl
  simp
  refine (refRun_m s (by omega) l (by omega)).mono ?_
  rintro _ rfl
  simp
  refine (stepsEq_m (runR s l).1 (runR s l).1 (by omega) fun x hx => by have := r3 x hx; omega).mono ?_
  rintro _ rfl
  simp
  refine (same_m (runR s l).2.1 (runR s l).2.1 (by omega)).mono ?_
  rintro _ rfl
  simp
  refine shown_m.mono ?_
  rintro _ rfl
  simp
  exact vcRet_of [] (by simp) rfl
set_option maxRecDepth 100000 in
set_option maxHeartbeats 8000000 in
theorem stepsLaw_m (s : Hs) (x : Ev) : Meets Try.prog 4 [s.pv, x.pv] [] (Ret (.b true)) := by
  refine meetsH [] tbOk mixed Try.func4 pl4 rfl rfl ?_
  by_cases h1 : (30 : Int) < s.bs.length
  · simp [Try.ntmps4, h1]
    refine shown_m.mono ?_
    rintro _ rfl
    simp
    exact vcRet_of [] (by simp) rfl
  obtain ⟨r1, r2⟩ := stepR_ok s x
  have hl : s.bs.length < 4294967296 := by omega
  simp [Try.ntmps4, h1]
  refine ⟨by omega, ?_⟩
  refine (step_m s hl x).mono ?_
  rintro _ rfl
  simp
  refine (refStep_m s hl x).mono ?_
  rintro _ rfl
  simp
  refine vc_loop (fun n σ => ∃ k : Nat, n = s.bs.length - k ∧ k ≤ s.bs.length ∧ σ = ⟨68, [(12, .i k), (5, .rw 18 s.bs.length), (2, .ptr 2 0), (6, .ptr 6 0), (9, .ptr 9 0), (7, .d (chl (stepR s x).2.1)), (10, .d (chl (stepR s x).2.1)), (8, .i (stepR s x).2.2), (11, .i (stepR s x).2.2)], [(2, .box 26 s.ps), (6, .box 26 (stepR s x).1.ps), (9, .box 26 (stepR s x).1.ps), (18, .row 42 5 (s.bs.map Bk.ds) false)]⟩) ?_ ?_
  · exact ⟨_, _, ⟨0, rfl, Nat.zero_le _, rfl⟩, [], _, rfl, by simp⟩
  rintro n σ ⟨k, rfl, hk, rfl⟩
  by_cases hlt : k < s.bs.length
  · obtain ⟨b, hb, e⟩ := at_lt hlt
    have w := wrap_succ hlt hl
    simp [hlt, e, w]
    refine ⟨by kernel_rfl, _, ?_, _, ⟨k + 1, rfl, hlt, rfl⟩, [], _, rfl, by simp⟩
    omega
  · obtain rfl : k = s.bs.length := by omega
    simp
    refine (same_m (stepR s x).1 (stepR s x).1 (by omega)).mono ?_
    rintro _ rfl
    simp
    refine (sameCh_m (stepR s x).2.1 (stepR s x).2.1 (by omega)).mono ?_
    rintro _ rfl
    simp
    refine shown_m.mono ?_
    rintro _ rfl
    simp
    exact vcRet_of [] (by simp) rfl
theorem due_len (s : Hs) : (due s).1.length ≤ s.bs.length := by
  unfold due
  split
  · exact Nat.zero_le _
  · exact dueTo_len s _
theorem ups_len (s : Hs) : (ups s).1.length ≤ s.bs.length := by
  unfold ups
  split
  · exact Nat.zero_le _
  · simp
set_option maxRecDepth 100000 in
set_option maxHeartbeats 8000000 in
theorem checks_m (s : Hs) (up : Bool) : Meets Try.prog 9 [s.pv, .b up] [] (Ret (.b true)) := by
  refine meetsH [] tbOk mixed Try.func9 pl9 rfl rfl ?_
  by_cases h1 : (30 : Int) < s.bs.length
  · simp [Try.ntmps9, h1]
    refine shown_m.mono ?_
    rintro _ rfl
    simp
    exact vcRet_of [] (by simp) rfl
  have hl : s.bs.length < 4294967296 := by omega
  have hn := newR_len s.c up
  have hd := due_len s
  have hu := ups_len s
  simp [Try.ntmps9, h1]
  refine (new_m s.c up).mono ?_
  rintro _ rfl
  simp
  refine (refNew_m s.c up).mono ?_
  rintro _ rfl
  simp
  refine effCall (check_m s hl) ?_
  simp
  refine effCall (refCheck_m s hl) ?_
  simp
  refine effCall (same_m (newR s.c up).1 (newR s.c up).1 (by omega)) ?_
  simp
  refine ⟨by kernel_rfl, ?_⟩
  refine (due_m s hl).mono ?_
  rintro _ rfl
  simp
  refine (refDueL_m s hl).mono ?_
  rintro _ rfl
  simp
  refine (up_m s hl).mono ?_
  rintro _ rfl
  simp
  refine (refUp_m s hl).mono ?_
  rintro _ rfl
  simp
  refine (next_m s hl).mono ?_
  rintro _ rfl
  simp
  refine (refNext_m s hl).mono ?_
  rintro _ rfl
  simp
  refine (ints_m (due s).1 (due s).1 (by omega)).mono ?_
  rintro _ rfl
  simp
  refine (bools_m (ups s).1 (ups s).1 (by omega)).mono ?_
  rintro _ rfl
  simp
  refine shown_m.mono ?_
  rintro _ rfl
  simp
  exact vcRet_of [] (by simp) rfl
theorem due_ex : due exS = ([0], 0) := by decide +kernel
theorem next_ex : next exS = (5, 0) := by decide +kernel
theorem st1_ex : (stepR exS ⟨1, 0, 0, 1, false⟩).2.2 = 2 := by decide +kernel
theorem st2_ex : (stepR exS ⟨3, 0, 0, 7, false⟩).2.2 = 4 := by decide +kernel
theorem st3_ex : (stepR exS ⟨2, 0, 2, 7, false⟩).2.2 = 7 := by decide +kernel
set_option maxRecDepth 100000 in
set_option maxHeartbeats 8000000 in
theorem known_m : Meets Try.prog 10 [] [] (Ret (.b true)) := by
  refine meetsH [] tbOk mixed Try.func10 pl10 rfl rfl ?_
  simp [Try.ntmps10]
  refine example_m.mono ?_
  rintro _ rfl
  simp
  refine (new_m exC true).mono ?_
  rintro _ rfl
  rw [new_ex]
  simp
  refine (due_m exS (by decide)).mono ?_
  rintro _ rfl
  rw [due_ex]
  simp
  refine (next_m exS (by decide)).mono ?_
  rintro _ rfl
  rw [next_ex]
  simp
  refine (step_m exS (by decide) ⟨1, 0, 0, 1, false⟩).mono ?_
  rintro _ rfl
  simp [st1_ex]
  refine (step_m exS (by decide) ⟨3, 0, 0, 7, false⟩).mono ?_
  rintro _ rfl
  simp [st2_ex]
  refine (step_m exS (by decide) ⟨2, 0, 2, 7, false⟩).mono ?_
  rintro _ rfl
  simp [st3_ex]
  refine (ints_m [0] [0] (by decide)).mono ?_
  rintro _ rfl
  simp
  refine shown_m.mono ?_
  rintro _ rfl
  simp
  exact vcRet_of [] (by simp) rfl
end Go.Proofs.Yticgikpccbgjbaa
