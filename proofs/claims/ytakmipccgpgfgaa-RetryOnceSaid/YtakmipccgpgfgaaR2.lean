/- Contracts: retry's rules, reason, May. No condition. -/
import Derived.Test.YtakmipccgpgfgaaR1
namespace Go.Proofs.Ytakmipccgpgfgaa
open Go.RowKit

@[simp] def rl : List (List D) := [[.v (.int .i64 2), .v (.func (.func 46) #[] #[])], [.v (.int .i64 3), .v (.func (.func 47) #[] #[])], [.v (.int .i64 4), .v (.func (.func 48) #[] #[])], [.v (.int .i64 5), .v (.func (.func 50) #[] #[])], [.v (.int .i64 6), .v (.func (.func 51) #[] #[])]]
theorem rules_m : Meets Try.prog 38 [] [] (Ret (.d (.sl 2 rl))) := by
  refine meets tbOk mixed Try.func38 pl38 rfl rfl ?_
  simp [Try.ntmps38]
  refine vcRet_of [] ?_ rfl
  simp
def ruleB (f : Fl) (most : Int) : Nat → Bool
  | 0 => decide (f.phase = 1)
  | 1 => decide (f.phase = 6)
  | 2 => decide (f.phase = 7 ∧ ¬ (f.status = 502 ∨ f.status = 503 ∨ f.status = 504))
  | 3 => decide (0 < f.sent ∧ f.idem = false)
  | _ => decide (most < f.tries)
theorem why_at (f : Fl) (most : Int) {k : Nat} (hk : k < 5) (h : ∀ j, j < k → ruleB f most j = false) (hb : ruleB f most k = true) : why f most = 2 + k := by
  have e : ∀ j, j < k → ¬ ruleB f most j = true := fun j hj => by rw [h j hj]; exact Bool.false_ne_true
  unfold why
  match k, hk with
  | 0, _ => simp only [ruleB, decide_eq_true_eq] at hb; rw [if_pos hb]; rfl
  | 1, _ => have e0 := e 0 (by omega); simp only [ruleB, decide_eq_true_eq] at hb e0; rw [if_neg e0, if_pos hb]; rfl
  | 2, _ => have e0 := e 0 (by omega); have e1 := e 1 (by omega); simp only [ruleB, decide_eq_true_eq] at hb e0 e1; rw [if_neg e0, if_neg e1, if_pos hb]; rfl
  | 3, _ => have e0 := e 0 (by omega); have e1 := e 1 (by omega); have e2 := e 2 (by omega); simp only [ruleB, decide_eq_true_eq] at hb e0 e1 e2; rw [if_neg e0, if_neg e1, if_neg e2, if_pos hb]; rfl
  | 4, _ => have e0 := e 0 (by omega); have e1 := e 1 (by omega); have e2 := e 2 (by omega); have e3 := e 3 (by omega); simp only [ruleB, decide_eq_true_eq] at hb e0 e1 e2 e3; rw [if_neg e0, if_neg e1, if_neg e2, if_neg e3, if_pos hb]; rfl
theorem why_none (f : Fl) (most : Int) (h : ∀ j, j < 5 → ruleB f most j = false) : why f most = 1 := by
  have e : ∀ j, j < 5 → ¬ ruleB f most j = true := fun j hj => by rw [h j hj]; exact Bool.false_ne_true
  have e0 := e 0 (by omega); have e1 := e 1 (by omega); have e2 := e 2 (by omega); have e3 := e 3 (by omega); have e4 := e 4 (by omega)
  simp only [ruleB, decide_eq_true_eq] at e0 e1 e2 e3 e4
  unfold why
  rw [if_neg e0, if_neg e1, if_neg e2, if_neg e3, if_neg e4]
set_option maxRecDepth 8000 in
set_option maxHeartbeats 1000000 in
theorem reason_m (f : Fl) (most : Int) : Meets Try.prog 27 [f.pv, .i most] [] (Ret (.i (why f most))) := by
  refine meets tbOk mixed Try.func27 pl27 rfl rfl ?_
  simp [Try.ntmps27]
  refine rules_m.mono ?_
  rintro _ rfl
  simp
  refine vc_loop (fun n σ => ∃ k : Nat, n = 9 - k ∧ k ≤ 5 ∧ (∀ j, j < k → ruleB f most j = false) ∧ σ = ⟨21, [(9, .i k), (8, .i 5), (7, .d (.sl 2 rl)), (2, .ptr 2 0), (1, .i most)], [(2, .box 30 [.i f.phase, .i f.status, .i f.tries, .i f.sent, .b f.idem])]⟩) ?_ ?_
  · exact ⟨_, _, ⟨0, rfl, Nat.zero_le _, by simp, rfl⟩, [], _, rfl, by simp⟩
  rintro n σ ⟨k, rfl, hk, hn, rfl⟩
  by_cases hk0 : k = 0
  · subst hk0
    simp
    have hm : Meets Try.prog 46 [f.pv, .i most] [] (Ret (.b (ruleB f most 0))) := rule1_m f most
    refine hm.mono ?_
    rintro _ rfl
    by_cases hb : ruleB f most 0 = true
    · have hw := why_at f most (show 0 < 5 by omega) hn hb
      simp [hb]
      refine vcRet_of [] ?_ rfl
      simp [hw]
    · have hb' := hb
      simp only [Bool.not_eq_true] at hb'
      have w := IntWalk.i64_in 1 (by omega)
      simp [hb', w]
      refine ⟨_, ?_, _, ⟨1, rfl, by omega, fun j hj => ?_, rfl⟩, [], _, rfl, by simp⟩
      · omega
      · by_cases hj' : j = 0
        · subst hj'; exact hb'
        · exact hn j (by omega)
  by_cases hk1 : k = 1
  · subst hk1
    simp
    have hm : Meets Try.prog 47 [f.pv, .i most] [] (Ret (.b (ruleB f most 1))) := rule2_m f most
    refine hm.mono ?_
    rintro _ rfl
    by_cases hb : ruleB f most 1 = true
    · have hw := why_at f most (show 1 < 5 by omega) hn hb
      simp [hb]
      refine vcRet_of [] ?_ rfl
      simp [hw]
    · have hb' := hb
      simp only [Bool.not_eq_true] at hb'
      have w := IntWalk.i64_in 2 (by omega)
      simp [hb', w]
      refine ⟨_, ?_, _, ⟨2, rfl, by omega, fun j hj => ?_, rfl⟩, [], _, rfl, by simp⟩
      · omega
      · by_cases hj' : j = 1
        · subst hj'; exact hb'
        · exact hn j (by omega)
  by_cases hk2 : k = 2
  · subst hk2
    simp
    have hm : Meets Try.prog 48 [f.pv, .i most] [] (Ret (.b (ruleB f most 2))) := rule3_m f most
    refine hm.mono ?_
    rintro _ rfl
    by_cases hb : ruleB f most 2 = true
    · have hw := why_at f most (show 2 < 5 by omega) hn hb
      simp [hb]
      refine vcRet_of [] ?_ rfl
      simp [hw]
    · have hb' := hb
      simp only [Bool.not_eq_true] at hb'
      have w := IntWalk.i64_in 3 (by omega)
      simp [hb', w]
      refine ⟨_, ?_, _, ⟨3, rfl, by omega, fun j hj => ?_, rfl⟩, [], _, rfl, by simp⟩
      · omega
      · by_cases hj' : j = 2
        · subst hj'; exact hb'
        · exact hn j (by omega)
  by_cases hk3 : k = 3
  · subst hk3
    simp
    have hm : Meets Try.prog 50 [f.pv, .i most] [] (Ret (.b (ruleB f most 3))) := rule4_m f most
    refine hm.mono ?_
    rintro _ rfl
    by_cases hb : ruleB f most 3 = true
    · have hw := why_at f most (show 3 < 5 by omega) hn hb
      simp [hb]
      refine vcRet_of [] ?_ rfl
      simp [hw]
    · have hb' := hb
      simp only [Bool.not_eq_true] at hb'
      have w := IntWalk.i64_in 4 (by omega)
      simp [hb', w]
      refine ⟨_, ?_, _, ⟨4, rfl, by omega, fun j hj => ?_, rfl⟩, [], _, rfl, by simp⟩
      · omega
      · by_cases hj' : j = 3
        · subst hj'; exact hb'
        · exact hn j (by omega)
  by_cases hk4 : k = 4
  · subst hk4
    simp
    have hm : Meets Try.prog 51 [f.pv, .i most] [] (Ret (.b (ruleB f most 4))) := rule5_m f most
    refine hm.mono ?_
    rintro _ rfl
    by_cases hb : ruleB f most 4 = true
    · have hw := why_at f most (show 4 < 5 by omega) hn hb
      simp [hb]
      refine vcRet_of [] ?_ rfl
      simp [hw]
    · have hb' := hb
      simp only [Bool.not_eq_true] at hb'
      have w := IntWalk.i64_in 5 (by omega)
      simp [hb', w]
      refine ⟨_, ?_, _, ⟨5, rfl, by omega, fun j hj => ?_, rfl⟩, [], _, rfl, by simp⟩
      · omega
      · by_cases hj' : j = 4
        · subst hj'; exact hb'
        · exact hn j (by omega)
  obtain rfl : k = 5 := by omega
  simp
  refine vcRet_of [] ?_ rfl
  simp [why_none f most hn]
theorem may_m (f : Fl) (most : Int) : Meets Try.prog 12 [f.pv, .i most] [] (Ret (.tup [.b (may f most).1, .i (may f most).2.1, .i (may f most).2.2])) := by
  refine meets tbOk mixed Try.func12 pl12 rfl rfl ?_
  simp [Try.ntmps12]
  refine (outside_m most 0 99).mono ?_
  rintro _ rfl
  by_cases h1 : outs most 0 99 = true
  · simp [h1]
    refine vcRet_of [] ?_ rfl
    simp [may, h1]
  simp [h1]
  refine (bad_m f).mono ?_
  rintro _ rfl
  by_cases h2 : badF f = true
  · simp [h2]
    refine vcRet_of [] ?_ rfl
    simp [may, h1, h2]
  simp [h2]
  refine (reason_m f most).mono ?_
  rintro _ rfl
  simp
  refine vcRet_of [] ?_ rfl
  simp [may, h1, h2]
end Go.Proofs.Ytakmipccgpgfgaa
