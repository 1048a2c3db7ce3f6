/- The law HealthFlips. No condition. -/
import Derived.Test.YticgikpccbgjbaaK14
import Derived.Test.YticgikpccbgjbaaK13
import Derived.Test.YticgikpccbgjbaaK15
namespace Go.Proofs.Yticgikpccbgjbaa
open Go.RowKit

theorem stepR_keep {s : Hs} (h : Good s) {x : Ev} {t : Hs} {d : List Ch} (he : stepR s x = (t, d, 0)) : Good t := by
  by_cases h0 : (stepM s x).2.2 = 0
  · have := stepM_good h h0
    rw [← stepR_good h h0, he] at this
    exact this
  · rw [stepR_bad h h0] at he
    exact absurd (congrArg (fun r => r.2.2) he) h0
/-- Between two checks of a backend: it is due next at a time that has not come, and no check is under way. -/
structure Fl (c : Cf) (k : Nat) (at_ : Int) (s : Hs) (b : Bk) : Prop where
  good : Good s
  c : s.c = c
  quiet : quiet s.bs
  hb : s.bs[k]? = some b
  next : b.next = at_
  now : s.now ≤ at_
theorem quiet_set {bs : List Bk} (h : quiet bs) {k : Nat} {y : Bk} (hy : y.probe = 0) : quiet (bs.set k y) := fun j z hz => by
  by_cases hj : j = k
  · subst hj
    have hl := lt_some hz
    rw [List.length_set] at hl
    rw [List.getElem?_set_self hl] at hz
    cases hz
    exact hy
  · rw [List.getElem?_set_ne (fun e => hj e.symm)] at hz
    exact h j z hz
/-- The check that has begun at its time. -/
def runB (c : Cf) (b : Bk) (at_ id : Int) : Bk := ⟨b.up, b.run, at_ + c.iv, id, at_⟩
theorem fl_tick {c : Cf} {k : Nat} {at_ : Int} {s : Hs} {b : Bk} (h : Fl c k at_ s b) {t : Int} (h1 : s.now ≤ t) (h2 : t ≤ 1000000000000) (h3 : t ≤ at_) : stepR s ⟨1, t, 0, 0, false⟩ = (⟨c, t, s.bs⟩, [], 0) ∧ Fl c k at_ ⟨c, t, s.bs⟩ b := by
  have e : stepR s ⟨1, t, 0, 0, false⟩ = (⟨c, t, s.bs⟩, [], 0) := by rw [step_tick h.good h1 h2, tick_quiet h.quiet, h.c]
  exact ⟨e, ⟨stepR_keep h.good e, rfl, h.quiet, h.hb, h.next, h3⟩⟩
theorem fl_begin {c : Cf} {k : Nat} {at_ : Int} {s : Hs} {b : Bk} (h : Fl c k at_ s b) (hn : s.now = at_) {id : Int} (h1 : 1 ≤ id) (h2 : id ≤ 1000000000) :
    stepR s ⟨2, 0, k, id, false⟩ = (⟨c, at_, s.bs.set k (runB c b at_ id)⟩, [], 0) ∧ Good ⟨c, at_, s.bs.set k (runB c b at_ id)⟩ := by
  have hb : begB s b id = runB c b at_ id := by
    unfold begB runB
    rw [h.next, hn, Int.sub_self, Int.zero_ediv, Int.zero_mul, Int.zero_add, h.c]
  have e : stepR s ⟨2, 0, k, id, false⟩ = (⟨c, at_, s.bs.set k (runB c b at_ id)⟩, [], 0) := by
    rw [step_begin h.good h.quiet h.hb (by rw [h.next, hn]; exact Int.le_refl _) h1 h2, hb, h.c, hn]
  exact ⟨e, stepR_keep h.good e⟩
section
variable {c : Cf} {k : Nat} {at_ id : Int} {bs : List Bk} {b : Bk}
theorem run_at (hb : bs[k]? = some b) : (bs.set k (runB c b at_ id))[k]? = some (runB c b at_ id) := List.getElem?_set_self (lt_some hb)
theorem run_others (hq : quiet bs) : ∀ (j : Nat) (z : Bk), j ≠ k → (bs.set k (runB c b at_ id))[j]? = some z → z.probe = 0 := fun j z hj hz => by
  rw [List.getElem?_set_ne (fun e => hj e.symm)] at hz
  exact hq j z hz
theorem run_quiet (hq : quiet bs) (ok : Bool) : quiet (bs.set k (outB c (runB c b at_ id) ok)) := quiet_set hq (outB_probe ..)
theorem run_next (ok : Bool) : (outB c (runB c b at_ id) ok).next = at_ + c.iv := outB_next ..
/-- A check that ends. -/
theorem run_end (hg : Good ⟨c, at_, bs.set k (runB c b at_ id)⟩) (hb : bs[k]? = some b) (hq : quiet bs) (h1 : 1 ≤ id) (now : Int) (hg2 : Good ⟨c, now, bs.set k (runB c b at_ id)⟩) (hn : now ≤ at_ + c.iv) (ok : Bool) :
    stepR ⟨c, now, bs.set k (runB c b at_ id)⟩ ⟨3, 0, 0, id, ok⟩ = (⟨c, now, bs.set k (outB c (runB c b at_ id) ok)⟩, outL c (runB c b at_ id) k ok now, 0) ∧ Fl c k (at_ + c.iv) ⟨c, now, bs.set k (outB c (runB c b at_ id) ok)⟩ (outB c (runB c b at_ id) ok) := by
  have e : stepR ⟨c, now, bs.set k (runB c b at_ id)⟩ ⟨3, 0, 0, id, ok⟩ = (⟨c, now, bs.set k (outB c (runB c b at_ id) ok)⟩, outL c (runB c b at_ id) k ok now, 0) := by
    have h := step_end hg2 (run_at hb) (show id ≠ 0 by omega) (run_others hq) ok
    rw [List.set_set] at h
    exact h
  exact ⟨e, ⟨stepR_keep hg2 e, rfl, run_quiet hq ok, List.getElem?_set_self (lt_some hb), run_next ok, hn⟩⟩
/-- A check that is late. -/
theorem run_late (hg : Good ⟨c, at_, bs.set k (runB c b at_ id)⟩) (hb : bs[k]? = some b) (hq : quiet bs) (h1 : 1 ≤ id) {t : Int} (h2 : at_ ≤ t) (h3 : t ≤ 1000000000000) (h4 : at_ + c.tm ≤ t) (h5 : t ≤ at_ + c.iv) :
    stepR ⟨c, at_, bs.set k (runB c b at_ id)⟩ ⟨1, t, 0, 0, false⟩ = (⟨c, t, bs.set k (outB c (runB c b at_ id) false)⟩, outL c (runB c b at_ id) k false (at_ + c.tm), 0) ∧ Fl c k (at_ + c.iv) ⟨c, t, bs.set k (outB c (runB c b at_ id) false)⟩ (outB c (runB c b at_ id) false) := by
  have e : stepR ⟨c, at_, bs.set k (runB c b at_ id)⟩ ⟨1, t, 0, 0, false⟩ = (⟨c, t, bs.set k (outB c (runB c b at_ id) false)⟩, outL c (runB c b at_ id) k false (at_ + c.tm), 0) := by
    rw [step_tick hg h2 h3, tick_one (run_at hb) (show id ≠ 0 by omega) (run_others hq)]
    have h6 : (runB c b at_ id).began + (⟨c, at_, bs.set k (runB c b at_ id)⟩ : Hs).c.tm ≤ t := h4
    rw [if_pos h6]
    show ((⟨c, t, (bs.set k _).set k _⟩ : Hs), _, (0 : Int)) = _
    rw [List.set_set]
    rfl
  exact ⟨e, ⟨stepR_keep hg e, rfl, run_quiet hq false, List.getElem?_set_self (lt_some hb), run_next false, h5⟩⟩
/-- A check that is under way still. -/
theorem run_wait (hg : Good ⟨c, at_, bs.set k (runB c b at_ id)⟩) (hb : bs[k]? = some b) (hq : quiet bs) (h1 : 1 ≤ id) {t : Int} (h2 : at_ ≤ t) (h3 : t ≤ 1000000000000) (h4 : ¬ at_ + c.tm ≤ t) :
    stepR ⟨c, at_, bs.set k (runB c b at_ id)⟩ ⟨1, t, 0, 0, false⟩ = (⟨c, t, bs.set k (runB c b at_ id)⟩, [], 0) := by
  rw [step_tick hg h2 h3, tick_one (run_at hb) (show id ≠ 0 by omega) (run_others hq)]
  have h6 : ¬ (runB c b at_ id).began + (⟨c, at_, bs.set k (runB c b at_ id)⟩ : Hs).c.tm ≤ t := h4
  rw [if_neg h6]
end

theorem lim_pos {c : Cf} (h : validC c = true) (up : Bool) : 1 ≤ lim c up := (lim_le h up).1
set_option maxRecDepth 100000 in
set_option maxHeartbeats 32000000 in
theorem flips_m (c : Cf) (up : Bool) (l : List Oc) : Meets Try.prog 5 [c.pv, .b up, .d (.sl 2 (l.map Oc.ds))] [] (Ret (.b true)) := by
  refine meetsH [] tbOk mixed Try.func5 pl5 rfl rfl ?_
  simp [Try.ntmps5]
  refine (new_m c up).mono ?_
  rintro _ rfl
  cases hv : validC c
  · have e : newR c up = (Hs.zero, 7) := by simp [newR, hv]
    rw [e]
    simp
    refine shown_m.mono ?_
    rintro _ rfl
    simp
    exact vcRet_of [] (by simp) rfl
  have e : newR c up = (new c up, 0) := by simp [newR, hv]
  rw [e]
  by_cases h100 : (100 : Int) < l.length
  · simp [h100]
    refine shown_m.mono ?_
    rintro _ rfl
    simp
    exact vcRet_of [] (by simp) rfl
  obtain ⟨hn, hiv, htm, _, _⟩ := validC_iff.1 hv
  obtain ⟨g1, g2, g3⟩ := new_good hv up
  have hf0 : fst c 0 = 0 := by simp [fst]
  simp [h100]
  refine vc_loop (fun n σ => ∃ (i : Nat) (s : Hs) (b : Bk), n = l.length - i ∧ i ≤ l.length ∧ Fl c 0 ((i : Int) * c.iv) s b ∧ σ = ⟨182, [(11, .i i), (10, .i b.run), (9, .b b.up), (2, .d (.sl 2 (l.map Oc.ds))), (3, .ptr 3 0), (7, .ptr 7 0)], [(3, .box 23 c.ps), (7, .box 26 s.ps)]⟩) ?_ ?_
  · refine ⟨_, _, ⟨0, new c up, ⟨up, 0, fst c 0, 0, 0⟩, rfl, Nat.zero_le _, ⟨g1, rfl, g2, g3 0 (by omega), by rw [hf0]; simp, by simp [new]⟩, rfl⟩, [], _, rfl, by simp⟩
  rintro n σ ⟨i, s, b, rfl, hi, hF, rfl⟩
  by_cases hlt : i < l.length
  case neg =>
    simp [hlt]
    refine shown_m.mono ?_
    rintro _ rfl
    simp
    exact vcRet_of [] (by simp) rfl
  obtain ⟨o, ho, eo⟩ := at_lt hlt
  have w := wrap_succ hlt (by omega)
  have hN0 : 0 ≤ (i : Int) * c.iv := Int.mul_nonneg (by omega) (by omega)
  have hN1 : (i : Int) * c.iv ≤ 100 * 1000000 := Int.mul_le_mul (by omega) (by omega) (by omega) (by omega)
  have hN2 : ((i + 1 : Nat) : Int) * c.iv = (i : Int) * c.iv + c.iv := by rw [Int.natCast_add, Int.add_mul]; simp
  have wN : IntKind.i64.wrap ((i : Int) * c.iv) = (i : Int) * c.iv := small_wrap (by omega)
  generalize hNe : (i : Int) * c.iv = N at *
  have hl16 := hF.good.fine.len
  obtain ⟨e1, hF1⟩ := fl_tick hF (t := N) hF.now (by omega) (Int.le_refl _)
  obtain ⟨e2, hg2⟩ := fl_begin hF1 rfl (id := (i : Int) + 1) (by omega) (by omega)
  have e2 : stepR ⟨c, N, s.bs⟩ ⟨2, 0, 0, (i : Int) + 1, false⟩ = (⟨c, N, s.bs.set 0 (runB c b N ((i : Int) + 1))⟩, [], 0) := e2
  have hbl : (s.bs.set 0 (runB c b N ((i : Int) + 1))).length < 4294967296 := by rw [List.length_set]; omega
  have hpos := hF.good.pos
  have hne : ¬ s.bs = [] := fun e => by rw [e] at hpos; simp at hpos
  have hp1 : ¬ ((s.bs.length : Int) < 1) := by omega
  have hp2 : 0 < s.bs.length := by omega
  simp [hlt, hNe, wN]
  refine (step_m s (by omega) ⟨1, N, 0, 0, false⟩).mono ?_
  rintro _ rfl
  rw [e1]
  simp
  simp [w]
  refine (step_m ⟨c, N, s.bs⟩ (show s.bs.length < _ by omega) ⟨2, 0, 0, (i : Int) + 1, false⟩).mono ?_
  rintro _ rfl
  rw [e2]
  have hlp := lim_pos hv b.up
  have hnum := hF.good.num 0 b hF.hb
  have h10 := (lim_le hv b.up).2
  rw [hF.c] at hnum
  have wr : IntKind.i64.wrap (b.run + 1) = b.run + 1 := small_wrap (by omega)
  by_cases hla : o.late = true
  · have w1 : IntKind.i64.wrap (N + c.iv) = N + c.iv := small_wrap (by omega)
    have w2 : IntKind.i64.wrap (N + c.iv - 1) = N + c.iv - 1 := small_wrap (by omega)
    have w3 : IntKind.i64.wrap (N + c.tm) = N + c.tm := small_wrap (by omega)
    obtain ⟨e3, hF3⟩ := run_late (bs := s.bs) (b := b) hg2 hF.hb hF.quiet (show 1 ≤ (i : Int) + 1 by omega) (t := N + c.iv - 1) (by omega) (by omega) (by omega) (by omega)
    simp [w, hlt, eo, hla, w1, w2, w3]
    refine ⟨by kernel_rfl, ?_⟩
    have hs := step_m ⟨c, N, s.bs.set 0 (runB c b N ((i : Int) + 1))⟩ hbl ⟨1, N + c.iv - 1, 0, 0, false⟩
    rw [e3] at hs
    by_cases hgm : false = b.up
    · have hy : outB c (runB c b N ((i : Int) + 1)) false = ⟨b.up, 0, N + c.iv, 0, 0⟩ := by unfold outB runB; rw [if_pos hgm]
      have hd : outL c (runB c b N ((i : Int) + 1)) 0 false (N + c.tm) = [] := by unfold outL runB; rw [if_pos hgm]
      rw [hy] at hs hF3
      rw [hd] at hs
      simp [runB] at hs
      refine hs.mono ?_
      rintro _ rfl
      by_cases hu : b.up = false
      · have hq : ¬ (0 = c.ri) := by rw [hu] at hlp; simp [lim] at hlp; omega
        have hgm2 : false = false := by rw [hgm, hu]
        simp [hp1, hu, hgm2, hq, hne]
        refine ((sameCh_m [] [] (by decide)).le (args := [.d (chl []), .d (.v (.slice none 0 0))]) (by simp)).mono ?_
        rintro _ rfl
        simp [hp2, w]
        refine ⟨_, ?_, _, ⟨i + 1, rfl, hlt, ⟨c, N + c.iv - 1, s.bs.set 0 ⟨false, 0, N + c.iv, 0, 0⟩⟩, ⟨false, 0, N + c.iv, 0, 0⟩, ?_, rfl⟩, [], _, rfl, by simp⟩
        · omega
        · rw [hN2]; rw [hu] at hF3; exact hF3
      · have hu : b.up = true := by simpa using hu
        have hq : ¬ (0 = c.fa) := by rw [hu] at hlp; simp [lim] at hlp; omega
        have hgm2 : false = true := by rw [hgm, hu]
        cases hgm2
    have h2 : ∀ u, b.up = u → false = !u := fun u hu => by cases hg : false <;> cases u <;> simp_all
    by_cases hlm : b.run + 1 = lim c b.up
    · have hy : outB c (runB c b N ((i : Int) + 1)) false = ⟨!b.up, 0, N + c.iv, 0, 0⟩ := by unfold outB runB; rw [if_neg hgm, if_pos hlm]
      have hd : outL c (runB c b N ((i : Int) + 1)) 0 false (N + c.tm) = [⟨0, !b.up, (N + c.tm)⟩] := by unfold outL runB; rw [if_neg hgm, if_pos hlm]; rfl
      rw [hy] at hs hF3
      rw [hd] at hs
      simp [runB] at hs
      refine hs.mono ?_
      rintro _ rfl
      by_cases hu : b.up = false
      · have hq : b.run + 1 = c.ri := by rw [hlm, hu]; simp [lim]
        have wq : IntKind.i64.wrap c.ri = c.ri := by rw [← hq]; exact wr
        have hgm2 : false = true := h2 _ hu
        cases hgm2
      · have hu : b.up = true := by simpa using hu
        have hq : b.run + 1 = c.fa := by rw [hlm, hu]; simp [lim]
        have wq : IntKind.i64.wrap c.fa = c.fa := by rw [← hq]; exact wr
        have hgm2 : false = false := h2 _ hu
        simp [hp1, hu, hgm2, wr, wq, hq, hne]
        refine (sameCh_m [⟨0, false, (N + c.tm)⟩] [⟨0, false, (N + c.tm)⟩] (by simp)).mono ?_
        rintro _ rfl
        simp [hp2, w]
        refine ⟨_, ?_, _, ⟨i + 1, rfl, hlt, ⟨c, N + c.iv - 1, s.bs.set 0 ⟨false, 0, N + c.iv, 0, 0⟩⟩, ⟨false, 0, N + c.iv, 0, 0⟩, ?_, rfl⟩, [], _, rfl, by simp⟩
        · omega
        · rw [hN2]; rw [hu] at hF3; exact hF3
    · have hy : outB c (runB c b N ((i : Int) + 1)) false = ⟨b.up, b.run + 1, N + c.iv, 0, 0⟩ := by unfold outB runB; rw [if_neg hgm, if_neg hlm]
      have hd : outL c (runB c b N ((i : Int) + 1)) 0 false (N + c.tm) = [] := by unfold outL runB; rw [if_neg hgm, if_neg hlm]
      rw [hy] at hs hF3
      rw [hd] at hs
      simp [runB] at hs
      refine hs.mono ?_
      rintro _ rfl
      by_cases hu : b.up = false
      · have hq : ¬ (b.run + 1 = c.ri) := by rw [hu] at hlm; simpa [lim] using hlm
        have hgm2 : false = true := h2 _ hu
        cases hgm2
      · have hu : b.up = true := by simpa using hu
        have hq : ¬ (b.run + 1 = c.fa) := by rw [hu] at hlm; simpa [lim] using hlm
        have hgm2 : false = false := h2 _ hu
        simp [hp1, hu, hgm2, wr, hq, hne]
        refine ((sameCh_m [] [] (by decide)).le (args := [.d (chl []), .d (.v (.slice none 0 0))]) (by simp)).mono ?_
        rintro _ rfl
        simp [hp2, w]
        refine ⟨_, ?_, _, ⟨i + 1, rfl, hlt, ⟨c, N + c.iv - 1, s.bs.set 0 ⟨true, b.run + 1, N + c.iv, 0, 0⟩⟩, ⟨true, b.run + 1, N + c.iv, 0, 0⟩, ?_, rfl⟩, [], _, rfl, by simp⟩
        · omega
        · rw [hN2]; rw [hu] at hF3; exact hF3
  · obtain ⟨e3, hF3⟩ := run_end (bs := s.bs) (b := b) hg2 hF.hb hF.quiet (show 1 ≤ (i : Int) + 1 by omega) N hg2 (by omega) o.good
    simp [w, hlt, eo, hla]
    refine ⟨by kernel_rfl, ?_⟩
    have hs := step_m ⟨c, N, s.bs.set 0 (runB c b N ((i : Int) + 1))⟩ hbl ⟨3, 0, 0, (i : Int) + 1, o.good⟩
    rw [e3] at hs
    by_cases hgm : o.good = b.up
    · have hy : outB c (runB c b N ((i : Int) + 1)) o.good = ⟨b.up, 0, N + c.iv, 0, 0⟩ := by unfold outB runB; rw [if_pos hgm]
      have hd : outL c (runB c b N ((i : Int) + 1)) 0 o.good N = [] := by unfold outL runB; rw [if_pos hgm]
      rw [hy] at hs hF3
      rw [hd] at hs
      simp [runB] at hs
      refine hs.mono ?_
      rintro _ rfl
      by_cases hu : b.up = false
      · have hq : ¬ (0 = c.ri) := by rw [hu] at hlp; simp [lim] at hlp; omega
        have hgm2 : o.good = false := by rw [hgm, hu]
        simp [hp1, hu, hgm2, hq, hne]
        refine ((sameCh_m [] [] (by decide)).le (args := [.d (chl []), .d (.v (.slice none 0 0))]) (by simp)).mono ?_
        rintro _ rfl
        simp [hp2, w]
        refine ⟨_, ?_, _, ⟨i + 1, rfl, hlt, ⟨c, N, s.bs.set 0 ⟨false, 0, N + c.iv, 0, 0⟩⟩, ⟨false, 0, N + c.iv, 0, 0⟩, ?_, rfl⟩, [], _, rfl, by simp⟩
        · omega
        · rw [hN2]; rw [hu] at hF3; exact hF3
      · have hu : b.up = true := by simpa using hu
        have hq : ¬ (0 = c.fa) := by rw [hu] at hlp; simp [lim] at hlp; omega
        have hgm2 : o.good = true := by rw [hgm, hu]
        simp [hp1, hu, hgm2, hq, hne]
        refine ((sameCh_m [] [] (by decide)).le (args := [.d (chl []), .d (.v (.slice none 0 0))]) (by simp)).mono ?_
        rintro _ rfl
        simp [hp2, w]
        refine ⟨_, ?_, _, ⟨i + 1, rfl, hlt, ⟨c, N, s.bs.set 0 ⟨true, 0, N + c.iv, 0, 0⟩⟩, ⟨true, 0, N + c.iv, 0, 0⟩, ?_, rfl⟩, [], _, rfl, by simp⟩
        · omega
        · rw [hN2]; rw [hu] at hF3; exact hF3
    have h2 : ∀ u, b.up = u → o.good = !u := fun u hu => by cases hg : o.good <;> cases u <;> simp_all
    by_cases hlm : b.run + 1 = lim c b.up
    · have hy : outB c (runB c b N ((i : Int) + 1)) o.good = ⟨!b.up, 0, N + c.iv, 0, 0⟩ := by unfold outB runB; rw [if_neg hgm, if_pos hlm]
      have hd : outL c (runB c b N ((i : Int) + 1)) 0 o.good N = [⟨0, !b.up, N⟩] := by unfold outL runB; rw [if_neg hgm, if_pos hlm]; rfl
      rw [hy] at hs hF3
      rw [hd] at hs
      simp [runB] at hs
      refine hs.mono ?_
      rintro _ rfl
      by_cases hu : b.up = false
      · have hq : b.run + 1 = c.ri := by rw [hlm, hu]; simp [lim]
        have wq : IntKind.i64.wrap c.ri = c.ri := by rw [← hq]; exact wr
        have hgm2 : o.good = true := h2 _ hu
        simp [hp1, hu, hgm2, wr, wq, hq, hne]
        refine (sameCh_m [⟨0, true, N⟩] [⟨0, true, N⟩] (by simp)).mono ?_
        rintro _ rfl
        simp [hp2, w]
        refine ⟨_, ?_, _, ⟨i + 1, rfl, hlt, ⟨c, N, s.bs.set 0 ⟨true, 0, N + c.iv, 0, 0⟩⟩, ⟨true, 0, N + c.iv, 0, 0⟩, ?_, rfl⟩, [], _, rfl, by simp⟩
        · omega
        · rw [hN2]; rw [hu] at hF3; exact hF3
      · have hu : b.up = true := by simpa using hu
        have hq : b.run + 1 = c.fa := by rw [hlm, hu]; simp [lim]
        have wq : IntKind.i64.wrap c.fa = c.fa := by rw [← hq]; exact wr
        have hgm2 : o.good = false := h2 _ hu
        simp [hp1, hu, hgm2, wr, wq, hq, hne]
        refine (sameCh_m [⟨0, false, N⟩] [⟨0, false, N⟩] (by simp)).mono ?_
        rintro _ rfl
        simp [hp2, w]
        refine ⟨_, ?_, _, ⟨i + 1, rfl, hlt, ⟨c, N, s.bs.set 0 ⟨false, 0, N + c.iv, 0, 0⟩⟩, ⟨false, 0, N + c.iv, 0, 0⟩, ?_, rfl⟩, [], _, rfl, by simp⟩
        · omega
        · rw [hN2]; rw [hu] at hF3; exact hF3
    · have hy : outB c (runB c b N ((i : Int) + 1)) o.good = ⟨b.up, b.run + 1, N + c.iv, 0, 0⟩ := by unfold outB runB; rw [if_neg hgm, if_neg hlm]
      have hd : outL c (runB c b N ((i : Int) + 1)) 0 o.good N = [] := by unfold outL runB; rw [if_neg hgm, if_neg hlm]
      rw [hy] at hs hF3
      rw [hd] at hs
      simp [runB] at hs
      refine hs.mono ?_
      rintro _ rfl
      by_cases hu : b.up = false
      · have hq : ¬ (b.run + 1 = c.ri) := by rw [hu] at hlm; simpa [lim] using hlm
        have hgm2 : o.good = true := h2 _ hu
        simp [hp1, hu, hgm2, wr, hq, hne]
        refine ((sameCh_m [] [] (by decide)).le (args := [.d (chl []), .d (.v (.slice none 0 0))]) (by simp)).mono ?_
        rintro _ rfl
        simp [hp2, w]
        refine ⟨_, ?_, _, ⟨i + 1, rfl, hlt, ⟨c, N, s.bs.set 0 ⟨false, b.run + 1, N + c.iv, 0, 0⟩⟩, ⟨false, b.run + 1, N + c.iv, 0, 0⟩, ?_, rfl⟩, [], _, rfl, by simp⟩
        · omega
        · rw [hN2]; rw [hu] at hF3; exact hF3
      · have hu : b.up = true := by simpa using hu
        have hq : ¬ (b.run + 1 = c.fa) := by rw [hu] at hlm; simpa [lim] using hlm
        have hgm2 : o.good = false := h2 _ hu
        simp [hp1, hu, hgm2, wr, hq, hne]
        refine ((sameCh_m [] [] (by decide)).le (args := [.d (chl []), .d (.v (.slice none 0 0))]) (by simp)).mono ?_
        rintro _ rfl
        simp [hp2, w]
        refine ⟨_, ?_, _, ⟨i + 1, rfl, hlt, ⟨c, N, s.bs.set 0 ⟨true, b.run + 1, N + c.iv, 0, 0⟩⟩, ⟨true, b.run + 1, N + c.iv, 0, 0⟩, ?_, rfl⟩, [], _, rfl, by simp⟩
        · omega
        · rw [hN2]; rw [hu] at hF3; exact hF3
end Go.Proofs.Yticgikpccbgjbaa
