/- Plain laws and the laws HealthTicks and HealthApart. No condition. -/
import Derived.Test.YticgikpccbgjbaaK12
import Derived.Test.YticgikpccbgjbaaK13
namespace Go.Proofs.Yticgikpccbgjbaa
open Go.RowKit

theorem Good.pos {s : Hs} (h : Good s) : 1 ≤ s.bs.length := by
  have := h.fine.l
  have := (validC_iff.1 h.fine.c).1
  omega
theorem ev_tick {s : Hs} (h : Good s) {t : Int} (h0 : 0 ≤ t) (h1 : t ≤ 1000000000000) : ev ⟨1, t, 0, 0, false⟩ s.bs.length = 0 := by
  have hn := h.pos
  have hne : ¬ s.bs = [] := fun e => by rw [e] at hn; simp at hn
  have e1 : argBad ⟨1, t, 0, 0, false⟩ = false := by simp [argBad]
  have e2 : rangeBad ⟨1, t, 0, 0, false⟩ (s.bs.length : Int) = false := by simp [rangeBad, hne]; omega
  simp [ev, e1, e2]
theorem stepR_good {s : Hs} (h : Good s) {x : Ev} (he : (stepM s x).2.2 = 0) : stepR s x = stepM s x := by rw [stepR, if_neg (by simp [good_chk h]), if_neg (by simp [he])]
theorem stepR_bad {s : Hs} (h : Good s) {x : Ev} (he : (stepM s x).2.2 ≠ 0) : stepR s x = (Hs.zero, [], (stepM s x).2.2) := by rw [stepR, if_neg (by simp [good_chk h]), if_pos he]
theorem stepM_tick {s : Hs} (h : Good s) {t : Int} (h0 : s.now ≤ t) (h1 : t ≤ 1000000000000) : stepM s ⟨1, t, 0, 0, false⟩ = ((tickR s t).1, (tickR s t).2, 0) := by
  have hn := h.fine.n0
  rw [stepM, if_neg (by simp [ev_tick h (show 0 ≤ t by omega) h1]), stepK, if_pos rfl, if_neg (by show ¬ t < s.now; omega)]
theorem step_tick {s : Hs} (h : Good s) {t : Int} (h0 : s.now ≤ t) (h1 : t ≤ 1000000000000) : stepR s ⟨1, t, 0, 0, false⟩ = ((tickR s t).1, (tickR s t).2, 0) := by
  rw [stepR_good h (by rw [stepM_tick h h0 h1]), stepM_tick h h0 h1]
theorem outF_append (c : Cf) : ∀ (L L' : List Int) (bs : List Bk), outF c (L ++ L') bs = ((outF c L' (outF c L bs).1).1, (outF c L bs).2 ++ (outF c L' (outF c L bs).1).2)
  | [], L', bs => by simp [outF]
  | f :: L, L', bs => by
    rw [List.cons_append, outF, outF_append c L L', outF]
    simp
theorem tick_of {s : Hs} {t : Int} {L : List Int} (h : LateOk s.c t s.bs L) : tickR s t = (⟨s.c, t, (outF s.c L s.bs).1⟩, (outF s.c L s.bs).2) := tick_same (c := s.c) (t := s.now) (busy s.bs) s.bs L h (Nat.le_refl _)
/-- Two ticks are the second one alone. -/
theorem tick_tick (s : Hs) {t1 t2 : Int} (h : t1 ≤ t2) : (tickR (tickR s t1).1 t2).1 = (tickR s t2).1 ∧ (tickR s t1).2 ++ (tickR (tickR s t1).1 t2).2 = (tickR s t2).2 := by
  have h1 := lateS_ok s t1
  have hat := outF_at s.c t1 (lateS s t1) s.bs h1
  rw [tickR_eq s t1]
  have h2 := lateS_ok ⟨s.c, t1, (outF s.c (lateS s t1) s.bs).1⟩ t2
  rw [tickR_eq ⟨s.c, t1, (outF s.c (lateS s t1) s.bs).1⟩ t2]
  generalize lateS s t1 = L1 at *
  generalize lateS ⟨s.c, t1, (outF s.c L1 s.bs).1⟩ t2 = L2 at *
  have h2 : LateOk s.c t2 (outF s.c L1 s.bs).1 L2 := h2
  have hsame : ∀ (i : Nat) (z : Bk), (outF s.c L1 s.bs).1[i]? = some z → lateB s.c t2 z = true → s.bs[i]? = some z ∧ lateB s.c t1 z = false := fun i z hz hl => by
    rw [hat i] at hz
    obtain ⟨b, hb, e⟩ := Option.map_eq_some_iff.1 hz
    by_cases hc : lateB s.c t1 b = true
    · rw [if_pos hc] at e
      subst e
      simp [lateB, outB_probe] at hl
    · rw [if_neg hc] at e
      subst e
      exact ⟨hb, by simpa using hc⟩
  have hbg : ∀ y ∈ L2, ∃ (i : Nat) (z : Bk), y = i ∧ s.bs[i]? = some z ∧ lateB s.c t1 z = false ∧ lateB s.c t2 z = true ∧ bgn (outF s.c L1 s.bs).1 y = z.began ∧ bgn s.bs y = z.began := fun y hy => by
    obtain ⟨i, z, rfl, hz, hl⟩ := (h2.mem y).1 hy
    obtain ⟨h3, h4⟩ := hsame i z hz hl
    exact ⟨i, z, rfl, h3, h4, hl, by simp [bgn, List.getD, hz], by simp [bgn, List.getD, h3]⟩
  have hL : LateOk s.c t2 s.bs (L1 ++ L2) := ⟨by
    rw [List.pairwise_append]
    refine ⟨h1.sorted, List.Pairwise.imp_of_mem ?_ h2.sorted, fun x hx y hy => ?_⟩
    · intro x y hx hy hxy
      obtain ⟨_, _, _, _, _, _, e1, e2⟩ := hbg x hx
      obtain ⟨_, _, _, _, _, _, e3, e4⟩ := hbg y hy
      unfold bf at hxy ⊢
      rw [e1, e3] at hxy
      rw [e2, e4]
      exact hxy
    · obtain ⟨i, z, rfl, hz, hl⟩ := (h1.mem x).1 hx
      obtain ⟨j, z', rfl, hz', hl1, hl2, _, e4⟩ := hbg y hy
      left
      rw [e4, show bgn s.bs (i : Int) = z.began by simp [bgn, List.getD, hz]]
      simp only [lateB, Bool.and_eq_true, decide_eq_true_eq, Bool.and_eq_false_iff, decide_eq_false_iff_not] at hl hl1 hl2
      rcases hl1 with hl1 | hl1
      · exact absurd hl2.1 hl1
      · omega, fun y => by
    rw [List.mem_append, h1.mem, h2.mem]
    constructor
    · rintro (⟨i, b, rfl, hb, hl⟩ | ⟨i, b, rfl, hb, hl⟩)
      · refine ⟨i, b, rfl, hb, ?_⟩
        simp only [lateB, Bool.and_eq_true, decide_eq_true_eq] at hl ⊢
        exact ⟨hl.1, by omega⟩
      · exact ⟨i, b, rfl, (hsame i b hb hl).1, hl⟩
    · rintro ⟨i, b, rfl, hb, hl⟩
      by_cases hc : lateB s.c t1 b = true
      · exact .inl ⟨i, b, rfl, hb, hc⟩
      · refine .inr ⟨i, b, rfl, ?_, hl⟩
        rw [hat i, hb]
        simp [hc]⟩
  rw [tick_of hL, outF_append]
  exact ⟨rfl, rfl⟩
/-- An event of one backend changes one record. -/
theorem apart {s : Hs} (h : Good s) {x : Ev} (hk : x.kind ≠ 1) (he : (stepM s x).2.2 = 0) : ∃ (i : Nat) (b y : Bk), s.bs[i]? = some b ∧ (stepM s x).1 = ⟨s.c, s.now, s.bs.set i y⟩ ∧ (x.kind ≠ 3 → x.bk = i) ∧ (x.kind = 3 → b.probe = x.id) ∧ (stepM s x).2.1.length ≤ 1 := by
  unfold stepM at he ⊢
  split
  · rename_i h1
    rw [if_pos h1] at he
    exact absurd he h1
  rename_i h1
  rw [if_neg h1] at he
  have h1 : ev x s.bs.length = 0 := by simpa using h1
  obtain ⟨n0, n1, b0, b1, hid⟩ := ev_range h1
  obtain ⟨j, hj⟩ : ∃ j : Nat, x.bk = j := ⟨x.bk.toNat, by omega⟩
  have hjl : j < s.bs.length := by omega
  obtain ⟨b, hb, _⟩ := at_lt hjl
  have tj : x.bk.toNat = j := by omega
  unfold stepK at he ⊢
  rw [if_neg hk] at he ⊢
  rw [tj, getD_some hb] at he ⊢
  split
  · rename_i k2
    rw [if_pos k2] at he
    split
    · rename_i h2; rw [if_pos h2] at he; cases he
    · rename_i h2
      rw [if_neg h2] at he
      split
      · rename_i h3; rw [if_pos h3] at he; cases he
      · exact ⟨j, b, _, hb, rfl, fun _ => hj, fun h3 => by omega, Nat.zero_le _⟩
  · rename_i k2
    rw [if_neg k2] at he
    split
    · rename_i k3
      rw [if_pos k3] at he
      split
      · rename_i h2; rw [if_pos h2] at he; cases he
      · rename_i hp
        rcases findP_range s.bs x.id with hq | ⟨i, y, hq, hy, hyp⟩
        · omega
        · rw [hq, Int.toNat_natCast, getD_some hy]
          exact ⟨i, y, _, hy, rfl, fun h3 => absurd k3 h3, fun _ => hyp, outL_len ..⟩
    · rename_i k3
      exact ⟨j, b, _, hb, rfl, fun _ => hj, fun h3 => absurd h3 k3, by show (markL ..).length ≤ 1; unfold markL; split <;> simp⟩
/-- No check is under way. -/
def quiet (bs : List Bk) : Prop := ∀ (k : Nat) (b : Bk), bs[k]? = some b → b.probe = 0
theorem tick_quiet {s : Hs} (h : quiet s.bs) (t : Int) : tickR s t = (⟨s.c, t, s.bs⟩, []) := by
  have hL : LateOk s.c t s.bs [] := ⟨List.Pairwise.nil, fun y => ⟨fun hy => (by cases hy), fun ⟨i, b, _, hb, hl⟩ => by simp [lateB, h i b hb] at hl⟩⟩
  rw [tick_of hL]
  rfl
/-- One check alone is under way. -/
theorem tick_one {s : Hs} {k : Nat} {b : Bk} (hb : s.bs[k]? = some b) (hp : b.probe ≠ 0) (ho : ∀ (j : Nat) (z : Bk), j ≠ k → s.bs[j]? = some z → z.probe = 0) (t : Int) :
    tickR s t = if b.began + s.c.tm ≤ t then (⟨s.c, t, s.bs.set k (outB s.c b false)⟩, outL s.c b k false (b.began + s.c.tm)) else (⟨s.c, t, s.bs⟩, []) := by
  split
  · rename_i ht
    have hL : LateOk s.c t s.bs [(k : Int)] := ⟨by simp, fun y => by
      rw [List.mem_singleton]
      constructor
      · rintro rfl
        exact ⟨k, b, rfl, hb, by simp [lateB, hp, ht]⟩
      · rintro ⟨i, z, rfl, hz, hl⟩
        by_cases hik : i = k
        · rw [hik]
        · simp [lateB, ho i z hik hz] at hl⟩
    rw [tick_of hL, outF, outF]
    simp only [Int.toNat_natCast, getD_some hb, List.append_nil]
  · rename_i ht
    have hno : ∀ (i : Nat) (z : Bk), s.bs[i]? = some z → lateB s.c t z = true → False := fun i z hz hl => by
      by_cases hik : i = k
      · subst hik
        rw [hb] at hz; cases hz
        simp [lateB] at hl
        exact ht hl.2
      · simp [lateB, ho i z hik hz] at hl
    have hL : LateOk s.c t s.bs [] := ⟨List.Pairwise.nil, fun y => ⟨fun hy => (by cases hy), fun ⟨i, z, _, hz, hl⟩ => (hno i z hz hl).elim⟩⟩
    rw [tick_of hL]
    rfl
theorem find_quiet {bs : List Bk} (h : quiet bs) {id : Int} (h0 : id ≠ 0) : findP bs id = -1 := find_miss fun i y _ hy e => h0 (by rw [← e, h i y hy])
theorem step_begin {s : Hs} (h : Good s) (hq : quiet s.bs) {k : Nat} {b : Bk} (hb : s.bs[k]? = some b) (hd : b.next ≤ s.now) {id : Int} (h1 : 1 ≤ id) (h2 : id ≤ 1000000000) : stepR s ⟨2, 0, k, id, false⟩ = (⟨s.c, s.now, s.bs.set k (begB s b id)⟩, [], 0) := by
  have hk := lt_some hb
  have e1 : argBad ⟨2, 0, k, id, false⟩ = false := by simp [argBad]
  have e2 : rangeBad ⟨2, 0, k, id, false⟩ (s.bs.length : Int) = false := by simp [rangeBad]; omega
  have he : ev ⟨2, 0, k, id, false⟩ s.bs.length = 0 := by simp [ev, e1, e2]
  have hp := hq k b hb
  have hM : stepM s ⟨2, 0, k, id, false⟩ = (⟨s.c, s.now, s.bs.set k (begB s b id)⟩, [], 0) := by
    rw [stepM, if_neg (by simp [he]), stepK, if_neg (by simp), if_pos rfl]
    simp [hb, dueB, hp, hd, find_quiet hq (show id ≠ 0 by omega)]
  rw [stepR_good h (by rw [hM]), hM]
/-- A check that is under way may not begin again. -/
theorem step_again {s : Hs} (h : Good s) {k : Nat} {b : Bk} (hb : s.bs[k]? = some b) (hp : b.probe ≠ 0) {id : Int} (h1 : 1 ≤ id) (h2 : id ≤ 1000000000) : stepR s ⟨2, 0, k, id, false⟩ = (Hs.zero, [], 9) := by
  have hk := lt_some hb
  have e1 : argBad ⟨2, 0, k, id, false⟩ = false := by simp [argBad]
  have e2 : rangeBad ⟨2, 0, k, id, false⟩ (s.bs.length : Int) = false := by simp [rangeBad]; omega
  have he : ev ⟨2, 0, k, id, false⟩ s.bs.length = 0 := by simp [ev, e1, e2]
  have hM : stepM s ⟨2, 0, k, id, false⟩ = (s, [], 9) := by
    rw [stepM, if_neg (by simp [he]), stepK, if_neg (by simp), if_pos rfl]
    simp [hb, dueB, hp]
  rw [stepR_bad h (by rw [hM]; simp), hM]
theorem step_end {s : Hs} (h : Good s) {k : Nat} {b : Bk} (hb : s.bs[k]? = some b) (hp : b.probe ≠ 0) (ho : ∀ (j : Nat) (z : Bk), j ≠ k → s.bs[j]? = some z → z.probe = 0) (ok : Bool) : stepR s ⟨3, 0, 0, b.probe, ok⟩ = (⟨s.c, s.now, s.bs.set k (outB s.c b ok)⟩, outL s.c b k ok s.now, 0) := by
  have hn := h.pos
  have hne : ¬ s.bs = [] := fun e => by rw [e] at hn; simp at hn
  have hb2 := (h.busy k b hb hp).1
  have e1 : argBad ⟨3, 0, 0, b.probe, ok⟩ = false := by simp [argBad]
  have e2 : rangeBad ⟨3, 0, 0, b.probe, ok⟩ (s.bs.length : Int) = false := by simp [rangeBad, hne]; omega
  have he : ev ⟨3, 0, 0, b.probe, ok⟩ s.bs.length = 0 := by simp [ev, e1, e2]
  have hf : findP s.bs b.probe = k := find_hit hb rfl fun i y hi hy e => hp (by rw [← e]; exact ho i y (by omega) hy)
  have hM : stepM s ⟨3, 0, 0, b.probe, ok⟩ = (⟨s.c, s.now, s.bs.set k (outB s.c b ok)⟩, outL s.c b k ok s.now, 0) := by
    rw [stepM, if_neg (by simp [he]), stepK, if_neg (by simp), if_neg (by simp), if_pos rfl]
    have h0 : ¬ ((k : Int) < 0) := by omega
    simp [hf, hb, h0]
  rw [stepR_good h (by rw [hM]), hM]
theorem step_none {s : Hs} (h : Good s) (hq : quiet s.bs) {id : Int} (h1 : 1 ≤ id) (h2 : id ≤ 1000000000) (ok : Bool) : stepR s ⟨3, 0, 0, id, ok⟩ = (Hs.zero, [], 4) := by
  have hn := h.pos
  have hne : ¬ s.bs = [] := fun e => by rw [e] at hn; simp at hn
  have e1 : argBad ⟨3, 0, 0, id, ok⟩ = false := by simp [argBad]
  have e2 : rangeBad ⟨3, 0, 0, id, ok⟩ (s.bs.length : Int) = false := by simp [rangeBad, hne]; omega
  have he : ev ⟨3, 0, 0, id, ok⟩ s.bs.length = 0 := by simp [ev, e1, e2]
  have hM : stepM s ⟨3, 0, 0, id, ok⟩ = (s, [], 4) := by
    rw [stepM, if_neg (by simp [he]), stepK, if_neg (by simp), if_neg (by simp), if_pos rfl]
    simp [find_quiet hq (show id ≠ 0 by omega)]
  rw [stepR_bad h (by rw [hM]; simp), hM]
/-- A new state. -/
theorem new_good {c : Cf} (h : validC c = true) (up : Bool) : Good (new c up) ∧ quiet (new c up).bs ∧ ∀ (k : Nat), (k : Int) < c.n → (new c up).bs[k]? = some ⟨up, 0, fst c k, 0, 0⟩ := by
  have hn := (validC_iff.1 h).1
  have hiv := (validC_iff.1 h).2.1
  have hl : (new c up).bs.length = c.n.toNat := news_len ..
  have hat : ∀ (k : Nat) (b : Bk), (new c up).bs[k]? = some b → b = ⟨up, 0, fst c k, 0, 0⟩ ∧ (k : Int) < c.n := fun k b hb => by
    have hk := lt_some hb
    rw [hl] at hk
    have hb : ((List.range c.n.toNat).map fun i : Nat => (⟨up, 0, fst c i, 0, 0⟩ : Bk))[k]? = some b := hb
    rw [List.getElem?_map, List.getElem?_range hk] at hb
    exact ⟨(Option.some.inj hb).symm, by omega⟩
  have h10 := lim_le h up
  refine ⟨⟨⟨h, Int.le_refl _, by show (0 : Int) ≤ _; omega, by rw [hl]; show (c.n.toNat : Int) = c.n; omega⟩, fun k b hb => ?_, fun k b hb _ => ?_, fun k b hb h0 => ?_, fun i j bi bj hi hj hij h0 _ => ?_⟩, fun k b hb => ?_, fun k hk => ?_⟩
  · obtain ⟨rfl, hk⟩ := hat k b hb
    refine ⟨Int.le_refl _, by show 0 < lim c up; omega, Int.le_refl _, by have := fst_le h (i := k) (by omega); show fst c k ≤ 0 + c.iv; omega, by show (fst c k - fst c k) % c.iv = 0; rw [Int.sub_self, Int.zero_emod]⟩
  · rw [(hat k b hb).1]
  · exact absurd (by rw [(hat k b hb).1]) h0
  · exact absurd (by rw [(hat j bj hj).1]) h0
  · rw [(hat k b hb).1]
  · show ((List.range c.n.toNat).map fun i : Nat => (⟨up, 0, fst c i, 0, 0⟩ : Bk))[k]? = _
    rw [List.getElem?_map, List.getElem?_range (by omega)]
    rfl

set_option maxRecDepth 100000 in
set_option maxHeartbeats 8000000 in
theorem ticks_m (s : Hs) (t1 t2 : Int) : Meets Try.prog 6 [s.pv, .i t1, .i t2] [] (Ret (.b true)) := by
  refine meetsH [] tbOk mixed Try.func6 pl6 rfl rfl ?_
  by_cases h1 : (30 : Int) < s.bs.length
  · simp [Try.ntmps6, h1]
    refine shown_m.mono ?_
    rintro _ rfl
    simp
    exact vcRet_of [] (by simp) rfl
  have hl : s.bs.length < 4294967296 := by omega
  simp [Try.ntmps6, h1]
  refine (check_m s hl).mono ?_
  rintro _ rfl
  by_cases hc : chk s = 0
  case neg =>
    simp [hc]
    refine shown_m.mono ?_
    rintro _ rfl
    simp
    exact vcRet_of [] (by simp) rfl
  by_cases h2 : t1 < s.now
  · simp [hc, h2]
    refine shown_m.mono ?_
    rintro _ rfl
    simp
    exact vcRet_of [] (by simp) rfl
  by_cases h3 : t2 < t1
  · simp [hc, h2, h3]
    refine shown_m.mono ?_
    rintro _ rfl
    simp
    exact vcRet_of [] (by simp) rfl
  by_cases h4 : 1000000000000 < t2
  · simp [hc, h2, h3, h4]
    refine shown_m.mono ?_
    rintro _ rfl
    simp
    exact vcRet_of [] (by simp) rfl
  have hg := chk_good hc
  have hn0 := hg.fine.n0
  have e1 := step_tick hg (t := t1) (by omega) (by omega)
  have hg1 : Good (tickR s t1).1 := tick_good hg (by omega) (by omega)
  have hnow : (tickR s t1).1.now = t1 := by rw [tickR_eq]
  have e2 := step_tick hg1 (t := t2) (by rw [hnow]; omega) (by omega)
  have e3 := step_tick hg (t := t2) (by omega) (by omega)
  obtain ⟨k1, k2⟩ := tick_tick s (t1 := t1) (t2 := t2) (by omega)
  have hc1 := (stepR_ok s ⟨1, t1, 0, 0, false⟩).2
  have hc2 := (stepR_ok (tickR s t1).1 ⟨1, t2, 0, 0, false⟩).2
  have hc3 := (stepR_ok s ⟨1, t2, 0, 0, false⟩)
  rw [e1] at hc1
  rw [e2] at hc2
  rw [e3] at hc3
  have hl1 := hg1.fine.len
  have hnow3 : (tickR s t2).1.now = t2 := by rw [tickR_eq]
  simp only at hc1 hc2 hc3
  simp [hc, h2, h3, h4]
  refine (step_m s hl ⟨1, t1, 0, 0, false⟩).mono ?_
  rintro _ rfl
  rw [e1]
  simp
  refine (step_m (tickR s t1).1 (by omega) ⟨1, t2, 0, 0, false⟩).mono ?_
  rintro _ rfl
  rw [e2, k1]
  simp
  refine (step_m s hl ⟨1, t2, 0, 0, false⟩).mono ?_
  rintro _ rfl
  rw [e3]
  simp
  refine (same_m (tickR s t2).1 (tickR s t2).1 (by omega)).mono ?_
  rintro _ rfl
  simp
  refine ⟨by omega, by omega, ?_⟩
  have k3 : (tickR s t1).2.map Ch.ds ++ (tickR (tickR s t1).1 t2).2.map Ch.ds = (tickR s t2).2.map Ch.ds := by rw [← List.map_append, k2]
  have k4 : (tickR s t1).2.length + (tickR (tickR s t1).1 t2).2.length = (tickR s t2).2.length := by rw [← List.length_append, k2]
  have k5 : List.take ((tickR s t1).2.length + (tickR (tickR s t1).1 t2).2.length) ((tickR s t2).2.map Ch.ds) = (tickR s t2).2.map Ch.ds := by rw [k4]; exact List.take_of_length_le (by simp)
  rw [k3, k5]
  refine (sameCh_m (tickR s t2).2 (tickR s t2).2 (by omega)).mono ?_
  rintro _ rfl
  simp [hnow3]
  refine shown_m.mono ?_
  rintro _ rfl
  simp
  exact vcRet_of [] (by simp) rfl
set_option maxRecDepth 100000 in
set_option maxHeartbeats 8000000 in
theorem apart_m (s : Hs) (x : Ev) : Meets Try.prog 7 [s.pv, x.pv] [] (Ret (.b true)) := by
  refine meetsH [] tbOk mixed Try.func7 pl7 rfl rfl ?_
  by_cases h1 : (30 : Int) < s.bs.length
  · simp [Try.ntmps7, h1]
    refine shown_m.mono ?_
    rintro _ rfl
    simp
    exact vcRet_of [] (by simp) rfl
  have hl : s.bs.length < 4294967296 := by omega
  by_cases h2 : x.kind = 1
  · simp [Try.ntmps7, h1, h2]
    refine shown_m.mono ?_
    rintro _ rfl
    simp
    exact vcRet_of [] (by simp) rfl
  simp [Try.ntmps7, h1, h2]
  refine (step_m s hl x).mono ?_
  rintro _ rfl
  by_cases he : (stepR s x).2.2 = 0
  case neg =>
    have hz : (stepR s x).1 = Hs.zero ∧ (stepR s x).2.1 = [] := by
      unfold stepR at he ⊢
      split
      · exact ⟨rfl, rfl⟩
      · split
        · exact ⟨rfl, rfl⟩
        · rename_i h3 h4
          rw [if_neg h3, if_neg h4] at he
          exact absurd he h4
    simp [he, hz.1, hz.2]
    refine shown_m.mono ?_
    rintro _ rfl
    simp
    exact vcRet_of [] (by simp) rfl
  have hc : chk s = 0 := by
    by_cases hc : chk s = 0
    · exact hc
    · rw [stepR, if_pos hc] at he; exact absurd he hc
  have hg := chk_good hc
  have heM : (stepM s x).2.2 = 0 := by
    by_cases hm : (stepM s x).2.2 = 0
    · exact hm
    · rw [stepR_bad hg hm] at he; exact absurd he hm
  have eS := stepR_good hg heM
  obtain ⟨i, b, y, hb, hst, a1, a2, a3⟩ := apart hg h2 heM
  have hgT := stepM_good hg heM
  have hcT := good_chk hgT
  rw [hst] at hcT
  have e1 : (stepR s x).1 = ⟨s.c, s.now, s.bs.set i y⟩ := by rw [eS, hst]
  have e2 : (stepR s x).2.1 = (stepM s x).2.1 := by rw [eS]
  have h3 : ¬ (1 : Int) < (stepM s x).2.1.length := by omega
  rw [e1, e2]
  have hcl := (stepM_chs hg x)
  generalize (stepM s x).2.1 = cs at *
  simp [he]
  have hm := check_m ⟨s.c, s.now, s.bs.set i y⟩ (by simpa using hl)
  simp at hm
  refine hm.mono ?_
  rintro _ rfl
  rw [hcT]
  simp [h3]
  have hil := lt_some hb
  refine vc_loop (fun n σ => ∃ (k T : Nat), n = s.bs.length - k ∧ k ≤ s.bs.length ∧ T ≤ (if i < k then 1 else 0) ∧ σ = ⟨115, [(9, .i k), (8, .i T), (2, .ptr 2 0), (3, .ptr 3 0), (5, .ptr 5 0)], [(2, .box 26 s.ps), (3, .box 37 x.ps), (5, .box 26 (⟨s.c, s.now, s.bs.set i y⟩ : Hs).ps)]⟩) ?_ ?_
  · exact ⟨_, _, ⟨0, 0, rfl, Nat.zero_le _, Nat.zero_le _, rfl⟩, [], _, rfl, by simp⟩
  rintro n σ ⟨k, T, rfl, hk, hT, rfl⟩
  by_cases hlt : k < s.bs.length
  · obtain ⟨z, hz, ez⟩ := at_lt hlt
    have w := wrap_succ hlt hl
    by_cases hki : k = i
    · subst hki
      rw [hb] at hz
      cases hz
      rw [if_neg (by omega)] at hT
      obtain rfl : T = 0 := by omega
      have wT : IntKind.i64.wrap (((0 : Nat) : Int) + 1) = ((1 : Nat) : Int) := small_wrap (by omega)
      by_cases hyb : y = b
      · subst hyb
        simp [hlt, ez, w]
        refine ⟨by kernel_rfl, _, ?_, _, ⟨k + 1, rfl, hlt, 0, Nat.zero_le _, rfl⟩, [], _, rfl, by simp⟩
        omega
      · by_cases h3 : x.kind = 3
        · have hp := a2 h3
          simp [hlt, ez, w, wT, -vc_drawn]
          simp [h3, hlt, ez, hp, w]
          refine ⟨by kernel_rfl, fun _ => ⟨by kernel_rfl, _, ?_, _, ⟨k + 1, rfl, hlt, 1, by rw [if_pos (by omega)]; omega, rfl⟩, [], _, rfl, by simp [small_wrap]⟩, fun _ _ _ _ _ => ⟨_, ?_, _, ⟨k + 1, rfl, hlt, 0, Nat.zero_le _, rfl⟩, [], _, rfl, by simp⟩⟩
          · omega
          · omega
        · have hp := a1 h3
          simp [hlt, ez, w, wT, -vc_drawn]
          simp [h3, hlt, ez, hp, w]
          refine ⟨by kernel_rfl, fun _ => ⟨by kernel_rfl, _, ?_, _, ⟨k + 1, rfl, hlt, 1, by rw [if_pos (by omega)]; omega, rfl⟩, [], _, rfl, by simp [small_wrap]⟩, fun _ _ _ _ _ => ⟨_, ?_, _, ⟨k + 1, rfl, hlt, 0, Nat.zero_le _, rfl⟩, [], _, rfl, by simp⟩⟩
          · omega
          · omega
    · have hki2 : ¬ i = k := fun e => hki e.symm
      simp [hlt, ez, w, List.getElem_set, hki2]
      refine ⟨by kernel_rfl, _, ?_, _, ⟨k + 1, rfl, hlt, T, ?_, rfl⟩, [], _, rfl, by simp⟩
      · omega
      · split at hT <;> split <;> omega
  · obtain rfl : k = s.bs.length := by omega
    have hT1 : (T : Int) ≤ 1 := by
      split at hT <;> omega
    simp [hT1]
    refine shown_m.mono ?_
    rintro _ rfl
    simp
    exact vcRet_of [] (by simp) rfl
end Go.Proofs.Yticgikpccbgjbaa
