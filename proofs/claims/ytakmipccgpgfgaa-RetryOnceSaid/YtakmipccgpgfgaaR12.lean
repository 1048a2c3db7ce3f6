/- Contracts: the statements RetryDelays, RetrySafer. No condition. -/
import Derived.Test.YtakmipccgpgfgaaR11
namespace Go.Proofs.Ytakmipccgpgfgaa
open Go.RowKit

theorem cut_e {d j : Int} (hd : 0 ≤ d) (hj : 0 ≤ j) : cut d j = d - d / 2 * j / 1000 := by
  have h2 : 0 ≤ d / 2 * j := Int.mul_nonneg (by omega) hj
  rw [cut, Int.tdiv_eq_ediv_of_nonneg hd, Int.tdiv_eq_ediv_of_nonneg h2]
theorem cut_mono {d d' j : Int} (h0 : 0 ≤ d) (h : d ≤ d') (hj : 0 ≤ j ∧ j ≤ 1000) : cut d j ≤ cut d' j := by
  rw [cut_e h0 hj.1, cut_e (by omega) hj.1]
  have h1 : (d' / 2 - d / 2) * j ≤ (d' / 2 - d / 2) * 1000 := Int.mul_le_mul_of_nonneg_left hj.2 (by omega)
  rw [Int.sub_mul] at h1
  generalize d / 2 * j = p at *
  generalize d' / 2 * j = q at *
  omega
theorem cut_anti {d j j' : Int} (h0 : 0 ≤ d) (hj : 0 ≤ j) (h : j ≤ j') : cut d j' ≤ cut d j := by
  rw [cut_e h0 hj, cut_e h0 (by omega)]
  have h1 : d / 2 * j ≤ d / 2 * j' := Int.mul_le_mul_of_nonneg_left h (by omega)
  generalize d / 2 * j = p at *
  generalize d / 2 * j' = q at *
  omega
theorem cut_half {d j : Int} (h0 : 0 ≤ d) (hj : 0 ≤ j ∧ j ≤ 1000) : d / 2 ≤ cut d j := by
  rw [cut_e h0 hj.1]
  have h1 : d / 2 * j ≤ d / 2 * 1000 := Int.mul_le_mul_of_nonneg_left hj.2 (by omega)
  generalize d / 2 * j = p at *
  omega
theorem cut_zero {d : Int} (h0 : 0 ≤ d) : cut d 0 = d := by
  rw [cut_e h0 (Int.le_refl _)]; simp
theorem dbl_mono {base top : Int} (h1 : 1 ≤ base) (h2 : base ≤ top) : ∀ (q k : Nat), dbl base top k ≤ dbl base top (k + q)
  | 0, k => Int.le_refl _
  | q + 1, k => by
    have := dbl_mono h1 h2 q k
    have := dbl_rng h1 h2 (k + q)
    show dbl base top k ≤ min (2 * dbl base top (k + q)) top
    omega
theorem delayOk_of {base top n j : Int} (h : 1 ≤ base ∧ base ≤ top ∧ top ≤ 1000000000000 ∧ 1 ≤ n ∧ n ≤ 100 ∧ 0 ≤ j ∧ j ≤ 1000) : delayOk base top n j = true := by
  simp [delayOk, outs]; omega
set_option maxRecDepth 20000 in
set_option maxHeartbeats 4000000 in
theorem delays_m (base top n j : Int) (hn : -9223372036854775808 ≤ n ∧ n ≤ 9223372036854775807) (hj : -9223372036854775808 ≤ j ∧ j ≤ 9223372036854775807) : Meets Try.prog 3 [.agg [.i base, .i top, .i n, .i j]] [] (Ret (.b true)) := by
  refine meetsH [] tbOk mixed Try.func3 pl3 rfl rfl ?_
  simp [Try.ntmps3]
  refine (delay_m base top n j).mono ?_
  rintro _ rfl
  simp
  refine (refDelay_m base top n j).mono ?_
  rintro _ rfl
  cases hok : delayOk base top n j
  · have hd : delay base top n j = (0, 7) := by rw [delay, hok]; rfl
    simp [hd]
    refine awake_m.mono ?_
    rintro _ rfl
    simp
    exact vcRet_of [] (by simp) rfl
  obtain ⟨b1, b2, b3, b4, b5, b6, b7⟩ := delayOk_rng hok
  have hrg := dbl_rng b1 b2 (n - 1).toNat
  have hd : delay base top n j = (cut (dbl base top (n - 1).toNat) j, 0) := by rw [delay, if_pos hok]
  have hd0 : delay base top n 0 = (dbl base top (n - 1).toNat, 0) := by rw [delay, if_pos (delayOk_of (by omega)), cut_zero (by omega)]
  have hd1 : delay base top (min (n + 1) 100) j = (cut (dbl base top (min (n + 1) 100 - 1).toNat) j, 0) := by rw [delay, if_pos (delayOk_of (by omega))]
  have hd2 : delay base top n (min (j + 1) 1000) = (cut (dbl base top (n - 1).toNat) (min (j + 1) 1000), 0) := by rw [delay, if_pos (delayOk_of (by omega))]
  have c1 : cut (dbl base top (n - 1).toNat) j ≤ cut (dbl base top (min (n + 1) 100 - 1).toNat) j := by
    have := dbl_mono b1 b2 ((min (n + 1) 100 - 1).toNat - (n - 1).toNat) (n - 1).toNat
    rw [show (n - 1).toNat + ((min (n + 1) 100 - 1).toNat - (n - 1).toNat) = (min (n + 1) 100 - 1).toNat by omega] at this
    exact cut_mono (by omega) this ⟨b6, b7⟩
  have c2 : cut (dbl base top (n - 1).toNat) (min (j + 1) 1000) ≤ cut (dbl base top (n - 1).toNat) j := cut_anti (by omega) b6 (by omega)
  have c3 : cut (dbl base top (n - 1).toNat) j ≤ dbl base top (n - 1).toNat := by
    have := cut_anti (d := dbl base top (n - 1).toNat) (by omega) (Int.le_refl 0) b6
    rwa [cut_zero (by omega)] at this
  have c4 : (dbl base top (n - 1).toNat).tdiv 2 ≤ cut (dbl base top (n - 1).toNat) j := by
    rw [Int.tdiv_eq_ediv_of_nonneg (by omega)]
    exact cut_half (by omega) ⟨b6, b7⟩
  have c5 := hrg.2
  have w1 := IntWalk.i64_in (n + 1) (by omega)
  have w2 := IntWalk.i64_in (j + 1) (by omega)
  have w3 := IntWalk.i64_in ((dbl base top (n - 1).toNat).tdiv 2) (by rw [Int.tdiv_eq_ediv_of_nonneg (by omega)]; omega)
  generalize dbl base top (n - 1).toNat = D at *
  generalize cut D j = A at *
  generalize cut (dbl base top (min (n + 1) 100 - 1).toNat) j = M at *
  generalize cut D (min (j + 1) 1000) = L at *
  simp [hd]
  refine (delay_v hd0).mono ?_
  rintro _ rfl
  simp [w1]
  refine (delay_v hd1).mono ?_
  rintro _ rfl
  simp [w2]
  refine (delay_v hd2).mono ?_
  rintro _ rfl
  simp [w3, c1, c2, c3, c4, c5]
  refine awake_m.mono ?_
  rintro _ rfl
  simp
  exact vcRet_of [] (by simp) rfl
theorem why_one {f : Fl} {most : Int} : why f most = 1 ↔ (¬ f.phase = 1 ∧ ¬ f.phase = 6 ∧ ¬ (f.phase = 7 ∧ ¬ (f.status = 502 ∨ f.status = 503 ∨ f.status = 504)) ∧ ¬ (0 < f.sent ∧ f.idem = false) ∧ ¬ most < f.tries) := by
  unfold why
  by_cases h1 : f.phase = 1
  · rw [if_pos h1]; exact ⟨fun h => by omega, fun h => absurd h1 h.1⟩
  rw [if_neg h1]
  by_cases h2 : f.phase = 6
  · rw [if_pos h2]; exact ⟨fun h => by omega, fun h => absurd h2 h.2.1⟩
  rw [if_neg h2]
  by_cases h3 : f.phase = 7 ∧ ¬ (f.status = 502 ∨ f.status = 503 ∨ f.status = 504)
  · rw [if_pos h3]; exact ⟨fun h => by omega, fun h => absurd h3 h.2.2.1⟩
  rw [if_neg h3]
  by_cases h4 : 0 < f.sent ∧ f.idem = false
  · rw [if_pos h4]; exact ⟨fun h => by omega, fun h => absurd h4 h.2.2.2.1⟩
  rw [if_neg h4]
  by_cases h5 : most < f.tries
  · rw [if_pos h5]; exact ⟨fun h => by omega, fun h => absurd h5 h.2.2.2.2⟩
  rw [if_neg h5]
  exact ⟨fun _ => ⟨h1, h2, h3, h4, h5⟩, fun _ => rfl⟩
theorem badIn_tries {f : Fl} {lo hi t : Int} (h : badIn f lo hi = false) (ht : 1 ≤ t ∧ t ≤ 100) : badIn { f with tries := t } lo hi = false ∧ 1 ≤ f.tries ∧ f.tries ≤ 100 := by
  unfold badIn at *
  simp only [Bool.or_eq_false_iff] at h ⊢
  obtain ⟨h1, h2, h3⟩ := h
  refine ⟨⟨h1, h2, ?_⟩, ?_⟩
  · simp [outs]; omega
  · simp [outs] at h3; omega
theorem badF_tries {f : Fl} {t : Int} (h : badF f = false) (ht : 1 ≤ t ∧ t ≤ 100) : badF { f with tries := t } = false ∧ 1 ≤ f.tries ∧ f.tries ≤ 100 := by
  unfold badF at *
  split at h
  · rename_i h1; rw [if_pos h1]; exact badIn_tries h ht
  rename_i h1; rw [if_neg h1]
  split at h
  · rename_i h2; rw [if_pos h2]; exact badIn_tries h ht
  rename_i h2; rw [if_neg h2]
  split at h
  · rename_i h3; rw [if_pos h3]; exact badIn_tries h ht
  · cases h
theorem badF_idem (f : Fl) (b : Bool) : badF { f with idem := b } = badF f := rfl
theorem may_ok {f : Fl} {most : Int} (h1 : outs most 0 99 = false) (h2 : badF f = false) : may f most = (decide (why f most = 1), why f most, 0) := by
  rw [may, h1, h2]; rfl
set_option maxRecDepth 20000 in
set_option maxHeartbeats 4000000 in
theorem safer_m (f : Fl) (most : Int) : Meets Try.prog 4 [f.pv, .i most] [] (Ret (.b true)) := by
  refine meetsH [] tbOk mixed Try.func4 pl4 rfl rfl ?_
  simp [Try.ntmps4]
  refine (may_m f most).mono ?_
  rintro _ rfl
  cases h1 : outs most 0 99
  case true =>
    have hd : may f most = (false, 0, 7) := by rw [may, h1]; rfl
    simp [hd]
    refine awake_m.mono ?_
    rintro _ rfl
    simp
    exact vcRet_of [] (by simp) rfl
  cases h2 : badF f
  case true =>
    have hd : may f most = (false, 0, 2) := by rw [may, h1, h2]; rfl
    simp [hd]
    refine awake_m.mono ?_
    rintro _ rfl
    simp
    exact vcRet_of [] (by simp) rfl
  have hd := may_ok h1 h2
  have hm : 0 ≤ most ∧ most ≤ 99 := by simp [outs] at h1; omega
  have hm2 : outs (min (most + 1) 99) 0 99 = false := by simp [outs]; omega
  have w1 := IntWalk.i64_in (most + 1) (by omega)
  have ht := badF_tries (t := 1) h2 (by omega)
  have w2 := IntWalk.i64_in (f.tries - 1) (by omega)
  have hg := may_ok (f := { f with idem := true }) h1 h2
  have hb := may_ok hm2 h2
  have hc := may_ok (f := { f with tries := max (f.tries - 1) 1 }) h1 (badF_tries h2 (by omega)).1
  by_cases hw : why f most = 1
  · have hy := why_one.1 hw
    have y1 : why { f with idem := true } most = 1 := why_one.2 ⟨hy.1, hy.2.1, hy.2.2.1, (by rintro ⟨_, h⟩; cases h), hy.2.2.2.2⟩
    have y2 : why f (min (most + 1) 99) = 1 := why_one.2 ⟨hy.1, hy.2.1, hy.2.2.1, hy.2.2.2.1, by have := hy.2.2.2.2; omega⟩
    have y3 : why { f with tries := max (f.tries - 1) 1 } most = 1 := why_one.2 ⟨hy.1, hy.2.1, hy.2.2.1, hy.2.2.2.1, by have := hy.2.2.2.2; show ¬ most < max (f.tries - 1) 1; omega⟩
    rw [hw] at hd; rw [y1] at hg; rw [y2] at hb; rw [y3] at hc
    simp [hd]
    refine (may_v hg).mono ?_
    rintro _ rfl
    simp [w1]
    refine (may_v hb).mono ?_
    rintro _ rfl
    simp [w2]
    refine (may_v hc).mono ?_
    rintro _ rfl
    simp
    refine awake_m.mono ?_
    rintro _ rfl
    simp
    exact vcRet_of [] (by simp) rfl
  · simp [hd, hw]
    refine (may_v hg).mono ?_
    rintro _ rfl
    simp [w1]
    refine (may_v hb).mono ?_
    rintro _ rfl
    simp [w2]
    refine (may_v hc).mono ?_
    rintro _ rfl
    simp
    refine awake_m.mono ?_
    rintro _ rfl
    simp
    exact vcRet_of [] (by simp) rfl
end Go.Proofs.Ytakmipccgpgfgaa
