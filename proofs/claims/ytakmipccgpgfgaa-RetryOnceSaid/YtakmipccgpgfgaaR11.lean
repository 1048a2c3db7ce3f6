/- Contracts: Delay of both, far, awake. No condition. -/
import Derived.Test.YtakmipccgpgfgaaR10
namespace Go.Proofs.Ytakmipccgpgfgaa
open Go.RowKit

theorem dbl_eq {base top : Int} (h1 : 1 ≤ base) (h2 : base ≤ top) : ∀ k : Nat, dbl base top k = if base * 2 ^ k ≤ top then base * 2 ^ k else top
  | 0 => by simp [dbl, h2]
  | k + 1 => by
    have hp : (0 : Int) < 2 ^ k := Int.pow_pos (by omega)
    have hb : (1 : Int) * 2 ^ k ≤ base * 2 ^ k := Int.mul_le_mul_of_nonneg_right h1 (by omega)
    have e : base * 2 ^ (k + 1) = 2 * (base * 2 ^ k) := by rw [Int.pow_succ, ← Int.mul_assoc, Int.mul_comm]
    rw [dbl, dbl_eq h1 h2 k, e]
    generalize base * 2 ^ k = X at *
    split <;> split <;> omega
theorem dbl_rng {base top : Int} (h1 : 1 ≤ base) (h2 : base ≤ top) (k : Nat) : base ≤ dbl base top k ∧ dbl base top k ≤ top := by
  induction k with
  | zero => exact ⟨Int.le_refl _, h2⟩
  | succ k ih => simp only [dbl]; omega
theorem two_pow_big {m : Nat} (h : 62 ≤ m) : (1000000000000 : Int) < 2 ^ m := by
  have h1 : 2 ^ 62 ≤ 2 ^ m := Nat.pow_le_pow_right (by omega) h
  have h2 : ((2 ^ m : Nat) : Int) = 2 ^ m := by simp
  rw [← h2]
  have h3 : 1000000000000 < 2 ^ 62 := by decide
  omega
theorem big_no {base top : Int} {m : Nat} (h1 : 1 ≤ base) (h2 : top ≤ 1000000000000) (h : 62 ≤ m) : ¬ base * 2 ^ m ≤ top := by
  have hp := two_pow_big h
  have hb : (1 : Int) * 2 ^ m ≤ base * 2 ^ m := Int.mul_le_mul_of_nonneg_right h1 (by omega)
  omega
theorem cut_wrap {d j : Int} (hd : 0 ≤ d ∧ d ≤ 1000000000000) (hj : 0 ≤ j ∧ j ≤ 1000) : IntKind.i64.wrap (d.tdiv 2) = d.tdiv 2 ∧ IntKind.i64.wrap (d.tdiv 2 * j) = d.tdiv 2 * j ∧ IntKind.i64.wrap ((d.tdiv 2 * j).tdiv 1000) = (d.tdiv 2 * j).tdiv 1000 ∧ IntKind.i64.wrap (d - (d.tdiv 2 * j).tdiv 1000) = d - (d.tdiv 2 * j).tdiv 1000 := by
  have e1 : d.tdiv 2 = d / 2 := Int.tdiv_eq_ediv_of_nonneg hd.1
  have h1 : 0 ≤ d / 2 := by omega
  have h2 : 0 ≤ d / 2 * j := Int.mul_nonneg h1 hj.1
  have h3 : d / 2 * j ≤ 1000000000000 * 1000 := Int.mul_le_mul (by omega) hj.2 hj.1 (by omega)
  rw [e1]
  have e2 : (d / 2 * j).tdiv 1000 = d / 2 * j / 1000 := Int.tdiv_eq_ediv_of_nonneg h2
  rw [e2]
  exact ⟨IntWalk.i64_in _ (by omega), IntWalk.i64_in _ (by omega), IntWalk.i64_in _ (by omega), IntWalk.i64_in _ (by omega)⟩
theorem delayOk_rng {base top n j : Int} (h : delayOk base top n j = true) : 1 ≤ base ∧ base ≤ top ∧ top ≤ 1000000000000 ∧ 1 ≤ n ∧ n ≤ 100 ∧ 0 ≤ j ∧ j ≤ 1000 := by
  simp [delayOk, outs] at h; omega
set_option maxRecDepth 8000 in
set_option maxHeartbeats 4000000 in
theorem delay_m (base top n j : Int) : Meets Try.prog 9 [.i base, .i top, .i n, .i j] [] (Ret (.tup [.i (delay base top n j).1, .i (delay base top n j).2])) := by
  refine meetsH [] tbOk mixed Try.func9 pl9 rfl rfl ?_
  simp [Try.ntmps9]
  refine (outside_m base 1 1000000000000).mono ?_
  rintro _ rfl
  cases h1 : outs base 1 1000000000000
  case true =>
    simp
    exact vcRet_of [] (by simp [delay, delayOk, h1]) rfl
  simp
  refine (outside_m top base 1000000000000).mono ?_
  rintro _ rfl
  cases h2 : outs top base 1000000000000
  case true =>
    simp
    exact vcRet_of [] (by simp [delay, delayOk, h1, h2]) rfl
  simp
  refine (outside_m n 1 100).mono ?_
  rintro _ rfl
  cases h3 : outs n 1 100
  case true =>
    simp
    exact vcRet_of [] (by simp [delay, delayOk, h1, h2, h3]) rfl
  simp
  refine (outside_m j 0 1000).mono ?_
  rintro _ rfl
  cases h4 : outs j 0 1000
  case true =>
    simp
    exact vcRet_of [] (by simp [delay, delayOk, h1, h2, h3, h4]) rfl
  have hok : delayOk base top n j = true := by simp [delayOk, h1, h2, h3, h4]
  obtain ⟨b1, b2, b3, b4, b5, b6, b7⟩ := delayOk_rng hok
  have wn := IntWalk.i64_in (n - 1) (by omega)
  obtain ⟨K, hK⟩ : ∃ K : Nat, min (n - 1) 62 = (K : Int) := ⟨(min (n - 1) 62).toNat, by omega⟩
  have hd : delay base top n j = (cut (dbl base top (n - 1).toNat) j, 0) := by rw [delay, if_pos hok]
  have eb : min K IntKind.i64.bits = K := by show min K 64 = K; omega
  have hp : (0 : Int) < 2 ^ K := Int.pow_pos (by omega)
  have hfd : (base ≤ top.fdiv (2 ^ K)) ↔ base * 2 ^ K ≤ top := by
    rw [Int.fdiv_eq_ediv_of_nonneg _ (by omega), Int.le_ediv_iff_mul_le hp]
  have hdq := dbl_eq b1 b2 (n - 1).toNat
  have hrg := dbl_rng b1 b2 (n - 1).toNat
  rw [hd]
  by_cases hc : base * 2 ^ K ≤ top
  · have hKn : (n - 1).toNat = K := by
      by_cases hb : 62 ≤ K
      · exact absurd hc (big_no b1 b3 hb)
      · omega
    rw [hKn, if_pos hc] at hdq
    rw [hKn] at hrg ⊢
    rw [hdq] at hrg ⊢
    have hc' := hfd.2 hc
    have w0 := IntWalk.i64_in (base * 2 ^ K) (by omega)
    obtain ⟨w1, w2, w3, w4⟩ := cut_wrap (d := base * 2 ^ K) (by omega) ⟨b6, b7⟩
    simp [wn, hK, eb, hc', w0, w1, w2, w3, w4]
    exact vcRet_of [] (by simp [cut]) rfl
  · have hdt : dbl base top (n - 1).toNat = top := by
      rw [hdq, if_neg]
      by_cases hb : 62 ≤ (n - 1).toNat
      · exact big_no b1 b3 hb
      · rw [show (n - 1).toNat = K by omega]; exact hc
    rw [hdt]
    have hc' : ¬ base ≤ top.fdiv (2 ^ K) := fun h => hc (hfd.1 h)
    obtain ⟨w1, w2, w3, w4⟩ := cut_wrap (d := top) (by omega) ⟨b6, b7⟩
    simp [wn, hK, eb, hc', w1, w2, w3, w4]
    exact vcRet_of [] (by simp [cut]) rfl
set_option maxRecDepth 8000 in
set_option maxHeartbeats 4000000 in
theorem refDelay_m (base top n j : Int) : Meets Try.prog 10 [.i base, .i top, .i n, .i j] [] (Ret (.tup [.i (delay base top n j).1, .i (delay base top n j).2])) := by
  refine meetsH [] tbOk mixed Try.func10 pl10 rfl rfl ?_
  have bad : delayOk base top n j = false → delay base top n j = (0, 7) := fun h => by rw [delay, h]; rfl
  by_cases a1 : base < 1
  · rw [bad (by simp [delayOk, outs, a1])]
    simp [Try.ntmps10, a1]
    exact vcRet_of [] (by simp) rfl
  by_cases a2 : 1000000000000 < base
  · rw [bad (by simp [delayOk, outs, a2])]
    simp [Try.ntmps10, a1, a2]
    exact vcRet_of [] (by simp) rfl
  by_cases a3 : top < base
  · rw [bad (by simp [delayOk, outs, a3])]
    simp [Try.ntmps10, a1, a2, a3]
    exact vcRet_of [] (by simp) rfl
  by_cases a4 : 1000000000000 < top
  · rw [bad (by simp [delayOk, outs, a4])]
    simp [Try.ntmps10, a1, a2, a3, a4]
    exact vcRet_of [] (by simp) rfl
  by_cases a5 : n < 1
  · rw [bad (by simp [delayOk, outs, a5])]
    simp [Try.ntmps10, a1, a2, a3, a4, a5]
    exact vcRet_of [] (by simp) rfl
  by_cases a6 : 100 < n
  · rw [bad (by simp [delayOk, outs, a6])]
    simp [Try.ntmps10, a1, a2, a3, a4, a5, a6]
    exact vcRet_of [] (by simp) rfl
  by_cases a7 : j < 0
  · rw [bad (by simp [delayOk, outs, a7])]
    simp [Try.ntmps10, a1, a2, a3, a4, a5, a6, a7]
    exact vcRet_of [] (by simp) rfl
  by_cases a8 : 1000 < j
  · rw [bad (by simp [delayOk, outs, a8])]
    simp [Try.ntmps10, a1, a2, a3, a4, a5, a6, a7, a8]
    exact vcRet_of [] (by simp) rfl
  have hok : delayOk base top n j = true := by simp [delayOk, outs, a1, a2, a3, a4, a5, a6, a7, a8]
  have hd : delay base top n j = (cut (dbl base top (n - 1).toNat) j, 0) := by rw [delay, if_pos hok]
  rw [hd]
  obtain ⟨N, hN⟩ : ∃ N : Nat, n = (N : Int) := ⟨n.toNat, by omega⟩
  subst hN
  rw [show ((N : Int) - 1).toNat = N - 1 by omega]
  have b1 : 1 ≤ base := by omega
  have b2 : base ≤ top := by omega
  simp [Try.ntmps10, a1, a2, a3, a4, a5, a6, a7, a8]
  refine vc_loop (fun m σ => ∃ k : Nat, m = N + 1 - k ∧ 1 ≤ k ∧ k ≤ N ∧ σ = ⟨65, [(11, .i k), (10, .i (dbl base top (k - 1))), (0, .i base), (1, .i top), (2, .i N), (3, .i j)], []⟩) ?_ ?_
  · exact ⟨_, _, ⟨1, rfl, Nat.le_refl _, by omega, rfl⟩, [], _, rfl, by simp [dbl]⟩
  rintro m σ ⟨k, rfl, hk1, hk, rfl⟩
  have hrg := dbl_rng b1 b2 (k - 1)
  by_cases hlt : k < N
  · by_cases ht : dbl base top (k - 1) < top
    · have w0 := IntWalk.i64_in (2 * dbl base top (k - 1)) (by omega)
      have hs : dbl base top k = min (2 * dbl base top (k - 1)) top := by
        obtain ⟨q, rfl⟩ : ∃ q, k = q + 1 := ⟨k - 1, by omega⟩
        rfl
      simp [hlt, ht, w0, wrap_succ hlt (show N < 4294967296 by omega)]
      refine ⟨_, ?_, _, ⟨k + 1, rfl, by omega, hlt, rfl⟩, [], _, rfl, by simp [hs]⟩
      omega
    · have htt : dbl base top (k - 1) = top := by omega
      have hst : ∀ q, dbl base top (k - 1 + q) = top := fun q => by
        induction q with
        | zero => exact htt
        | succ q ih => show min (2 * dbl base top (k - 1 + q)) top = top; rw [ih]; omega
      have hfin : dbl base top (N - 1) = top := by
        have := hst (N - k)
        rw [show k - 1 + (N - k) = N - 1 by omega] at this
        exact this
      rw [hfin]
      obtain ⟨w1, w2, w3, w4⟩ := cut_wrap (d := top) (j := j) (by omega) (by omega)
      simp [hlt, htt, w1, w2, w3, w4]
      exact vcRet_of [] (by simp [cut]) rfl
  obtain rfl : k = N := by omega
  obtain ⟨w1, w2, w3, w4⟩ := cut_wrap (d := dbl base top (k - 1)) (j := j) (by omega) (by omega)
  simp [w1, w2, w3, w4]
  exact vcRet_of [] (by simp [cut]) rfl
theorem delay_v {base top n j r e : Int} (h : delay base top n j = (r, e)) : Meets Try.prog 9 [.i base, .i top, .i n, .i j] [] (Ret (.tup [.i r, .i e])) := by
  have := delay_m base top n j
  rw [h] at this
  exact this
theorem may_v {f : Fl} {most : Int} {a : Bool} {b e : Int} (h : may f most = (a, b, e)) : Meets Try.prog 12 [f.pv, .i most] [] (Ret (.tup [.b a, .i b, .i e])) := by
  have := may_m f most
  rw [h] at this
  exact this
theorem retry_v {b c : Bu} {now e : Int} {a : Bool} (h1 : b.reqs.length < 4294967296) (h2 : b.rets.length < 4294967296) (h : retry b now = (c, a, e)) : Meets Try.prog 21 [b.pv, .i now] [] (Ret (.tup [c.pv, .b a, .i e])) := by
  have := retry_m b now h1 h2
  rw [h] at this
  exact this
theorem new_v {r l w e : Int} {b : Bu} (h : newB r l w = (b, e)) : Meets Try.prog 14 [.i r, .i l, .i w] [] (Ret (.tup [b.pv, .i e])) := by
  have := new_m r l w
  rw [h] at this
  exact this
set_option maxRecDepth 20000 in
set_option maxHeartbeats 4000000 in
theorem awake_m : Meets Try.prog 11 [] [] (Ret (.b true)) := by
  refine meetsH [] tbOk mixed Try.func11 pl11 rfl rfl ?_
  simp [Try.ntmps11]
  refine (may_v (f := ⟨3, 0, 1, 0, false⟩) (a := true) (b := 1) (e := 0) (by decide)).mono ?_
  rintro _ rfl
  simp
  refine (may_v (f := ⟨4, 0, 1, 10, false⟩) (a := false) (b := 5) (e := 0) (by decide)).mono ?_
  rintro _ rfl
  simp
  refine (new_v (b := ⟨10, 1, 100, [], []⟩) (e := 0) (by decide)).mono ?_
  rintro _ rfl
  simp
  refine (retry_v (b := ⟨10, 1, 100, [], []⟩) (c := ⟨10, 1, 100, [], [5]⟩) (a := true) (e := 0) (by decide) (by decide) (by decide)).mono ?_
  rintro _ rfl
  simp
  refine (retry_v (b := ⟨10, 1, 100, [], [5]⟩) (c := ⟨10, 1, 100, [], [5]⟩) (a := false) (e := 0) (by decide) (by decide) (by decide)).mono ?_
  rintro _ rfl
  simp
  refine (delay_v (r := 75) (e := 0) (by decide)).mono ?_
  rintro _ rfl
  simp
  refine (delay_v (r := 1000) (e := 0) (by decide)).mono ?_
  rintro _ rfl
  simp
  exact vcRet_of [] (by simp) rfl
end Go.Proofs.Ytakmipccgpgfgaa
