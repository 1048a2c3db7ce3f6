/- Contract: the statement WaitersPlaces. No condition. -/
import Derived.Test.YtajkljbcfgegoaaU14
import Derived.Test.YtajkljbcfgegoaaV21
namespace Go.Proofs.Ytajkljbcfgegoaa
open Go.RowKit

theorem byte_rem {a : Int} (h : 0 ≤ a ∧ a ≤ 255) : ∃ n : Nat, a.tmod 65 = (n : Int) ∧ n ≤ 64 := by
  refine ⟨(a % 65).toNat, ?_, ?_⟩
  · rw [Int.tmod_eq_emod_of_nonneg h.1]; omega
  · omega
theorem byte_wrap {a : Int} (h : 0 ≤ a ∧ a ≤ 255) : IntKind.i64.wrap a = a := IntWalk.i64_in _ (by omega)
theorem small_wrap {a : Int} (h : -1000 ≤ a ∧ a ≤ 1000) : IntKind.i64.wrap a = a := IntWalk.i64_in _ (by omega)
theorem where_v {s : St} {n r e : Int} (hl : s.ws.length < 4294967296) (h : where_ s n = (r, e)) : Meets Try.prog 18 [s.pv, .i n] [] (Ret (.tup [.i r, .i e])) := by
  have := place_m s n hl
  rw [h] at this
  exact this
theorem resize_v {s t : St} {m e : Int} {l : List Wt} (hl : s.ws.length < 4294967296) (h : resize s m = (t, l, e)) : Meets Try.prog 20 [s.pv, .i m] [] (Ret (.tup [t.pv, .d (wl l), .i e])) := by
  have := resize_m s m hl
  rw [h] at this
  exact this
theorem line_resize {n m : Nat} (hn : n ≤ 64) (hm : m ≤ 64) : resize ⟨64, line n⟩ m = (⟨m, line (min n m)⟩, (line n).drop m, 0) := by
  have hc := chk_good.2 (line_good hn)
  unfold resize
  rw [if_neg (by omega), if_neg (by simp [room]; omega)]
  simp [line_take]
set_option maxRecDepth 4000 in
set_option maxHeartbeats 4000000 in
theorem places_m (a b d : Int) (ha : 0 ≤ a ∧ a ≤ 255) (hb : 0 ≤ b ∧ b ≤ 255) (hd : 0 ≤ d ∧ d ≤ 255) : Meets Try.prog 6 [.d (.v (.int .u8 a)), .d (.v (.int .u8 b)), .d (.v (.int .u8 d))] [] (Ret (.b true)) := by
  refine meetsS [] tbOk mixed Try.func6 pl6 rfl rfl ?_
  obtain ⟨n, en, hn⟩ := byte_rem ha
  obtain ⟨m, em, hm⟩ := byte_rem hb
  simp [Try.ntmps6, byte_wrap ha, en]
  refine (new_m 64).mono ?_
  rintro _ rfl
  have e0 : new 64 = (⟨64, []⟩, 0) := by decide
  simp [e0]
  refine vc_loop (fun q σ => ∃ k : Nat, q = n - k ∧ k ≤ n ∧ σ = ⟨175, [(10, .i k), (7, .i n), (8, .ptr 8 0), (9, .i 0), (1, .d (.v (.int .u8 b))), (2, .d (.v (.int .u8 d)))], [(8, .box 24 [.i 64, .d (wl (line k))])]⟩) ?_ ?_
  · exact ⟨_, _, ⟨0, rfl, Nat.zero_le _, rfl⟩, [], _, rfl, by simp [line]⟩
  · rintro q σ ⟨k, rfl, hk, rfl⟩
    by_cases hlt : k < n
    · have w1 := small_wrap (a := 100 - (k : Int)) (by omega)
      simp [hlt, w1]
      refine (join_v (s := ⟨64, line k⟩) (by rw [line_len]; omega) (line_join (by omega))).mono ?_
      rintro _ rfl
      simp [wrap_succ hlt (show n < 4294967296 by omega)]
      refine ⟨_, ?_, _, ⟨k + 1, rfl, hlt, rfl⟩, [], _, rfl, by simp⟩
      omega
    obtain rfl : k = n := by omega
    simp [byte_wrap hb, em]
    refine (resize_v (s := ⟨64, line k⟩) (by rw [line_len]; omega) (line_resize hn hm)).mono ?_
    rintro _ rfl
    have w2 := small_wrap (a := (k : Int) - (m : Int)) (by omega)
    have q1 : ((k - m : Nat) : Int) = max ((k : Int) - (m : Int)) 0 := by omega
    have q2 : ((min k m : Nat) : Int) = min (k : Int) (m : Int) := by omega
    simp [w2, line_len, q1, q2]
    have hrm : room m = true := by simp [room]; omega
    refine vc_loop (fun q σ => ∃ i : Nat, q = k - i ∧ i ≤ k ∧ σ = ⟨175, [(14, .i i), (7, .i k), (11, .i m), (12, .ptr 12 0), (13, .d (wl ((line k).drop m))), (9, .i 0), (2, .d (.v (.int .u8 d)))], [(12, .box 24 [.i m, .d (wl (line (min k m)))])]⟩) ?_ ?_
    · exact ⟨_, _, ⟨0, rfl, Nat.zero_le _, rfl⟩, [], _, rfl, by simp⟩
    rintro q σ ⟨i, rfl, hi, rfl⟩
    by_cases hik : i < k
    · have w1 := small_wrap (a := 100 - (i : Int)) (by omega)
      have hwh := line_where (n := k) (m := min k m) (i := i) (r := m) hn hrm (by omega) (by omega)
      by_cases him : i < m
      · rw [if_pos (by omega)] at hwh
        simp [hik, w1]
        refine (where_v (s := ⟨m, line (min k m)⟩) (by show (line _).length < _; rw [line_len]; omega) hwh).mono ?_
        rintro _ rfl
        have h2 : ¬ m ≤ i := by omega
        simp [him, h2, wrap_succ hik (show k < 4294967296 by omega)]
        refine ⟨_, ?_, _, ⟨i + 1, rfl, hik, rfl⟩, [], _, rfl, by simp⟩
        omega
      · rw [if_neg (by omega)] at hwh
        have w3 := small_wrap (a := (i : Int) - (m : Int)) (by omega)
        simp [hik, w1]
        refine (where_v (s := ⟨m, line (min k m)⟩) (by show (line _).length < _; rw [line_len]; omega) hwh).mono ?_
        rintro _ rfl
        have h2 : m ≤ i := by omega
        have e2 : m + (i - m) = i := by omega
        have e3 := line_at hik
        have e4 : (lw i).call = 100 - (i : Int) := rfl
        have e5 : (i : Int) - m < ((k - m : Nat) : Int) := by omega
        simp [him, h2, w1, w3, e2, e3, e4, e5, line_len, wrap_succ hik (show k < 4294967296 by omega)]
        refine ⟨_, ?_, _, ⟨i + 1, rfl, hik, rfl⟩, [], _, rfl, by simp⟩
        omega
    obtain rfl : i = k := by omega
    by_cases h0 : min i m = 0
    · simp [h0, line]
      refine awake_m.mono ?_
      rintro _ rfl
      simp
      refine vcRet_of [] ?_ rfl
      simp
    obtain ⟨L, hL⟩ : ∃ L : Nat, min i m = L := ⟨_, rfl⟩
    rw [hL] at h0
    have hne : line L ≠ [] := fun e => by have := line_len L; rw [e] at this; simp at this; omega
    obtain ⟨j, ej, hj⟩ : ∃ j : Nat, d.tmod L = (j : Int) ∧ j < L := by
      refine ⟨(d % L).toNat, ?_, ?_⟩
      · rw [Int.tmod_eq_emod_of_nonneg hd.1]
        have := Int.emod_nonneg d (show (L : Int) ≠ 0 by omega)
        omega
      · have := Int.emod_lt_of_pos d (show (0 : Int) < L by omega)
        have := Int.emod_nonneg d (show (L : Int) ≠ 0 by omega)
        omega
    have w4 := small_wrap (a := 100 - (j : Int)) (by omega)
    simp [hL, h0, hne, line_len, byte_wrap hd, ej, w4]
    have hwj := line_where (n := i) (m := L) (i := j) (r := m) hn hrm (by omega) (by omega)
    rw [if_pos hj] at hwj
    refine (where_v (s := ⟨m, line L⟩) (by show (line _).length < _; rw [line_len]; omega) hwj).mono ?_
    rintro _ rfl
    simp
    refine vc_loop (fun q σ => ∃ (t : Nat) (X : List Wt), q = j + 1 - t ∧ t ≤ j + 1 ∧ X = (line L).drop t ∧ σ = ⟨175, [(19, .i t), (18, .i j), (9, .i 0), (12, .ptr 12 0), (17, .i (100 - (j : Int)))], [(12, .box 24 [.i m, .d (wl X)])]⟩) ?_ ?_
    · exact ⟨_, _, ⟨0, _, rfl, Nat.zero_le _, rfl, rfl⟩, [], _, rfl, by simp⟩
    rintro q σ ⟨t, X, rfl, ht, hX, rfl⟩
    by_cases htj : t ≤ j
    · have hs := line_serve (m := L) (i := t) (r := m) (by omega) hrm (by omega) (by omega)
      rw [← hX] at hs
      have e4 : (lw t).call = 100 - (t : Int) := rfl
      simp [htj]
      refine (serve_v (s := ⟨m, X⟩) (by show X.length < _; rw [hX]; rw [List.length_drop, line_len]; omega) hs).mono ?_
      rintro _ rfl
      have e5 : (decide ((100 : Int) - t = 100 - j) == decide ((t : Int) = j)) = true := by
        by_cases htj' : t = j
        · simp [htj']
        · have h1 : ¬ ((100 : Int) - t = 100 - j) := by omega
          have h2 : ¬ ((t : Int) = j) := by omega
          simp [h1, h2]
      have w5 := wrap_succ (k := t) (n := j + 1) (by omega) (by omega)
      simp [e4, w5]
      refine ⟨_, ?_, _, ⟨t + 1, rfl, by omega, rfl⟩, [], _, rfl, by simp⟩
      omega
    obtain rfl : t = j + 1 := by omega
    have h9 : ¬ ((j : Int) + 1 ≤ j) := by omega
    simp [h9]
    refine awake_m.mono ?_
    rintro _ rfl
    simp
    refine vcRet_of [] ?_ rfl
    simp
end Go.Proofs.Ytajkljbcfgegoaa
