/- Contract: the statement IdleOrder. No condition. -/
import Derived.Test.YtjbpkibhkaagjaaI12
import Derived.Test.YtjbpkibhkaagjaaQ2
namespace Go.Proofs.Ytjbpkibhkaagjaa
open Go.RowKit

theorem byte_rem {a : Int} (h : 0 ≤ a ∧ a ≤ 255) : ∃ n : Nat, a.tmod 65 = (n : Int) ∧ n ≤ 64 := by
  refine ⟨(a % 65).toNat, ?_, ?_⟩
  · rw [Int.tmod_eq_emod_of_nonneg h.1]; omega
  · omega
theorem byte_wrap {a : Int} (h : 0 ≤ a ∧ a ≤ 255) : IntKind.i64.wrap a = a := IntWalk.i64_in _ (by omega)
theorem resize_v {s t : St} {m e : Int} {l : List Int} (h : resize s m = (t, l, e)) (hl : s.cs.length < 4294967296) : Meets Try.prog 22 [s.pv, .i m] [] (Ret (.tup [t.pv, .d (nl l), .i e])) := by
  have := resize_m s m hl
  rw [h] at this
  exact this
theorem seg_lt {a b : Nat} (h : b ≤ 64) : (seg a b).length < 4294967296 := by rw [seg_len]; omega
set_option maxRecDepth 20000 in
set_option maxHeartbeats 8000000 in
theorem order_m (a b c : Int) (ha : 0 ≤ a ∧ a ≤ 255) (hb : 0 ≤ b ∧ b ≤ 255) (hc : 0 ≤ c ∧ c ≤ 255) : Meets Try.prog 6 [.d (.v (.int .u8 a)), .d (.v (.int .u8 b)), .d (.v (.int .u8 c))] [] (Ret (.b true)) := by
  refine meetsH [] tbOk mixed Try.func6 pl6 rfl rfl ?_
  obtain ⟨n, en, hn⟩ := byte_rem ha
  obtain ⟨m, em, hm⟩ := byte_rem hb
  simp [Try.ntmps6, byte_wrap ha, en]
  refine (new_v (s := ⟨64, 1000, 1000, []⟩) (e := 0) (by kernel_rfl)).mono ?_
  rintro _ rfl
  simp
  refine vc_loop (fun q σ => ∃ k : Nat, q = n - k ∧ k ≤ n ∧ σ = ⟨153, [(10, .i k), (7, .i n), (8, .ptr 8 0), (9, .i 0), (1, .d (.v (.int .u8 b))), (2, .d (.v (.int .u8 c)))], [(8, .box 24 [.i 64, .i 1000, .i 1000, .d (cl (seg 0 k))])]⟩) ?_ ?_
  · exact ⟨_, _, ⟨0, rfl, Nat.zero_le _, rfl⟩, [], _, rfl, by simp [seg]⟩
  rintro q σ ⟨k, rfl, hk, rfl⟩
  by_cases hlt : k < n
  · have w1 := small_wrap (a := 1 + (k : Int)) (by omega)
    simp [hlt, w1]
    refine (put_v (seg_put (k := k) (by omega)) (seg_lt (by omega))).mono ?_
    rintro _ rfl
    simp [wrap_succ hlt (show n < 4294967296 by omega)]
    refine ⟨_, ?_, _, ⟨k + 1, rfl, hlt, rfl⟩, [], _, rfl, by simp⟩
    omega
  obtain rfl : k = n := by omega
  have hd : 0 < 65 - m := by omega
  obtain ⟨r, er, hr⟩ : ∃ r : Nat, c.tmod (65 - (m : Int)) = r ∧ r < 65 - m := by
    refine ⟨(c % (65 - (m : Int))).toNat, ?_, ?_⟩
    · rw [Int.tmod_eq_emod_of_nonneg hc.1]
      have := Int.emod_nonneg c (show (65 - (m : Int)) ≠ 0 by omega)
      omega
    · have := Int.emod_nonneg c (show (65 - (m : Int)) ≠ 0 by omega)
      have := Int.emod_lt_of_pos c (show (0 : Int) < 65 - (m : Int) by omega)
      omega
  obtain ⟨x, hx⟩ : ∃ x, m + r = x := ⟨_, rfl⟩
  have w2 := small_wrap (a := 65 - (m : Int)) (by omega)
  have w3 : IntKind.i64.wrap ((m : Int) + r) = (x : Int) := by rw [small_wrap (by omega)]; omega
  have hne : ¬ (65 - (m : Int)) = 0 := by omega
  have r1 := seg_resize (m := 64) (k := x) (a := 0) (b := k) (by omega) (by omega) (by omega) (by omega) (by omega)
  have r2 := seg_resize (m := x) (k := m) (a := max 0 (k - x)) (b := k) (by omega) (by omega) (by omega) (by omega) (by omega)
  have r3 := seg_resize (m := 64) (k := m) (a := 0) (b := k) (by omega) (by omega) (by omega) (by omega) (by omega)
  rw [show max (max 0 (k - x)) (k - m) = k - m by omega] at r2
  rw [show max 0 (k - m) = k - m by omega] at r3
  rw [show max 0 (k - x) = k - x by omega] at r1 r2
  simp [byte_wrap hb, em, byte_wrap hc, er, w2, w3, hne]
  refine (resize_v r1 (seg_lt (by omega))).mono ?_
  rintro _ rfl
  simp
  refine (resize_v r2 (seg_lt (by omega))).mono ?_
  rintro _ rfl
  simp
  refine (resize_v r3 (seg_lt (by omega))).mono ?_
  rintro _ rfl
  simp
  refine (same_m ⟨m, 1000, 1000, seg (k - m) k⟩ ⟨m, 1000, 1000, seg (k - m) k⟩ (seg_lt (by omega))).mono ?_
  rintro _ rfl
  simp
  have eqs : List.take ((seg 0 (k - x)).length + (seg (k - x) (k - m)).length) (List.map (nds ∘ Cn.conn) (seg 0 (k - x)) ++ List.map (nds ∘ Cn.conn) (seg (k - x) (k - m))) = List.map (nds ∘ Cn.conn) (seg 0 (k - m)) := by
    rw [List.take_of_length_le (by simp), ← List.map_append, seg_split (by omega) (by omega)]
  have hsn : Meets Try.prog 20 [.d (.sl 1 (List.map (nds ∘ Cn.conn) (seg 0 (k - m)))), .d (.sl 1 (List.map (nds ∘ Cn.conn) (seg 0 (k - m))))] [] (Ret (.b true)) := by
    have h := same_v (xs := cns (seg 0 (k - m))) (ys := cns (seg 0 (k - m))) rfl (by simp [seg_len]; omega)
    simp only [nl, cns, List.map_map] at h
    exact h
  rw [eqs]
  refine ⟨by rw [seg_len]; omega, by rw [seg_len, seg_len]; omega, ?_⟩
  refine hsn.mono ?_
  rintro _ rfl
  simp
  obtain ⟨d, hdd⟩ : ∃ d, k - m = d := ⟨_, rfl⟩
  have hmin : min (k : Int) (m : Int) = (k : Int) - d := by omega
  have w4 : IntKind.i64.wrap ((k : Int) - ((k : Int) - d)) = (d : Int) := by rw [small_wrap (by omega)]; omega
  rw [hdd]
  refine vc_loop (fun q σ => ∃ i : Nat, q = i ∧ d ≤ i ∧ i ≤ k ∧ σ = ⟨153, [(20, .i i), (7, .i k), (11, .i m), (17, .ptr 17 0)], [(17, .box 24 [.i m, .i 1000, .i 1000, .d (cl (seg d i))])]⟩) ?_ ?_
  · exact ⟨_, _, ⟨k, rfl, by omega, Nat.le_refl _, rfl⟩, [], _, rfl, by simp⟩
  rintro i σ ⟨_, rfl, hi, hik, rfl⟩
  by_cases hid : d < i
  · obtain ⟨i', rfl⟩ : ∃ i', i = i' + 1 := ⟨i - 1, by omega⟩
    have hid2 : (d : Int) < (i' : Int) + 1 := by omega
    have w5 : IntKind.i64.wrap (i' : Int) = (i' : Int) := small_wrap (by omega)
    have w6 : 1 + (i' : Int) = (i' : Int) + 1 := by omega
    simp [hmin, w4, hid2]
    refine (take_v (seg_pop (m := m) (a := d) (b := i') (by omega) hm (by omega) (by omega)) (seg_lt (by omega))).mono ?_
    rintro _ rfl
    simp [lw, w5, w6]
    exact ⟨i', by omega, _, ⟨by omega, by omega, rfl⟩, [], _, rfl, by simp⟩
  · obtain rfl : i = d := by omega
    have hid2 : ¬ (i : Int) < (i : Int) := by omega
    simp [hmin, w4]
    refine (take_v (seg_end (m := m) (a := i) (b := i) (by omega) hm (by omega) (by omega)) (seg_lt (by omega))).mono ?_
    rintro _ rfl
    simp
    refine awake_m.mono ?_
    rintro _ rfl
    simp
    refine vcRet_of [] ?_ rfl
    simp
end Go.Proofs.Ytjbpkibhkaagjaa
