/- Contracts: the reference's Check, at, out. No condition. -/
import Derived.Test.YtajkljbcfgegoaaU3
namespace Go.Proofs.Ytajkljbcfgegoaa
open Go.RowKit

theorem oddW_in (x : Wt) : oddW x = !(inB x.call 1 1000000000000000 && (inB x.since 0 1000000000000 && inB x.dead (x.since + 1) 1000000000001)) := by
  simp [oddW, callOk, inB, Bool.and_assoc]
  rw [Bool.eq_iff_iff]
  simp
  omega
theorem any_none {xs : List Wt} (h : noneTo oddW xs xs.length) : xs.any oddW = false := by
  rw [List.any_eq_false]
  intro x hx
  obtain ⟨i, hi⟩ := List.mem_iff_getElem?.1 hx
  simp [h i x (lt_some hi) hi]
theorem any_at {xs : List Wt} {k : Nat} {x : Wt} (hx : xs[k]? = some x) (h : oddW x = true) : xs.any oddW = true := List.any_eq_true.2 ⟨x, List.mem_of_getElem? hx, h⟩
theorem room_in (n : Int) : room n = inB n 0 64 := rfl
theorem take_at {ws : List Wt} {k j : Nat} {y : Wt} (hj : j < k) (hy : ws[j]? = some y) : (ws.take k)[j]? = some y := by rw [List.getElem?_take, if_pos hj, hy]
theorem dup_hit {ws : List Wt} {k j : Nat} {x y : Wt} (hx : ws[k]? = some x) (hj : j < k) (hy : ws[j]? = some y) (h : x.call = y.call) (hn : noneTo (fun y : Wt => y.call == x.call) ws j) : dupTo ws (k + 1) = true := by
  have h2 : place (ws.take k) x.call = j := by
    unfold place
    refine idx_hit _ _ j y (take_at hj hy) (by simp [h]) fun i z hi hz => hn i z hi ?_
    rw [take_at (ws := ws) (y := ws[i]'(by have := lt_some hy; omega)) (by omega) (List.getElem?_eq_getElem _)] at hz
    rw [← hz]
    exact List.getElem?_eq_getElem _
  rw [dupTo_succ hx, h2]
  simp
theorem dup_miss {ws : List Wt} {k : Nat} {x : Wt} (hx : ws[k]? = some x) (hd : dupTo ws k = false) (hn : noneTo (fun y : Wt => y.call == x.call) ws k) : dupTo ws (k + 1) = false := by
  have h2 : place (ws.take k) x.call = -1 := by
    unfold place
    refine idx_miss _ _ fun i z hi hz => ?_
    rw [List.length_take] at hi
    rw [List.getElem?_take, if_pos (by omega)] at hz
    exact hn i z (by omega) hz
  rw [dupTo_succ hx, h2, hd]
  simp
theorem sortTo_mono {ws : List Wt} {k : Nat} : ∀ {n : Nat}, k ≤ n → sortTo ws k = false → sortTo ws n = false
  | 0, h, hd => by obtain rfl : k = 0 := by omega
                   exact hd
  | n + 1, h, hd => by
    by_cases hk : k = n + 1
    · subst hk; exact hd
    · rw [sortTo, sortTo_mono (n := n) (by omega) hd]; rfl
set_option maxHeartbeats 1600000 in
theorem refCheck_m (s : St) (hl : s.ws.length < 4294967296) : Meets Try.prog 10 [s.pv] [] (Ret (.i (chk s))) := by
  refine meets tbOk mixed Try.func10 pl10 rfl rfl ?_
  simp [Try.ntmps10]
  refine (between_m s.most 0 64).mono ?_
  rintro _ rfl
  cases hr : inB s.most 0 64
  · simp
    refine vcRet_of [] ?_ rfl
    simp [chk, room_in, hr]
  simp
  refine vc_loop (fun m σ => ∃ k : Nat, m = s.ws.length - k ∧ k ≤ s.ws.length ∧ noneTo oddW s.ws k ∧ σ = ⟨95, [(3, .i k), (1, .ptr 1 0)], [(1, .box 24 [.i s.most, .d (wl s.ws)])]⟩) ?_ ?_
  · exact ⟨_, _, ⟨0, rfl, Nat.zero_le _, noneTo_zero _ _, rfl⟩, [], _, rfl, by simp⟩
  rintro m σ ⟨k, rfl, hk, hn, rfl⟩
  by_cases hlt : k < s.ws.length
  · obtain ⟨x, hx, e⟩ := at_lt hlt
    simp [hlt, e]
    refine (between_m x.call 1 1000000000000000).mono ?_
    rintro _ rfl
    cases h1 : inB x.call 1 1000000000000000
    · simp
      refine vcRet_of [] ?_ rfl
      simp [chk, room_in, hr, any_at hx (by rw [oddW_in]; simp [h1])]
    simp
    refine (between_m x.since 0 1000000000000).mono ?_
    rintro _ rfl
    cases h2 : inB x.since 0 1000000000000
    · simp
      refine vcRet_of [] ?_ rfl
      simp [chk, room_in, hr, any_at hx (by rw [oddW_in]; simp [h2])]
    have hw : IntKind.i64.wrap (x.since + 1) = x.since + 1 := by simp [inB] at h2; exact IntWalk.i64_in _ (by omega)
    simp [hw]
    refine (between_m x.dead (x.since + 1) 1000000000001).mono ?_
    rintro _ rfl
    cases h3 : inB x.dead (x.since + 1) 1000000000001
    · simp
      refine vcRet_of [] ?_ rfl
      simp [chk, room_in, hr, any_at hx (by rw [oddW_in]; simp [h3])]
    simp [wrap_succ hlt hl]
    refine ⟨_, ?_, _, ⟨k + 1, rfl, hlt, noneTo_succ hn hx (by rw [oddW_in]; simp [h1, h2, h3]), rfl⟩, [], _, rfl, by simp⟩
    omega
  obtain rfl : k = s.ws.length := by omega
  have ho := any_none hn
  by_cases hm : s.most < (s.ws.length : Int)
  · simp [hm]
    refine vcRet_of [] ?_ rfl
    simp [chk, room_in, hr, ho, hm]
  simp [hm]
  refine vc_loop (fun m σ => ∃ k : Nat, m = s.ws.length - k ∧ k ≤ s.ws.length ∧ dupTo s.ws k = false ∧ σ = ⟨95, [(5, .i k), (1, .ptr 1 0)], [(1, .box 24 [.i s.most, .d (wl s.ws)])]⟩) ?_ ?_
  · exact ⟨_, _, ⟨0, rfl, Nat.zero_le _, rfl, rfl⟩, [], _, rfl, by simp⟩
  rintro m σ ⟨k, rfl, hk, hd, rfl⟩
  by_cases hlt : k < s.ws.length
  · obtain ⟨x, hx, e⟩ := at_lt hlt
    simp [hlt, e]
    refine vc_loop (fun m σ => ∃ j : Nat, m = k - j ∧ j ≤ k ∧ noneTo (fun y : Wt => y.call == x.call) s.ws j ∧ σ = ⟨95, [(6, .i j), (5, .i k), (1, .ptr 1 0)], [(1, .box 24 [.i s.most, .d (wl s.ws)])]⟩) ?_ ?_
    · exact ⟨_, _, ⟨0, rfl, Nat.zero_le _, noneTo_zero _ _, rfl⟩, [], _, rfl, by simp⟩
    rintro m σ ⟨j, rfl, hj, hn2, rfl⟩
    by_cases hjk : j < k
    · have hjl : j < s.ws.length := by omega
      obtain ⟨y, hy, e'⟩ := at_lt hjl
      simp [hjk, hlt, hjl, e, e', wrap_succ hjl hl]
      refine ⟨by kernel_rfl, fun h => vcRet_of [] ?_ rfl, fun h => ⟨_, ?_, _, ⟨j + 1, rfl, hjk, noneTo_succ hn2 hy ?_, rfl⟩, [], _, rfl, by simp⟩⟩
      · simp [chk, room_in, hr, ho, hm, dupTo_mono hlt (dup_hit hx hjk hy h hn2)]
      · omega
      · simp; exact fun e => h e.symm
    · obtain rfl : j = k := by omega
      simp [wrap_succ hlt hl]
      refine ⟨_, ?_, _, ⟨j + 1, rfl, hlt, ?_, rfl⟩, [], _, rfl, by simp⟩
      · omega
      · exact dup_miss hx hd hn2
  obtain rfl : k = s.ws.length := by omega
  simp
  refine vc_loop (fun m σ => ∃ k : Nat, m = s.ws.length - k ∧ 1 ≤ k ∧ k ≤ s.ws.length + 1 ∧ sortTo s.ws (min k s.ws.length) = true ∧ σ = ⟨95, [(7, .i k), (1, .ptr 1 0)], [(1, .box 24 [.i s.most, .d (wl s.ws)])]⟩) ?_ ?_
  · refine ⟨_, _, ⟨1, rfl, Nat.le_refl _, by omega, ?_, rfl⟩, [], _, rfl, by simp⟩
    by_cases h0 : s.ws.length = 0
    · rw [h0]; rfl
    · rw [show min 1 s.ws.length = 1 by omega]; rfl
  rintro m σ ⟨k, rfl, hk1, hk, hs, rfl⟩
  by_cases hlt : k < s.ws.length
  · obtain ⟨x, hx, e⟩ := at_lt hlt
    have hk2 : k - 1 < s.ws.length := by omega
    obtain ⟨y, hy, ey⟩ := at_lt hk2
    have hw : IntKind.i64.wrap ((k : Int) - 1) = ((k - 1 : Nat) : Int) := by rw [IntWalk.i64_in _ (by omega)]; omega
    simp [hlt, e, hk2, hw, ey, wrap_succ hlt hl]
    have hs' : sortTo s.ws k = true := by rw [show min k s.ws.length = k by omega] at hs; exact hs
    have hst := sortTo_succ hx
    rw [hs', getD_some hy] at hst
    refine ⟨by kernel_rfl, fun h => vcRet_of [] ?_ rfl, fun h => ⟨_, ?_, _, ⟨k + 1, rfl, by omega, by omega, ?_, rfl⟩, [], _, rfl, by simp⟩⟩
    · have hf : sortTo s.ws (k + 1) = false := by rw [hst]; simp; omega
      simp [chk, room_in, hr, ho, hm, hd, sortTo_mono hlt hf]
    · omega
    · rw [show min (k + 1) s.ws.length = k + 1 by omega, hst]
      simp [h]
  · have hs' : sortTo s.ws s.ws.length = true := by rw [show min k s.ws.length = s.ws.length by omega] at hs; exact hs
    simp [hlt]
    refine vcRet_of [] ?_ rfl
    simp [chk, room_in, hr, ho, hm, hd, hs']
end Go.Proofs.Ytajkljbcfgegoaa
