/- Contracts: times, Check of both, asked. No condition. -/
import Derived.Test.YtakmipccgpgfgaaR5
import Derived.Test.YtakmipccgpgfgaaV22
namespace Go.Proofs.Ytakmipccgpgfgaa
open Go.RowKit

def okT (x w last : Int) : Prop := (0 ≤ x ∧ x ≤ 1000000000000) ∧ last < x + w
theorem times_iff (l : List Int) (w last : Int) : times l w last = true ↔ (∀ (j : Nat) x, l[j]? = some x → okT x w last) ∧ ∀ (j : Nat) x y, l[j]? = some x → l[j + 1]? = some y → x ≤ y := by
  unfold times
  rw [Bool.and_eq_true, sortedL_iff, List.all_eq_true]
  refine and_congr ?_ Iff.rfl
  constructor
  · intro h j x hx
    have := h x (List.mem_of_getElem? hx)
    simp at this
    exact ⟨⟨this.1.1, this.1.2⟩, this.2⟩
  · intro h x hx
    obtain ⟨j, hj⟩ := List.getElem?_of_mem hx
    obtain ⟨⟨h1, h2⟩, h3⟩ := h j x hj
    simp [h1, h2, h3]
set_option maxRecDepth 4000 in
set_option maxHeartbeats 4000000 in
theorem times_m (l : List Int) (w last : Int) (hl : l.length < 4294967296) (hw : 0 ≤ w ∧ w ≤ 1000000000000) : Meets Try.prog 31 [.d (il l), .i w, .i last] [] (Ret (.b (times l w last))) := by
  refine meetsH [] tbOk mixed Try.func31 pl31 rfl rfl ?_
  have no : ¬ times l w last = true → times l w last = false := fun h => by simpa using h
  simp [Try.ntmps31]
  refine vc_loop (fun m σ => ∃ k : Nat, m = l.length - k ∧ k ≤ l.length ∧ (∀ (j : Nat) x, j < k → l[j]? = some x → okT x w last) ∧ (∀ (j : Nat) x y, j + 1 < k → l[j]? = some x → l[j + 1]? = some y → x ≤ y) ∧ σ = ⟨46, [(7, .i k), (0, .d (il l)), (1, .i w), (2, .i last)], []⟩) ?_ ?_
  · exact ⟨_, _, ⟨0, rfl, Nat.zero_le _, fun j x h => absurd h (by omega), fun j x y h => absurd h (by omega), rfl⟩, [], _, rfl, by simp⟩
  rintro m σ ⟨k, rfl, hk, ha, hb, rfl⟩
  by_cases hlt : k < l.length
  · obtain ⟨x, hx, ex⟩ := at_lt hlt
    by_cases t1 : 0 ≤ x
    case neg =>
      simp [-vcQ_cons, hlt]
      repeat (rw [vcQ_cons]; simp [-vcQ_cons, hlt, ex])
      refine effCall (time_m x) ?_
      simp [-vcQ_cons, t1]
      repeat (rw [vcQ_cons]; simp [-vcQ_cons, t1])
      refine ⟨by kernel_rfl, vcRet_of [] ?_ rfl⟩
      rw [no fun h => t1 (((times_iff l w last).1 h).1 k x hx).1.1]
      simp
    by_cases t2 : x ≤ 1000000000000
    case neg =>
      simp [-vcQ_cons, hlt]
      repeat (rw [vcQ_cons]; simp [-vcQ_cons, hlt, ex])
      refine effCall (time_m x) ?_
      simp [-vcQ_cons, t1, t2]
      repeat (rw [vcQ_cons]; simp [-vcQ_cons, t1, t2])
      refine ⟨by kernel_rfl, vcRet_of [] ?_ rfl⟩
      rw [no fun h => t2 (((times_iff l w last).1 h).1 k x hx).1.2]
      simp
    have hwr := add_wrap ⟨t1, t2⟩ hw
    by_cases hk0 : 0 < k
    · obtain ⟨y, hy, ey⟩ := at_lt (show k - 1 < l.length by omega)
      have wp := wrap_pred hk0 (show k < 4294967296 by omega)
      have k1 : k - 1 < l.length := by omega
      by_cases hxy : x < y
      · simp [hlt, ex, hk0, wp, k1, ey, hxy]
        refine effCall (time_m x) ?_
        simp [t1, t2, hlt, ex, hk0, wp, k1, ey, hxy]
        refine ⟨by kernel_rfl, vcRet_of [] ?_ rfl⟩
        rw [no fun h => by have := ((times_iff l w last).1 h).2 (k - 1) y x hy (by rw [show k - 1 + 1 = k by omega]; exact hx); omega]
        simp
      by_cases hz : x + w ≤ last
      · simp [hlt, ex, hk0, wp, k1, ey, hxy, hwr, hz]
        refine effCall (time_m x) ?_
        simp [t1, t2, hlt, ex, hk0, wp, k1, ey, hxy, hwr, hz]
        refine ⟨by kernel_rfl, vcRet_of [] ?_ rfl⟩
        rw [no fun h => by have := (((times_iff l w last).1 h).1 k x hx).2; omega]
        simp
      · simp [hlt, ex, hk0, wp, k1, ey, hxy, hwr, hz]
        refine effCall (time_m x) ?_
        simp [t1, t2, hlt, ex, hk0, wp, k1, ey, hxy, hwr, hz, wrap_succ hlt hl]
        refine ⟨by kernel_rfl, _, ?_, _, ⟨k + 1, rfl, hlt, fun j a hj h => ?_, fun j a b hj h h' => ?_, rfl⟩, [], _, rfl, by simp⟩
        · omega
        · by_cases hj' : j = k
          · subst hj'; rw [hx] at h; cases h; exact ⟨⟨t1, t2⟩, by omega⟩
          · exact ha j a (by omega) h
        · by_cases hj' : j + 1 = k
          · obtain rfl : j = k - 1 := by omega
            rw [show k - 1 + 1 = k by omega, hx] at h'; rw [hy] at h; cases h; cases h'; omega
          · exact hb j a b (by omega) h h'
    · obtain rfl : k = 0 := by omega
      by_cases hz : x + w ≤ last
      · simp [hlt, ex, hwr, hz]
        refine effCall (time_m x) ?_
        simp [t1, t2, hlt, ex, hwr, hz]
        refine ⟨by kernel_rfl, vcRet_of [] ?_ rfl⟩
        rw [no fun h => by have := (((times_iff l w last).1 h).1 0 x hx).2; omega]
        simp
      · have w1 := IntWalk.i64_in 1 (by omega)
        simp [-vcQ_cons, hlt]
        repeat (rw [vcQ_cons]; simp [-vcQ_cons, hlt, ex])
        refine effCall (time_m x) ?_
        simp [-vcQ_cons, t1, t2, hlt, ex, hwr, hz, w1]
        repeat (rw [vcQ_cons]; simp [-vcQ_cons, t1, t2, hlt, ex, hwr, hz, w1])
        refine ⟨by kernel_rfl, _, ?_, _, ⟨1, rfl, hlt, fun j a hj h => ?_, fun j a b hj h h' => by omega, rfl⟩, [], _, rfl, by simp⟩
        · omega
        · obtain rfl : j = 0 := by omega
          rw [hx] at h; cases h; exact ⟨⟨t1, t2⟩, by omega⟩
  obtain rfl : k = l.length := by omega
  simp
  refine vcRet_of [] ?_ rfl
  have : times l w last = true := (times_iff l w last).2 ⟨fun j x hx => ha j x (List.getElem?_eq_some_iff.1 hx).1 hx, fun j x y hx hy => hb j x y (List.getElem?_eq_some_iff.1 hy).1 hx hy⟩
  simp [this]
end Go.Proofs.Ytakmipccgpgfgaa
