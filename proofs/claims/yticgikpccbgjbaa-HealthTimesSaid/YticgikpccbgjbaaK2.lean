/- Contracts: Check, the reference s. No condition. -/
import Derived.Test.YticgikpccbgjbaaK1
namespace Go.Proofs.Yticgikpccbgjbaa
open Go.RowKit

/-- The numbers of a backend in the way that the reference asks. -/
theorem okA_bad {s : Hs} {i : Nat} {b : Bk} (h : okA s i b = false) : b.run < 0 ∨ (¬ b.run < 0 ∧ lim s.c b.up ≤ b.run) ∨ ((¬ b.run < 0 ∧ ¬ lim s.c b.up ≤ b.run) ∧ (b.next < fst s.c i ∨ (¬ b.next < fst s.c i ∧ s.now + s.c.iv < b.next) ∨ ((¬ b.next < fst s.c i ∧ ¬ s.now + s.c.iv < b.next) ∧ ¬ (b.next - fst s.c i) % s.c.iv = 0))) := by
  simp only [okA, Bool.and_eq_false_iff, decide_eq_false_iff_not] at h
  omega
theorem okA_iff {s : Hs} {i : Nat} {b : Bk} : okA s i b = true ↔ 0 ≤ b.run ∧ b.run < lim s.c b.up ∧ fst s.c i ≤ b.next ∧ b.next ≤ s.now + s.c.iv ∧ (b.next - fst s.c i) % s.c.iv = 0 := by
  simp [okA]
theorem form_iff {s : Hs} : formOk s = true ↔ (0 ≤ s.now ∧ s.now ≤ 1000000000000) ∧ (s.bs.length : Int) = s.c.n := by
  simp [formOk, inB]
/-- What the numbers of a valid state allow. -/
structure Fine (s : Hs) : Prop where
  c : validC s.c = true
  n0 : 0 ≤ s.now
  n1 : s.now ≤ 1000000000000
  l : (s.bs.length : Int) = s.c.n
theorem Fine.iv {s : Hs} (h : Fine s) : 2 ≤ s.c.iv ∧ s.c.iv ≤ 1000000 := (validC_iff.1 h.c).2.1
theorem Fine.tm {s : Hs} (h : Fine s) : 1 ≤ s.c.tm ∧ s.c.tm < s.c.iv := (validC_iff.1 h.c).2.2.1
theorem Fine.len {s : Hs} (h : Fine s) : s.bs.length ≤ 16 := by have := (validC_iff.1 h.c).1; have := h.l; omega
theorem Fine.sum {s : Hs} (h : Fine s) : IntKind.i64.wrap (s.now + s.c.iv) = s.now + s.c.iv := small_wrap (by have := h.iv; have := h.n0; have := h.n1; omega)
/-- None of the first k has this check. -/
def noProbe (bs : List Bk) (p : Int) (k : Nat) : Prop := ∀ i y, i < k → bs[i]? = some y → y.probe ≠ p
theorem probes_not {bs : List Bk} {p : Int} {k : Nat} (h0 : p ≠ 0) (h : noProbe bs p k) : p ∉ probes (bs.take k) := by
  intro hm
  obtain ⟨y, hy, rfl⟩ := List.mem_map.1 hm
  obtain ⟨i, hi⟩ := List.getElem?_of_mem (List.mem_filter.1 hy).1
  rw [List.getElem?_take] at hi
  split at hi
  · rename_i hik; exact h i y hik hi rfl
  · cases hi
theorem probes_has {bs : List Bk} {p : Int} {k i : Nat} {y : Bk} (h0 : p ≠ 0) (hi : i < k) (hy : bs[i]? = some y) (he : y.probe = p) : p ∈ probes (bs.take k) := by
  refine List.mem_map.2 ⟨y, List.mem_filter.2 ⟨List.mem_of_getElem? (i := i) (by rw [List.getElem?_take, if_pos hi]; exact hy), by simp [he, h0]⟩, he⟩
set_option maxRecDepth 100000 in
set_option maxHeartbeats 4000000 in
theorem backend_m {s : Hs} (hf : Fine s) {k : Nat} {b : Bk} (hb : s.bs[k]? = some b) : Meets Try.prog 49 [s.pv, .i k] [] (Ret (.b (okAt s k b))) := by
  refine meetsH [] tbOk mixed Try.func49 pl49 rfl rfl ?_
  have hlt := lt_some hb
  have e : s.bs[k] = b := by rw [List.getElem?_eq_getElem hlt] at hb; exact Option.some.inj hb
  have hl := hf.len
  have hiv := hf.iv
  have htm := hf.tm
  have hn0 := hf.n0
  have hn1 := hf.n1
  have hk16 : k ≤ 16 := by omega
  have hsum := hf.sum
  have hf0 := fst_nonneg hf.c k
  have hf1 := fst_le hf.c (i := k) (by have := hf.l; omega)
  have badA : okA s k b = false → okAt s k b = false := fun h => by simp [okAt, h]
  have badB : okB s (probes (s.bs.take k)) b = false → okAt s k b = false := fun h => by simp [okAt, h]
  by_cases h1 : b.run < 0
  · have hA : okAt s k b = false := badA (by simp only [okA, Bool.and_eq_false_iff, decide_eq_false_iff_not]; omega)
    simp [Try.ntmps49, hlt, e, h1]
    refine ⟨by kernel_rfl, vcRet_of [] ?_ rfl⟩
    simp [hA]
  simp [Try.ntmps49, hlt, e, h1]
  refine effCall (refLimit_m s.c b.up) ?_
  by_cases h2 : lim s.c b.up ≤ b.run
  · have hA : okAt s k b = false := badA (by simp only [okA, Bool.and_eq_false_iff, decide_eq_false_iff_not]; omega)
    simp [h2]
    refine ⟨by kernel_rfl, vcRet_of [] ?_ rfl⟩
    simp [hA]
  by_cases h3 : b.next < 0
  · have hA : okAt s k b = false := badA (by simp only [okA, Bool.and_eq_false_iff, decide_eq_false_iff_not]; omega)
    simp [h2, h3]
    refine ⟨by kernel_rfl, vcRet_of [] ?_ rfl⟩
    simp [hA]
  by_cases h4 : s.now + s.c.iv < b.next
  · have hA : okAt s k b = false := badA (by simp only [okA, Bool.and_eq_false_iff, decide_eq_false_iff_not]; omega)
    simp [h2, h3, hsum, h4]
    refine ⟨by kernel_rfl, vcRet_of [] ?_ rfl⟩
    simp [hA]
  have hw : IntKind.i64.wrap (b.next - fst s.c k) = b.next - fst s.c k := small_wrap (by omega)
  have hiv0 : s.c.iv ≠ 0 := by omega
  simp [h2, h3, hsum, h4]
  refine effCall (refFirst_m s.c hf.c k hk16) ?_
  by_cases h5 : (b.next - fst s.c k).tmod s.c.iv = 0
  case neg =>
    have hA : okAt s k b = false := badA (by
      by_cases h6 : b.next < fst s.c k
      · simp only [okA, Bool.and_eq_false_iff, decide_eq_false_iff_not]; omega
      · rw [Int.tmod_eq_emod_of_nonneg (by omega)] at h5
        simp only [okA, Bool.and_eq_false_iff, decide_eq_false_iff_not]; omega)
    simp [hw, hiv0, h5]
    refine ⟨by kernel_rfl, vcRet_of [] ?_ rfl⟩
    simp [hA]
  simp [hw, hiv0, h5]
  refine effCall (refFirst_m s.c hf.c k hk16) ?_
  by_cases h6 : b.next < fst s.c k
  · have hA : okAt s k b = false := badA (by simp only [okA, Bool.and_eq_false_iff, decide_eq_false_iff_not]; omega)
    simp [h6]
    refine ⟨by kernel_rfl, vcRet_of [] ?_ rfl⟩
    simp [hA]
  rw [Int.tmod_eq_emod_of_nonneg (by omega)] at h5
  have hA : okA s k b = true := okA_iff.2 ⟨by omega, by omega, by omega, by omega, h5⟩
  by_cases p0 : b.probe = 0
  · simp [h6, p0]
    refine ⟨by kernel_rfl, vcRet_of [] ?_ rfl⟩
    simp [okAt, hA, okB, p0]
  have fin : ∀ q, okB s (probes (s.bs.take k)) b = q → okAt s k b = q := fun q h => by simp [okAt, hA, h]
  have bad : ¬ 0 < b.probe ∨ ¬ b.probe ≤ 1000000000 ∨ ¬ 0 ≤ b.began ∨ ¬ b.began ≤ s.now ∨ ¬ s.now < b.began + s.c.tm ∨ ¬ b.began < b.next ∨ ¬ b.next - b.began ≤ s.c.iv → okAt s k b = false := fun h => fin _ (by
    rw [okB, if_neg p0]
    simp only [Bool.and_eq_false_iff, decide_eq_false_iff_not]; omega)
  by_cases p1 : b.probe < 1
  · have hA := bad (by omega)
    simp [h6, p0, p1]
    refine ⟨by kernel_rfl, vcRet_of [] ?_ rfl⟩
    simp [hA]
  by_cases p2 : 1000000000 < b.probe
  · have hA := bad (by omega)
    simp [h6, p0, p1, p2]
    refine ⟨by kernel_rfl, vcRet_of [] ?_ rfl⟩
    simp [hA]
  by_cases p3 : b.began < 0
  · have hA := bad (by omega)
    simp [h6, p0, p1, p2, p3]
    refine ⟨by kernel_rfl, vcRet_of [] ?_ rfl⟩
    simp [hA]
  by_cases p4 : s.now < b.began
  · have hA := bad (by omega)
    simp [h6, p0, p1, p2, p3, p4]
    refine ⟨by kernel_rfl, vcRet_of [] ?_ rfl⟩
    simp [hA]
  have w5 : IntKind.i64.wrap (s.now - b.began) = s.now - b.began := small_wrap (by omega)
  by_cases p5 : s.c.tm ≤ s.now - b.began
  · have hA := bad (by omega)
    simp [h6, p0, p1, p2, p3, p4, w5, p5]
    refine ⟨by kernel_rfl, vcRet_of [] ?_ rfl⟩
    simp [hA]
  by_cases p6 : b.next ≤ b.began
  · have hA := bad (by omega)
    simp [h6, p0, p1, p2, p3, p4, w5, p5, p6]
    refine ⟨by kernel_rfl, vcRet_of [] ?_ rfl⟩
    simp [hA]
  have w7 : IntKind.i64.wrap (b.began + s.c.iv) = b.began + s.c.iv := small_wrap (by omega)
  by_cases p7 : b.began + s.c.iv < b.next
  · have hA := bad (by omega)
    simp [h6, p0, p1, p2, p3, p4, w5, p5, p6, w7, p7]
    refine ⟨by kernel_rfl, vcRet_of [] ?_ rfl⟩
    simp [hA]
  simp [h6, p0, p1, p2, p3, p4, w5, p5, p6, w7, p7]
  refine ⟨by kernel_rfl, ?_⟩
  refine vc_loop (fun n σ => ∃ j : Nat, n = k - j ∧ j ≤ k ∧ noProbe s.bs b.probe j ∧ σ = ⟨133, [(6, .i j), (1, .i k), (2, .ptr 2 0), (5, .ptr 5 0)], [(2, .box 26 s.ps), (5, .box 42 b.ps)]⟩) ?_ ?_
  · exact ⟨_, _, ⟨0, rfl, Nat.zero_le _, fun i y h => absurd h (by omega), rfl⟩, [], _, rfl, by simp⟩
  rintro n σ ⟨j, rfl, hj, hno, rfl⟩
  by_cases hjk : j < k
  · have hjl : j < s.bs.length := by omega
    obtain ⟨y, hy, ey⟩ := at_lt hjl
    by_cases hp : y.probe = b.probe
    · have hA : okAt s k b = false := fin _ (by rw [okB, if_neg p0]; simp [probes_has p0 hjk hy hp])
      simp [hjk, hjl, ey, hp]
      refine ⟨by kernel_rfl, vcRet_of [] ?_ rfl⟩
      simp [hA]
    · have w := wrap_succ (k := j) (n := k) hjk (by omega)
      simp [hjk, hjl, ey, hp, w]
      refine ⟨by kernel_rfl, _, ?_, _, ⟨j + 1, rfl, hjk, fun i z hi hz => ?_, rfl⟩, [], _, rfl, by simp⟩
      · omega
      · by_cases hij : i = j
        · subst hij; rw [hy] at hz; cases hz; exact hp
        · exact hno i z (by omega) hz
  · obtain rfl : j = k := by omega
    have hA : okAt s j b = true := fin _ (by
      rw [okB, if_neg p0]
      have := probes_not p0 hno
      simp [this]; omega)
    simp
    refine vcRet_of [] ?_ rfl
    simp [hA]
set_option maxRecDepth 100000 in
theorem refCheck_m (s : Hs) (hl : s.bs.length < 4294967296) : Meets Try.prog 23 [s.pv] [] (Ret (.i (chk s))) := by
  refine meetsH [] tbOk mixed Try.func23 pl23 rfl rfl ?_
  simp [Try.ntmps23]
  refine (config_m s.c).mono ?_
  rintro _ rfl
  cases hv : validC s.c
  · simp
    refine vcRet_of [] ?_ rfl
    simp [chk, hv]
  have c6 : formOk s = false → chk s = 6 := fun h => by simp [chk, hv, h]
  by_cases h1 : s.now < 0
  · simp [h1]
    refine vcRet_of [] ?_ rfl
    rw [c6 (by simp [formOk, inB]; omega)]; simp
  by_cases h2 : 1000000000000 < s.now
  · simp [h1, h2]
    refine vcRet_of [] ?_ rfl
    rw [c6 (by simp [formOk, inB]; omega)]; simp
  by_cases h3 : (s.bs.length : Int) = s.c.n
  case neg =>
    simp [h1, h2, h3]
    refine vcRet_of [] ?_ rfl
    rw [c6 (by simp [formOk, inB, h3])]; simp
  have hform : formOk s = true := form_iff.2 ⟨⟨by omega, by omega⟩, h3⟩
  have hf : Fine s := ⟨hv, by omega, by omega, h3⟩
  simp [h1, h2, h3]
  refine vc_loop (fun n σ => ∃ k : Nat, n = s.bs.length - k ∧ k ≤ s.bs.length ∧ okTo s k = true ∧ σ = ⟨36, [(3, .i k), (1, .ptr 1 0)], [(1, .box 26 s.ps)]⟩) ?_ ?_
  · exact ⟨_, _, ⟨0, rfl, Nat.zero_le _, rfl, rfl⟩, [], _, rfl, by simp⟩
  rintro n σ ⟨k, rfl, hk, hok, rfl⟩
  by_cases hlt : k < s.bs.length
  · obtain ⟨b, hb, e⟩ := at_lt hlt
    simp [hlt]
    refine (backend_m hf hb).mono ?_
    rintro _ rfl
    cases ho : okAt s k b
    · simp
      refine vcRet_of [] ?_ rfl
      simp [chk, hv, hform, okTo_bad hlt hb ho]
    · have w := wrap_succ hlt hl
      simp [w]
      refine ⟨_, ?_, _, ⟨k + 1, rfl, hlt, ?_, rfl⟩, [], _, rfl, by simp⟩
      · omega
      · rw [okTo_succ hb, hok, ho]; rfl
  · obtain rfl : k = s.bs.length := by omega
    simp
    refine vcRet_of [] ?_ rfl
    simp [chk, hv, hform, hok]
end Go.Proofs.Yticgikpccbgjbaa
