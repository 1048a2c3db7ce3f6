/- Contracts: explore 10. No condition. -/
import Derived.Test.YtplooifpgmlofaaN9
namespace Go.Proofs.Ytplooifpgmlofaa
open Go.RowKit

set_option maxRecDepth 100000 in
theorem sum_b0 : found sumQ ⟨100, 0, false⟩ = (⟨2, 0, false, false⟩, [n3]) := by kernel_rfl
set_option maxRecDepth 100000 in
theorem sum_6 : (found sumQ ⟨6, 60, false⟩).1 = ⟨6, 0, true, false⟩ := by kernel_rfl
set_option maxRecDepth 100000 in
theorem sum_5 : (found sumQ ⟨5, 60, false⟩).1 = ⟨5, 0, false, true⟩ := by kernel_rfl
theorem sumR_b0 : foundR sumY ⟨100, 0, false⟩ = ⟨2, 0, [n3], false⟩ := by
  rw [← sumQ_eq]
  unfold foundR
  rw [sum_b0]
  have : sortB [n3] = [n3] := sortB_id (by decide)
  simp [this]
theorem sumBound_m (q : Option (List Int)) (hq : ∀ p, q = some p → legal sumY p) : Meets Try.prog 21 [.ifc 53 1000000, .i 0, .i 100] [.sys (sumAt q)] (fun r => ∃ p, legal sumY p ∧ r = ⟨.tup [Rz.pv ⟨2, 0, [n3], false⟩, .i 0], [.sys (sumAt (some p))], []⟩) := by
  refine (bound_m sum_fair sumP 0 100 q hq).mono ?_
  rintro _ (⟨_, p, hp⟩ | h)
  · have : min (0 : Int) 60 = 0 := rfl
    exact ⟨p, hp, by rw [this, sumR_b0]; rfl⟩
  · exact absurd ⟨okR100, by decide⟩ h
theorem sumBound0_m : Meets Try.prog 21 [.ifc 53 1000000, .i 0, .i 100] [ss0.box] (fun r => ∃ p, legal sumY p ∧ r = ⟨.tup [Rz.pv ⟨2, 0, [n3], false⟩, .i 0], [.sys (sumAt (some p))], []⟩) :=
  Meets.hide (by simp) (sumBound_m none (fun _ h => by cases h))
theorem sumAllN_m (n : Int) (hn : okRuns n) (q : Option (List Int)) (hq : ∀ p, q = some p → legal sumY p) : Meets Try.prog 22 [.ifc 53 1000000, .i n] [.sys (sumAt q)] (fun r => ∃ p, legal sumY p ∧ r = ⟨.tup [(foundR sumY ⟨n, 60, false⟩).pv, .i 0], [.sys (sumAt (some p))], []⟩) := by
  refine (all_m sum_fair sumP n q hq).mono ?_
  rintro _ (⟨_, p, hp⟩ | h)
  · exact ⟨p, hp, rfl⟩
  · exact absurd hn h
theorem mem1 {p : List Int} (h : (SS.at_ p).p1 < 2) : (1 : Int) ∈ sumY.en p := by
  show (1 : Int) ∈ (SS.at_ p).en
  unfold SS.en
  rw [if_pos h]; simp
theorem mem2 {p : List Int} (h : (SS.at_ p).p2 < 2) : (2 : Int) ∈ sumY.en p := by
  show (2 : Int) ∈ (SS.at_ p).en
  unfold SS.en
  rw [if_pos h]; simp
theorem sumPlay_m (q : Option (List Int)) (hq : ∀ p, q = some p → legal sumY p) : Meets Try.prog 11 [.ifc 53 1000000, .d (intD [1, 1, 1])] [.sys (sumAt q)] (fun r => ∃ p, legal sumY p ∧ r = ⟨.tup [strP n1, .i 2, .i 9], [.sys (sumAt (some p))], []⟩) := by
  refine (play_m sum_fair sumP q hq [1, 1, 1]).mono ?_
  rintro _ (h | h | ⟨h60, k, t, ht, hl, hn⟩)
  · simp at h
  · exact absurd (h.2 2 1 rfl) (by decide)
  · have hk := (List.getElem?_eq_some_iff.1 ht).1
    obtain rfl | rfl | rfl : k = 0 ∨ k = 1 ∨ k = 2 := by simp at hk; omega
    · cases ht; exact absurd (mem1 (by decide)) hn
    · cases ht; exact absurd (mem1 (by decide)) hn
    · refine ⟨_, hl, ?_⟩
      have : sumY.out (List.take 2 [1, 1, 1]) = n1 := by rw [← sumQ_eq]; rfl
      rw [this]; rfl
theorem sumNorm_m (q : Option (List Int)) (hq : ∀ p, q = some p → legal sumY p) : Meets Try.prog 13 [.ifc 53 1000000, .d (intD [2, 1, 1, 2])] [.sys (sumAt q)] (fun r => ∃ p, legal sumY p ∧ r = ⟨.tup [.d (intD [1, 2, 1, 2]), .i 0], [.sys (sumAt (some p))], []⟩) := by
  refine (normal_m sum_fair sumP q hq [2, 1, 1, 2]).mono ?_
  rintro _ (h | h | ⟨h60, k, t, ht, hl, hn⟩)
  · simp at h
  · refine ⟨_, h, ?_⟩
    have : normal sumY [2, 1, 1, 2] = [1, 2, 1, 2] := by kernel_rfl
    rw [this]; rfl
  · have hk := (List.getElem?_eq_some_iff.1 ht).1
    obtain rfl | rfl | rfl | rfl : k = 0 ∨ k = 1 ∨ k = 2 ∨ k = 3 := by simp at hk; omega
    · cases ht; exact absurd (mem2 (by decide)) hn
    · cases ht; exact absurd (mem1 (by decide)) hn
    · cases ht; exact absurd (mem1 (by decide)) hn
    · cases ht; exact absurd (mem2 (by decide)) hn

set_option maxHeartbeats 2000000 in
theorem lawKnown_m : Meets Try.prog 4 [] [] (Ret (.b true)) := by
  refine meets tbOk mixed Try.func4 pl4 rfl rfl ?_
  simp [Try.ntmps4]
  refine sumBound0_m.mono ?_
  rintro _ ⟨p, hp, rfl⟩
  simp
  refine (sumNorm_m (some p) (fun _ h => by cases h; exact hp)).mono ?_
  rintro _ ⟨p2, hp2, rfl⟩
  simp
  refine (sumPlay_m (some p2) (fun _ h => by cases h; exact hp2)).mono ?_
  rintro _ ⟨p3, hp3, rfl⟩
  simp
  refine (sumAllN_m 6 (by decide) (some p3) (fun _ h => by cases h; exact hp3)).mono ?_
  rintro _ ⟨p4, hp4, rfl⟩
  simp
  refine (sumAllN_m 5 (by decide) (some p4) (fun _ h => by cases h; exact hp4)).mono ?_
  rintro _ ⟨p5, hp5, rfl⟩
  have e6 : (foundR sumY ⟨6, 60, false⟩).runs = 6 := by rw [← sumQ_eq]; unfold foundR; rw [sum_6]
  have f6 : (foundR sumY ⟨6, 60, false⟩).full = true := by rw [← sumQ_eq]; unfold foundR; rw [sum_6]
  have e5 : (foundR sumY ⟨5, 60, false⟩).runs = 5 := by rw [← sumQ_eq]; unfold foundR; rw [sum_5]
  have f5 : (foundR sumY ⟨5, 60, false⟩).full = false := by rw [← sumQ_eq]; unfold foundR; rw [sum_5]
  simp
  refine (same_m ⟨2, 0, [n3], false⟩ ⟨2, 0, [n3], false⟩ (by simp)).mono ?_
  rintro _ rfl
  simp
  refine (sameInts_m [1, 2, 1, 2] [1, 2, 1, 2] (by simp)).mono ?_
  rintro _ rfl
  have hn1 : n1.toList = [49] := by rw [ByteArray.toList_eq]; rfl
  set_option maxRecDepth 8000 in simp [hn1, e6, f6, e5, f5]
  refine awake_m.mono ?_
  rintro _ rfl
  simp
  refine vcRet_of [] ?_ rfl
  simp
end Go.Proofs.Ytplooifpgmlofaa
