/- The law PoolStates. No condition. -/
import Derived.Test.YtajjmhpdiikjhaaGreatN14
namespace Go.Proofs.YtajjmhpdiikjhaaGreat.Po
set_option maxRecDepth 100000
open Go.RowKit

theorem new_fine {b m q i a : Int} (h : fits b m q i a) : Fine (⟨b, m, 0, false, ⟨m, i, a, []⟩, [], [], ⟨q, []⟩⟩ : Po) := by
  obtain ⟨h1, h2, h3, h4, h5, h6, h7, h8, h9, h10⟩ := h
  have hi : Id.chk ⟨m, i, a, []⟩ = 0 := Id.chk_good.2 ⟨by simp [Id.nums, Id.inB]; omega, rfl, by simp; omega, by simp, by simp⟩
  have hw : Wa.chk ⟨q, []⟩ = 0 := Wa.chk_good.2 ⟨by simp [Wa.room]; omega, rfl, by simp; omega, by simp, by simp⟩
  refine ⟨⟨⟨h1, h2, h3, h4, rfl, rfl, hi, hw, by simp; omega⟩, by simp, by simp [Up], by simp, by simp [Up], by simp, by simp⟩, by simp, by simp, by simp, by simp, by simp, by simp, by simp⟩
/-- A pool to begin with, and whether there is one. -/
def beg (m q i a : Int) : Po := (new 0 m q i a).1
def begB (m q i a : Int) : Bool := decide ((new 0 m q i a).2 = 0)
theorem beg_fine {m q i a : Int} (h : begB m q i a = true) : Fine (beg m q i a) := by
  unfold begB at h
  unfold beg
  by_cases hf : fits 0 m q i a
  · rw [new_yes hf]; exact new_fine hf
  · rw [new_no hf] at h; simp at h
theorem beg_eq {m q i a : Int} (h : begB m q i a = true) : beg m q i a = ⟨0, m, 0, false, ⟨m, i, a, []⟩, [], [], ⟨q, []⟩⟩ ∧ fits 0 m q i a := by
  unfold begB at h
  unfold beg
  by_cases hf : fits 0 m q i a
  · rw [new_yes hf]; exact ⟨rfl, hf⟩
  · rw [new_no hf] at h; simp at h
theorem begun_m (m q i a : Int) : Meets Tryz.prog 16 [.agg [.i m, .i q, .i i, .i a]] [] (Ret (.tup [(beg m q i a).pv, .b (begB m q i a)])) := by
  refine meetsH [] tbOk mixed Tryz.func16 pl16 rfl rfl ?_
  have hn := new_m 0 m q i a
  simp at hn
  simp [Tryz.ntmps16]
  refine hn.mono ?_
  rintro _ rfl
  simp
  exact vcRet_of [] (by simp [beg, begB]) rfl
set_option maxHeartbeats 16000000 in
theorem states_m (m q i a : Int) (xs : List Act) (hx0 : ∀ x ∈ xs, 0 ≤ x.what) : Meets Tryz.prog 4 [.agg [.i m, .i q, .i i, .i a], .d (al xs)] [] (Ret (.b true)) := by
  refine meetsH [] tbOk mixed Tryz.func4 pl4 rfl rfl ?_
  by_cases h60 : (60 : Int) < xs.length
  · simp [Tryz.ntmps4, h60]
    refine shown_m.mono ?_
    rintro _ rfl
    simp
    exact vcRet_of [] (by simp) rfl
  have hbg := begun_m m q i a
  simp at hbg
  simp [Tryz.ntmps4, h60]
  refine hbg.mono ?_
  rintro _ rfl
  cases hb : begB m q i a
  case false =>
    simp
    refine shown_m.mono ?_
    rintro _ rfl
    simp
    exact vcRet_of [] (by simp) rfl
  have hf0 := beg_fine hb
  generalize beg m q i a = s at hf0 ⊢
  simp
  refine vc_loop (fun n σ => ∃ k : Nat, n = xs.length - k ∧ k ≤ xs.length ∧ σ = ⟨66, [(7, .i k), (2, .ptr 2 0), (5, .ptr 5 0), (1, .d (al xs)), (4, .b false)], [(2, .box 47 [.i m, .i q, .i i, .i a]), (5, .box 31 (stA s xs k).cells)]⟩) ?_ ?_
  · exact ⟨_, _, ⟨0, rfl, Nat.zero_le _, rfl⟩, [], _, rfl, by simp [stA]⟩
  rintro n σ ⟨k, rfl, hk, rfl⟩
  by_cases hlt : k < xs.length
  · obtain ⟨x, hx, e⟩ := at_lt hlt
    have wk := wrap_succ hlt (by omega)
    have e1 := st_succ (s := s) hx
    have hf := st_fine (xs := xs) hf0 k
    have hft := do_fine hf x
    have h0 : chk (doA (stA s xs k) x).1 = 0 := if_pos hft
    have hd := do_m (stA s xs k) hf.f.held x (hx0 x (List.mem_of_getElem? hx))
    have hck := refCheck_m (doA (stA s xs k) x).1 hft.f.held
    rw [h0] at hck
    simp at hd hck
    simp [hlt, e]
    refine effCall hd ?_
    by_cases he : (doA (stA s xs k) x).2.2.2 = 0
    · simp [he]
      refine ⟨by kernel_rfl, ?_⟩
      refine hck.mono ?_
      rintro _ rfl
      simp [wk]
      refine ⟨_, ?_, _, ⟨k + 1, rfl, hlt, rfl⟩, [], _, rfl, by simp [e1]⟩
      omega
    · have hb := (do_err (s := stA s xs k) x).resolve_left he
      have b1 : (doA (stA s xs k) x).1 = stA s xs k := by rw [hb]; rfl
      have b2 : (doA (stA s xs k) x).2.1 = Rs.z := by rw [hb]; rfl
      have b3 : (doA (stA s xs k) x).2.2.1 = [] := by rw [hb]; rfl
      have hsm := sameP_m (stA s xs k) (stA s xs k) hf.f.held
      simp at hsm
      rw [b1] at hck
      simp [he, b1, b2, b3, Rs.z]
      refine ⟨by kernel_rfl, ?_⟩
      refine hsm.mono ?_
      rintro _ rfl
      simp
      refine hck.mono ?_
      rintro _ rfl
      simp [wk]
      refine ⟨_, ?_, _, ⟨k + 1, rfl, hlt, rfl⟩, [], _, rfl, by simp [e1, b1]⟩
      omega
  obtain rfl : k = xs.length := by omega
  simp
  refine shown_m.mono ?_
  rintro _ rfl
  simp
  exact vcRet_of [] (by simp) rfl
end Go.Proofs.YtajjmhpdiikjhaaGreat.Po
