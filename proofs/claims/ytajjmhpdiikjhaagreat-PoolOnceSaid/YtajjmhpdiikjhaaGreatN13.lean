/- Shown. No condition. -/
import Derived.Test.YtajjmhpdiikjhaaGreatN12
namespace Go.Proofs.YtajjmhpdiikjhaaGreat.Po
set_option maxRecDepth 100000
open Go.RowKit

theorem exHeld {now : Int} {sh : Bool} {cs : List Id.Cn} {ls : List Ls} {ds : List Dl} {ws : List Wa.Wt} (h : cs.length < 10 ∧ ls.length < 10 ∧ ds.length < 10 ∧ ws.length < 10) : Held (exS now sh cs ls ds ws) := ⟨by show cs.length < _; omega, by show ls.length < _; omega, by show ds.length < _; omega, by show ws.length < _; omega⟩
def exSt : Nat → Po
  | 0 => exS 0 false [] [] [] []
  | 1 => exS 0 false [] [] [⟨1, false⟩] []
  | 2 => exS 0 false [] [] [⟨1, false⟩] [⟨2, 0, 20⟩]
  | 3 => exS 0 false [] [] [⟨1, false⟩] [⟨2, 0, 20⟩]
  | 4 => exS 0 false [] [⟨1, 7, 0⟩] [] [⟨2, 0, 20⟩]
  | 5 => exS 0 false [] [⟨2, 7, 0⟩] [] []
  | 6 => exS 0 false [⟨7, 0, 0⟩] [] [] []
  | 7 => exS 9 false [⟨7, 0, 0⟩] [] [] []
  | 8 => exS 9 false [] [⟨3, 7, 0⟩] [] []
  | 9 => exS 9 false [] [] [] []
  | 10 => exS 9 false [] [] [⟨4, false⟩] []
  | 11 => exS 9 false [] [] [⟨4, true⟩] []
  | 12 => exS 9 true [] [] [⟨4, true⟩] []
  | _ => exS 9 true [] [] [] []
def exC : List PV := [.d (.v (.int .u8 0)), .i 1, .i 0, .i 50, .b false, .d (.v (.int .u8 0)), .i 2, .i 0, .i 20, .b false, .d (.v (.int .u8 0)), .i 3, .i 0, .i 50, .b false, .d (.v (.int .u8 4)), .i 1, .i 7, .i 0, .b true, .d (.v (.int .u8 6)), .i 1, .i 0, .i 0, .b true, .d (.v (.int .u8 6)), .i 2, .i 0, .i 0, .b true, .d (.v (.int .u8 10)), .i 0, .i 0, .i 9, .b false, .d (.v (.int .u8 0)), .i 3, .i 0, .i 50, .b false, .d (.v (.int .u8 6)), .i 3, .i 0, .i 0, .b false, .d (.v (.int .u8 0)), .i 4, .i 0, .i 20, .b false, .d (.v (.int .u8 9)), .i 4, .i 0, .i 0, .b false, .d (.v (.int .u8 11)), .i 0, .i 0, .i 0, .b true, .d (.v (.int .u8 4)), .i 4, .i 8, .i 0, .b true]
def exK : List PV := [.i 2, .i 3, .i 4, .i 1, .i 7, .i 7, .i 7, .i 1, .i 7, .i 2, .i 7, .i 7, .i 7]
set_option maxHeartbeats 40000000 in
theorem shown_m : Meets Tryz.prog 11 [] [] (Ret (.b true)) := by
  refine meetsH [] tbOk mixed Tryz.func11 pl11 rfl rfl ?_
  have hn := new_m 0 1 1 10 100
  rw [ex0] at hn
  simp [exS] at hn
  simp [Tryz.ntmps11]
  refine hn.mono ?_
  rintro _ rfl
  simp
  refine vc_loop (fun n σ => ∃ k : Nat, n = 13 - k ∧ k ≤ 13 ∧ σ = ⟨100, [(5, .i k), (0, .b false), (1, .ptr 1 0), (3, .ptr 3 0), (4, .ptr 4 0)], [(1, .box 31 (exSt k).cells), (3, .box 81 exC), (4, .box 82 exK)]⟩) ?_ ?_
  · exact ⟨_, _, ⟨0, rfl, Nat.zero_le _, rfl⟩, [], _, rfl, by simp [exSt, exS, exC, exK]⟩
  rintro n σ ⟨k, rfl, hk, rfl⟩
  rcases (by omega : k = 0 ∨ k = 1 ∨ k = 2 ∨ k = 3 ∨ k = 4 ∨ k = 5 ∨ k = 6 ∨ k = 7 ∨ k = 8 ∨ k = 9 ∨ k = 10 ∨ k = 11 ∨ k = 12 ∨ k = 13) with rfl | rfl | rfl | rfl | rfl | rfl | rfl | rfl | rfl | rfl | rfl | rfl | rfl | rfl
  · have hd := do_m (exS 0 false [] [] [] []) (exHeld (by decide)) (a_ 0 1 0 50 false) (by decide)
    rw [ex1] at hd
    simp [exS, a_] at hd
    simp [exSt, exS, exC, exK]
    refine effCall hd ?_
    simp
    refine ⟨by kernel_rfl, by kernel_rfl, ?_⟩
    exact ⟨_, (by decide : 13 - 1 < 13 - 0), _, ⟨1, rfl, by decide, rfl⟩, [], _, rfl, by simp [small_wrap (a := 1) (by decide)]⟩
  · have hd := do_m (exS 0 false [] [] [⟨1, false⟩] []) (exHeld (by decide)) (a_ 0 2 0 20 false) (by decide)
    rw [ex2] at hd
    simp [exS, a_] at hd
    simp [exSt, exS, exC, exK]
    refine effCall hd ?_
    simp
    refine ⟨by kernel_rfl, by kernel_rfl, ?_⟩
    exact ⟨_, (by decide : 13 - 2 < 13 - 1), _, ⟨2, rfl, by decide, rfl⟩, [], _, rfl, by simp [small_wrap (a := 2) (by decide)]⟩
  · have hd := do_m (exS 0 false [] [] [⟨1, false⟩] [⟨2, 0, 20⟩]) (exHeld (by decide)) (a_ 0 3 0 50 false) (by decide)
    rw [ex3] at hd
    simp [exS, a_] at hd
    simp [exSt, exS, exC, exK]
    refine effCall hd ?_
    simp
    refine ⟨by kernel_rfl, by kernel_rfl, ?_⟩
    exact ⟨_, (by decide : 13 - 3 < 13 - 2), _, ⟨3, rfl, by decide, rfl⟩, [], _, rfl, by simp [small_wrap (a := 3) (by decide)]⟩
  · have hd := do_m (exS 0 false [] [] [⟨1, false⟩] [⟨2, 0, 20⟩]) (exHeld (by decide)) (a_ 4 1 7 0 true) (by decide)
    rw [ex4] at hd
    simp [exS, a_] at hd
    simp [exSt, exS, exC, exK]
    refine effCall hd ?_
    simp
    refine ⟨by kernel_rfl, by kernel_rfl, ?_⟩
    exact ⟨_, (by decide : 13 - 4 < 13 - 3), _, ⟨4, rfl, by decide, rfl⟩, [], _, rfl, by simp [small_wrap (a := 4) (by decide)]⟩
  · have hd := do_m (exS 0 false [] [⟨1, 7, 0⟩] [] [⟨2, 0, 20⟩]) (exHeld (by decide)) (a_ 6 1 0 0 true) (by decide)
    rw [ex5] at hd
    simp [exS, a_] at hd
    simp [exSt, exS, exC, exK]
    refine effCall hd ?_
    simp
    refine ⟨by kernel_rfl, by kernel_rfl, ?_⟩
    exact ⟨_, (by decide : 13 - 5 < 13 - 4), _, ⟨5, rfl, by decide, rfl⟩, [], _, rfl, by simp [small_wrap (a := 5) (by decide)]⟩
  · have hd := do_m (exS 0 false [] [⟨2, 7, 0⟩] [] []) (exHeld (by decide)) (a_ 6 2 0 0 true) (by decide)
    rw [ex6] at hd
    simp [exS, a_] at hd
    simp [exSt, exS, exC, exK]
    refine effCall hd ?_
    simp
    refine ⟨by kernel_rfl, by kernel_rfl, ?_⟩
    exact ⟨_, (by decide : 13 - 6 < 13 - 5), _, ⟨6, rfl, by decide, rfl⟩, [], _, rfl, by simp [small_wrap (a := 6) (by decide)]⟩
  · have hd := do_m (exS 0 false [⟨7, 0, 0⟩] [] [] []) (exHeld (by decide)) (a_ 10 0 0 9 false) (by decide)
    rw [ex7] at hd
    simp [exS, a_] at hd
    simp [exSt, exS, exC, exK]
    refine effCall hd ?_
    simp
    refine ⟨by kernel_rfl, by kernel_rfl, ?_⟩
    exact ⟨_, (by decide : 13 - 7 < 13 - 6), _, ⟨7, rfl, by decide, rfl⟩, [], _, rfl, by simp [small_wrap (a := 7) (by decide)]⟩
  · have hd := do_m (exS 9 false [⟨7, 0, 0⟩] [] [] []) (exHeld (by decide)) (a_ 0 3 0 50 false) (by decide)
    rw [ex8] at hd
    simp [exS, a_] at hd
    simp [exSt, exS, exC, exK]
    refine effCall hd ?_
    simp
    refine ⟨by kernel_rfl, by kernel_rfl, ?_⟩
    exact ⟨_, (by decide : 13 - 8 < 13 - 7), _, ⟨8, rfl, by decide, rfl⟩, [], _, rfl, by simp [small_wrap (a := 8) (by decide)]⟩
  · have hd := do_m (exS 9 false [] [⟨3, 7, 0⟩] [] []) (exHeld (by decide)) (a_ 6 3 0 0 false) (by decide)
    rw [ex9] at hd
    simp [exS, a_] at hd
    simp [exSt, exS, exC, exK]
    refine effCall hd ?_
    simp
    refine ⟨by kernel_rfl, by kernel_rfl, ?_⟩
    exact ⟨_, (by decide : 13 - 9 < 13 - 8), _, ⟨9, rfl, by decide, rfl⟩, [], _, rfl, by simp [small_wrap (a := 9) (by decide)]⟩
  · have hd := do_m (exS 9 false [] [] [] []) (exHeld (by decide)) (a_ 0 4 0 20 false) (by decide)
    rw [ex10] at hd
    simp [exS, a_] at hd
    simp [exSt, exS, exC, exK]
    refine effCall hd ?_
    simp
    refine ⟨by kernel_rfl, by kernel_rfl, ?_⟩
    exact ⟨_, (by decide : 13 - 10 < 13 - 9), _, ⟨10, rfl, by decide, rfl⟩, [], _, rfl, by simp [small_wrap (a := 10) (by decide)]⟩
  · have hd := do_m (exS 9 false [] [] [⟨4, false⟩] []) (exHeld (by decide)) (a_ 9 4 0 0 false) (by decide)
    rw [ex11] at hd
    simp [exS, a_] at hd
    simp [exSt, exS, exC, exK]
    refine effCall hd ?_
    simp
    refine ⟨by kernel_rfl, by kernel_rfl, ?_⟩
    exact ⟨_, (by decide : 13 - 11 < 13 - 10), _, ⟨11, rfl, by decide, rfl⟩, [], _, rfl, by simp [small_wrap (a := 11) (by decide)]⟩
  · have hd := do_m (exS 9 false [] [] [⟨4, true⟩] []) (exHeld (by decide)) (a_ 11 0 0 0 true) (by decide)
    rw [ex12] at hd
    simp [exS, a_] at hd
    simp [exSt, exS, exC, exK]
    refine effCall hd ?_
    simp
    refine ⟨by kernel_rfl, by kernel_rfl, ?_⟩
    exact ⟨_, (by decide : 13 - 12 < 13 - 11), _, ⟨12, rfl, by decide, rfl⟩, [], _, rfl, by simp [small_wrap (a := 12) (by decide)]⟩
  · have hd := do_m (exS 9 true [] [] [⟨4, true⟩] []) (exHeld (by decide)) (a_ 4 4 8 0 true) (by decide)
    rw [ex13] at hd
    simp [exS, a_] at hd
    simp [exSt, exS, exC, exK]
    refine effCall hd ?_
    simp
    refine ⟨by kernel_rfl, by kernel_rfl, ?_⟩
    exact ⟨_, ⟨13, rfl, by decide, rfl⟩, [], _, rfl, by simp [small_wrap (a := 13) (by decide)]⟩
  · simp
    exact vcRet_of [] (by simp) rfl
end Go.Proofs.YtajjmhpdiikjhaaGreat.Po
