/- Contracts: retry's small functions. No condition. -/
import Derived.Test.YtakmipccgpgfgaaTab
import Derived.Test.YtakmipccgpgfgaaV21
import Derived.Test.YtakmipccgpgfgaaRSpec
namespace Go.Proofs.Ytakmipccgpgfgaa
open Go.RowKit

@[simp] def Fl.pv (f : Fl) : PV := .agg [.i f.phase, .i f.status, .i f.tries, .i f.sent, .b f.idem]
@[simp] def ics (n : Int) : List D := [.v (.int .i64 n)]
@[simp] def il (l : List Int) : D := .sl 1 (l.map ics)
@[simp] def Bu.pv (b : Bu) : PV := .agg [.i b.ratio, .i b.least, .i b.window, .d (il b.reqs), .d (il b.rets)]
theorem at_lt {α : Type} {xs : List α} {k : Nat} (h : k < xs.length) : ∃ x, xs[k]? = some x ∧ xs[k] = x := ⟨_, List.getElem?_eq_getElem h, rfl⟩
theorem wrap_succ {k n : Nat} (h : k < n) (hn : n < 4294967296) : IntKind.i64.wrap ((k : Int) + 1) = (k : Int) + 1 := IntWalk.i64_in _ (by omega)

theorem outside_m (n lo hi : Int) : Meets Try.prog 25 [.i n, .i lo, .i hi] [] (Ret (.b (outs n lo hi))) := by
  refine meets tbOk mixed Try.func25 pl25 rfl rfl ?_
  simp [Try.ntmps25]
  refine ⟨fun h => vcRet_of [] ?_ rfl, fun h => vcRet_of [] ?_ rfl⟩
  · simp [outs]; omega
  · simp [outs, h]
theorem rule1_m (f : Fl) (most : Int) : Meets Try.prog 46 [f.pv, .i most] [] (Ret (.b (decide (f.phase = 1)))) := by
  refine meets tbOk mixed Try.func46 pl46 rfl rfl ?_
  simp [Try.ntmps46]
  refine vcRet_of [] ?_ rfl
  simp
theorem rule2_m (f : Fl) (most : Int) : Meets Try.prog 47 [f.pv, .i most] [] (Ret (.b (decide (f.phase = 6)))) := by
  refine meets tbOk mixed Try.func47 pl47 rfl rfl ?_
  simp [Try.ntmps47]
  refine vcRet_of [] ?_ rfl
  simp
theorem rule5_m (f : Fl) (most : Int) : Meets Try.prog 51 [f.pv, .i most] [] (Ret (.b (decide (most < f.tries)))) := by
  refine meets tbOk mixed Try.func51 pl51 rfl rfl ?_
  simp [Try.ntmps51]
  refine vcRet_of [] ?_ rfl
  simp
theorem rule4_m (f : Fl) (most : Int) : Meets Try.prog 50 [f.pv, .i most] [] (Ret (.b (decide (0 < f.sent ∧ f.idem = false)))) := by
  refine meets tbOk mixed Try.func50 pl50 rfl rfl ?_
  simp [Try.ntmps50]
  refine ⟨fun h => vcRet_of [] ?_ rfl, fun h => vcRet_of [] ?_ rfl⟩
  · simp [h]
  · simp; omega
theorem index_m (xs : List Int) (v : Int) (hl : xs.length < 4294967296) : Meets Try.prog 55 [.d (il xs), .i v] [] (fun r => ∃ k : Int, (0 ≤ k ↔ v ∈ xs) ∧ r = ⟨.i k, [], []⟩) := by
  refine meets tbOk mixed Try.func55 pl55 rfl rfl ?_
  simp [Try.ntmps55]
  refine vc_loop (fun n σ => ∃ k : Nat, n = xs.length - k ∧ k ≤ xs.length ∧ (∀ x ∈ xs.take k, v ≠ x) ∧ σ = ⟨19, [(8, .i k), (7, .i xs.length), (0, .d (il xs)), (1, .i v)], []⟩) ?_ ?_
  · exact ⟨_, _, ⟨0, rfl, Nat.zero_le _, by simp, rfl⟩, [], _, rfl, by simp⟩
  rintro n σ ⟨k, rfl, hk, hn, rfl⟩
  by_cases hlt : k < xs.length
  · obtain ⟨x, hx, e⟩ := at_lt hlt
    by_cases hv : v = x
    · simp [hlt, e, hv]
      refine vcRet_of [] ?_ ⟨k, ⟨fun _ => List.mem_of_getElem? hx, fun _ => by omega⟩, rfl⟩
      simp
    · simp [hlt, e, hv, wrap_succ hlt hl]
      refine ⟨_, ?_, _, ⟨k + 1, rfl, hlt, fun y hy => ?_, rfl⟩, [], _, rfl, by simp⟩
      · omega
      · rw [List.take_add_one, hx] at hy
        rcases List.mem_append.1 hy with hy | hy
        · exact hn y hy
        · simp at hy; subst hy; exact hv
  obtain rfl : k = xs.length := by omega
  simp
  refine vcRet_of [] ?_ ⟨-1, ⟨fun h => by omega, fun h => absurd rfl (hn v (by rwa [List.take_length]))⟩, rfl⟩
  simp
theorem contains_m (xs : List Int) (v : Int) (hl : xs.length < 4294967296) : Meets Try.prog 49 [.d (il xs), .i v] [] (Ret (.b (decide (v ∈ xs)))) := by
  refine meets tbOk mixed Try.func49 pl49 rfl rfl ?_
  simp [Try.ntmps49]
  refine (index_m xs v hl).mono ?_
  rintro _ ⟨k, hk, rfl⟩
  simp
  refine vcRet_of [] ?_ rfl
  simp [hk]
theorem rule3_m (f : Fl) (most : Int) : Meets Try.prog 48 [f.pv, .i most] [] (Ret (.b (decide (f.phase = 7 ∧ ¬ (f.status = 502 ∨ f.status = 503 ∨ f.status = 504))))) := by
  refine meets tbOk mixed Try.func48 pl48 rfl rfl ?_
  by_cases h : f.phase = 7
  · simp [Try.ntmps48, h]
    refine (contains_m [502, 503, 504] f.status (by simp)).mono ?_
    rintro _ rfl
    simp
    refine vcRet_of [] ?_ rfl
    simp [h]
  · simp [Try.ntmps48, h]
    refine vcRet_of [] ?_ rfl
    simp [h]
set_option maxRecDepth 8000 in
theorem bad1_m (st tr se : Int) (id : Bool) : Meets Try.prog 26 [(Fl.mk 1 st tr se id).pv] [] (Ret (.b (badF ⟨1, st, tr, se, id⟩))) := by
  refine meets tbOk mixed Try.func26 pl26 rfl rfl ?_
  by_cases h1 : st = 0
  case neg =>
    simp [Try.ntmps26, h1]
    refine vcRet_of [] ?_ rfl
    simp [badF, badIn, h1]
  simp [Try.ntmps26, h1]
  refine (outside_m se 0 0).mono ?_
  rintro _ rfl
  by_cases h2 : outs se 0 0 = true
  · simp [h2]
    refine vcRet_of [] ?_ rfl
    simp [badF, badIn, h2]
  simp only [Bool.not_eq_true] at h2
  simp [h2]
  refine (outside_m tr 1 100).mono ?_
  rintro _ rfl
  simp
  refine vcRet_of [] ?_ rfl
  simp [badF, badIn, h1, h2]
set_option maxRecDepth 8000 in
theorem bad2_m (st tr se : Int) (id : Bool) : Meets Try.prog 26 [(Fl.mk 2 st tr se id).pv] [] (Ret (.b (badF ⟨2, st, tr, se, id⟩))) := by
  refine meets tbOk mixed Try.func26 pl26 rfl rfl ?_
  by_cases h1 : st = 0
  case neg =>
    simp [Try.ntmps26, h1]
    refine vcRet_of [] ?_ rfl
    simp [badF, badIn, h1]
  simp [Try.ntmps26, h1]
  refine (outside_m se 0 0).mono ?_
  rintro _ rfl
  by_cases h2 : outs se 0 0 = true
  · simp [h2]
    refine vcRet_of [] ?_ rfl
    simp [badF, badIn, h2]
  simp only [Bool.not_eq_true] at h2
  simp [h2]
  refine (outside_m tr 1 100).mono ?_
  rintro _ rfl
  simp
  refine vcRet_of [] ?_ rfl
  simp [badF, badIn, h1, h2]
set_option maxRecDepth 8000 in
theorem bad3_m (st tr se : Int) (id : Bool) : Meets Try.prog 26 [(Fl.mk 3 st tr se id).pv] [] (Ret (.b (badF ⟨3, st, tr, se, id⟩))) := by
  refine meets tbOk mixed Try.func26 pl26 rfl rfl ?_
  by_cases h1 : st = 0
  case neg =>
    simp [Try.ntmps26, h1]
    refine vcRet_of [] ?_ rfl
    simp [badF, badIn, h1]
  simp [Try.ntmps26, h1]
  refine (outside_m se 0 0).mono ?_
  rintro _ rfl
  by_cases h2 : outs se 0 0 = true
  · simp [h2]
    refine vcRet_of [] ?_ rfl
    simp [badF, badIn, h2]
  simp only [Bool.not_eq_true] at h2
  simp [h2]
  refine (outside_m tr 1 100).mono ?_
  rintro _ rfl
  simp
  refine vcRet_of [] ?_ rfl
  simp [badF, badIn, h1, h2]
set_option maxRecDepth 8000 in
theorem bad4_m (st tr se : Int) (id : Bool) : Meets Try.prog 26 [(Fl.mk 4 st tr se id).pv] [] (Ret (.b (badF ⟨4, st, tr, se, id⟩))) := by
  refine meets tbOk mixed Try.func26 pl26 rfl rfl ?_
  by_cases h1 : st = 0
  case neg =>
    simp [Try.ntmps26, h1]
    refine vcRet_of [] ?_ rfl
    simp [badF, badIn, h1]
  simp [Try.ntmps26, h1]
  refine (outside_m se 0 1000000000).mono ?_
  rintro _ rfl
  by_cases h2 : outs se 0 1000000000 = true
  · simp [h2]
    refine vcRet_of [] ?_ rfl
    simp [badF, badIn, h2]
  simp only [Bool.not_eq_true] at h2
  simp [h2]
  refine (outside_m tr 1 100).mono ?_
  rintro _ rfl
  simp
  refine vcRet_of [] ?_ rfl
  simp [badF, badIn, h1, h2]
set_option maxRecDepth 8000 in
theorem bad5_m (st tr se : Int) (id : Bool) : Meets Try.prog 26 [(Fl.mk 5 st tr se id).pv] [] (Ret (.b (badF ⟨5, st, tr, se, id⟩))) := by
  refine meets tbOk mixed Try.func26 pl26 rfl rfl ?_
  by_cases h1 : st = 0
  case neg =>
    simp [Try.ntmps26, h1]
    refine vcRet_of [] ?_ rfl
    simp [badF, badIn, h1]
  simp [Try.ntmps26, h1]
  refine (outside_m se 1 1000000000).mono ?_
  rintro _ rfl
  by_cases h2 : outs se 1 1000000000 = true
  · simp [h2]
    refine vcRet_of [] ?_ rfl
    simp [badF, badIn, h2]
  simp only [Bool.not_eq_true] at h2
  simp [h2]
  refine (outside_m tr 1 100).mono ?_
  rintro _ rfl
  simp
  refine vcRet_of [] ?_ rfl
  simp [badF, badIn, h1, h2]
set_option maxRecDepth 8000 in
theorem bad6_m (st tr se : Int) (id : Bool) : Meets Try.prog 26 [(Fl.mk 6 st tr se id).pv] [] (Ret (.b (badF ⟨6, st, tr, se, id⟩))) := by
  refine meets tbOk mixed Try.func26 pl26 rfl rfl ?_
  by_cases h1 : st = 0
  case neg =>
    simp [Try.ntmps26, h1]
    refine vcRet_of [] ?_ rfl
    simp [badF, badIn, h1]
  simp [Try.ntmps26, h1]
  refine (outside_m se 1 1000000000).mono ?_
  rintro _ rfl
  by_cases h2 : outs se 1 1000000000 = true
  · simp [h2]
    refine vcRet_of [] ?_ rfl
    simp [badF, badIn, h2]
  simp only [Bool.not_eq_true] at h2
  simp [h2]
  refine (outside_m tr 1 100).mono ?_
  rintro _ rfl
  simp
  refine vcRet_of [] ?_ rfl
  simp [badF, badIn, h1, h2]
set_option maxRecDepth 8000 in
theorem bad7_m (st tr se : Int) (id : Bool) : Meets Try.prog 26 [(Fl.mk 7 st tr se id).pv] [] (Ret (.b (badF ⟨7, st, tr, se, id⟩))) := by
  refine meets tbOk mixed Try.func26 pl26 rfl rfl ?_
  simp [Try.ntmps26]
  refine (outside_m st 100 599).mono ?_
  rintro _ rfl
  by_cases h1 : outs st 100 599 = true
  · simp [h1]
    refine vcRet_of [] ?_ rfl
    simp [badF, badIn, h1]
  simp only [Bool.not_eq_true] at h1
  simp [h1]
  refine (outside_m se 1 1000000000).mono ?_
  rintro _ rfl
  by_cases h2 : outs se 1 1000000000 = true
  · simp [h2]
    refine vcRet_of [] ?_ rfl
    simp [badF, badIn, h2]
  simp only [Bool.not_eq_true] at h2
  simp [h2]
  refine (outside_m tr 1 100).mono ?_
  rintro _ rfl
  simp
  refine vcRet_of [] ?_ rfl
  simp [badF, badIn, h1, h2]
set_option maxRecDepth 8000 in
theorem bad_m (f : Fl) : Meets Try.prog 26 [f.pv] [] (Ret (.b (badF f))) := by
  obtain ⟨ph, st, tr, se, id⟩ := f
  by_cases h1 : ph = 1
  · subst h1; exact bad1_m st tr se id
  by_cases h2 : ph = 2
  · subst h2; exact bad2_m st tr se id
  by_cases h3 : ph = 3
  · subst h3; exact bad3_m st tr se id
  by_cases h4 : ph = 4
  · subst h4; exact bad4_m st tr se id
  by_cases h5 : ph = 5
  · subst h5; exact bad5_m st tr se id
  by_cases h6 : ph = 6
  · subst h6; exact bad6_m st tr se id
  by_cases h7 : ph = 7
  · subst h7; exact bad7_m st tr se id
  refine meets tbOk mixed Try.func26 pl26 rfl rfl ?_
  simp [Try.ntmps26, h1, h2, h3, h4, h5, h6, h7]
  refine vcRet_of [] ?_ rfl
  simp [badF, h1, h2, h3, h4, h5, h6, h7]
end Go.Proofs.Ytakmipccgpgfgaa
