/- The pool: contracts, first part. No condition. -/
import Derived.Test.YtajjmhpdiikjhaaGreatN1
import Derived.Test.YtajjmhpdiikjhaaGreatN2
import Derived.Test.YtajjmhpdiikjhaaGreatN3
import Derived.Test.YtajjmhpdiikjhaaGreatN4
import Derived.Test.YtajjmhpdiikjhaaGreatV25
namespace Go.Proofs.YtajjmhpdiikjhaaGreat.Po
set_option maxRecDepth 100000
open Go.RowKit

@[simp] def Ls.dd (x : Ls) : List D := [.v (.int .i64 x.call), .v (.int .i64 x.conn), .v (.int .i64 x.born)]
@[simp] def Ls.pv (x : Ls) : PV := .agg [.i x.call, .i x.conn, .i x.born]
@[simp] def Dl.dd (x : Dl) : List D := [.v (.int .i64 x.call), .v (.bool x.gone)]
@[simp] def Dl.pv (x : Dl) : PV := .agg [.i x.call, .b x.gone]
@[simp] def ll (xs : List Ls) : D := .sl 3 (xs.map Ls.dd)
@[simp] def dl (xs : List Dl) : D := .sl 2 (xs.map Dl.dd)
theorem at_lt {α : Type} {xs : List α} {k : Nat} (h : k < xs.length) : ∃ x, xs[k]? = some x ∧ xs[k] = x := ⟨_, List.getElem?_eq_getElem h, rfl⟩
theorem lt_some {α : Type} {xs : List α} {k : Nat} {x : α} (h : xs[k]? = some x) : k < xs.length := (List.getElem?_eq_some_iff.1 h).1
theorem wrap_succ {k n : Nat} (h : k < n) (hn : n < 4294967296) : IntKind.i64.wrap ((k : Int) + 1) = (k : Int) + 1 := IntWalk.i64_in _ (by omega)
theorem small_wrap {a : Int} (h : -4000000000000 ≤ a ∧ a ≤ 4000000000000) : IntKind.i64.wrap a = a := IntWalk.i64_in _ (by omega)
def cmp3 (a b : Int) : Int := if a < b then -1 else if b < a then 1 else 0
theorem cmp3_lt {a b : Int} : cmp3 a b < 0 ↔ a < b := by unfold cmp3; split <;> (try split) <;> simp <;> omega
theorem cmp3_eq {a b : Int} : cmp3 a b = 0 ↔ a = b := by unfold cmp3; split <;> (try split) <;> simp <;> omega
theorem number_m (n : Int) : Meets Tryz.prog 54 [.i n] [] (Ret (.b (numOk n))) := by
  refine meetsH [] tbOk mixed Tryz.func54 pl54 rfl rfl ?_
  by_cases h : 1 ≤ n
  · simp [Tryz.ntmps54, h]
    refine vcRet_of [] ?_ rfl
    simp [numOk, h]
  · simp [Tryz.ntmps54, h]
    refine vcRet_of [] ?_ rfl
    simp [numOk, h]
theorem time_m (n : Int) : Meets Tryz.prog 70 [.i n] [] (Ret (.b (timeOk n))) := by
  refine meetsH [] tbOk mixed Tryz.func70 pl70 rfl rfl ?_
  by_cases h : 0 ≤ n
  · simp [Tryz.ntmps70, h]
    refine vcRet_of [] ?_ rfl
    simp [timeOk, h]
  · simp [Tryz.ntmps70, h]
    refine vcRet_of [] ?_ rfl
    simp [timeOk, h]
theorem nan_m (n : Int) : Meets Tryz.prog 144 [.i n] [] (Ret (.b false)) := by
  refine meetsH [] tbOk mixed Tryz.func144 pl144 rfl rfl ?_
  simp [Tryz.ntmps144]
  exact vcRet_of [] (by simp) rfl
theorem compare_m (a b : Int) : Meets Tryz.prog 117 [.i a, .i b] [] (Ret (.i (cmp3 a b))) := by
  refine meetsH [] tbOk mixed Tryz.func117 pl117 rfl rfl ?_
  simp [Tryz.ntmps117]
  refine (nan_m a).mono ?_
  rintro _ rfl
  simp
  refine (nan_m b).mono ?_
  rintro _ rfl
  by_cases h1 : a < b
  · simp [h1]
    refine vcRet_of [] ?_ rfl
    simp [cmp3, h1]
  by_cases h2 : b < a
  · simp [h1, h2]
    refine vcRet_of [] ?_ rfl
    simp [cmp3, h1, h2]
  · simp [h1, h2]
    refine vcRet_of [] ?_ rfl
    simp [cmp3, h1, h2]

theorem keyD_m (x : Dl) : Meets Tryz.prog 56 [x.pv] [] (Ret (.i x.call)) := by
  refine meetsH [] tbOk mixed Tryz.func56 pl56 rfl rfl ?_
  simp [Tryz.ntmps56]
  exact vcRet_of [] (by simp) rfl
theorem add1D_m (x : Dl) (k : Int) : Meets Tryz.prog 116 [x.pv, .i k, .ptr 1000000 0] [.box 106 [.clo 56 []]] (fun r => r = ⟨.i (cmp3 x.call k), [.box 106 [.clo 56 []]], []⟩) := by
  refine meetsH [] tbOk mixed Tryz.func116 pl116 rfl rfl ?_
  simp [Tryz.ntmps116]
  refine (keyD_m x).mono ?_
  rintro _ rfl
  simp
  refine (compare_m x.call k).mono ?_
  rintro _ rfl
  simp
  exact vcRet_of [] (by simp) rfl
def foundD (xs : List Dl) (k : Int) : Bool := match xs[below Dl.call xs k]? with
  | some x => decide (x.call = k)
  | none => false
set_option maxHeartbeats 1000000 in
theorem searchD_m (xs : List Dl) (hu : Up (xs.map Dl.call)) (k : Int) (hl : xs.length < 4294967296) : Meets Tryz.prog 115 [.d (dl xs), .i k, .clo 116 [.ptr 1000000 0]] [.box 106 [.clo 56 []]]
    (fun r => r = ⟨.tup [.i (below Dl.call xs k), .b (foundD xs k)], [.box 106 [.clo 56 []]], []⟩) := by
  refine meetsH [] tbOk mixed Tryz.func115 pl115 rfl rfl ?_
  simp [Tryz.ntmps115]
  have hb0 := below_le Dl.call xs k
  refine vc_loop (fun n σ => ∃ i j : Nat, n = j - i ∧ i ≤ below Dl.call xs k ∧ below Dl.call xs k ≤ j ∧ j ≤ xs.length ∧ σ = ⟨49, [(9, .i i), (10, .i j), (8, .i xs.length), (6, .i 0), (7, .b false), (0, .d (dl xs)), (1, .i k), (2, .clo 116 [.ptr 1000000 0])], [(1000000, .box 106 [.clo 56 []])]⟩) ?_ ?_
  · exact ⟨_, _, ⟨0, xs.length, rfl, Nat.zero_le _, hb0, Nat.le_refl _, rfl⟩, [], _, rfl, by simp⟩
  rintro n σ ⟨i, j, rfl, hi, hj, hjl, rfl⟩
  by_cases hlt : i < j
  · have w1 : IntKind.i64.wrap ((i : Int) + j) = (i : Int) + j := IntWalk.i64_in _ (by omega)
    have w2 : IntKind.u64.wrap ((i : Int) + j) = (i : Int) + j := IntWalk.u64_in _ (by omega)
    have e1 : min 1 IntKind.u64.bits = 1 := by decide
    have e2 : ((i : Int) + j).fdiv 2 = (((i + j) / 2 : Nat) : Int) := by
      rw [Int.fdiv_eq_ediv_of_nonneg _ (by decide)]; omega
    have w3 : IntKind.i64.wrap (((i + j) / 2 : Nat) : Int) = (((i + j) / 2 : Nat) : Int) := IntWalk.i64_in _ (by omega)
    obtain ⟨h, hh⟩ : ∃ h, (i + j) / 2 = h := ⟨_, rfl⟩
    rw [hh] at e2 w3
    have hhl : h < xs.length := by omega
    obtain ⟨x, hx, e⟩ := at_lt hhl
    have hsp := below_spec (k := k) hu hx
    simp [hlt, w1, w2, e1, e2, w3, hhl, e]
    refine (add1D_m x k).mono ?_
    rintro _ rfl
    by_cases hc : x.call < k
    · simp [cmp3_lt.2 hc, wrap_succ hhl hl]
      refine ⟨j - (h + 1), by omega, _, ⟨h + 1, j, rfl, by omega, hj, hjl, rfl⟩, [], _, rfl, by simp⟩
    · have hc' : ¬ cmp3 x.call k < 0 := fun h => hc (cmp3_lt.1 h)
      simp [hc']
      refine ⟨h - i, by omega, _, ⟨i, h, rfl, hi, by omega, by omega, rfl⟩, [], _, rfl, by simp⟩
  obtain rfl : i = j := by omega
  have hib : below Dl.call xs k = i := by omega
  rw [hib]
  by_cases hil : i < xs.length
  · obtain ⟨x, hx, e⟩ := at_lt hil
    simp [hil, e]
    refine (add1D_m x k).mono ?_
    rintro _ rfl
    simp
    refine vcRet_of [] ?_ rfl
    simp [foundD, hib, hx, cmp3_eq]
  · simp [hil]
    refine vcRet_of [] ?_ rfl
    simp [foundD, hib, hil]
theorem cloneD_m (xs : List Dl) (hl : xs.length < 4294967296) : Meets Tryz.prog 104 [.d (dl xs)] [] (fun r => r = ⟨.rw 2000000 xs.length, [], [.row 66 2 (xs.map Dl.dd) false]⟩) := by
  refine meetsH [] tbOk mixed Tryz.func104 pl104 rfl rfl ?_
  simp [Tryz.ntmps104]
  refine ⟨⟨hl, vcRet_of [5] ?_ rfl⟩, fun h => vcRet_prep [.row 2 66 2] [2] rfl ?_ rfl⟩
  · simp
  · simp [h]
set_option maxHeartbeats 1000000 in
theorem deleteD_m (xs : List Dl) (i : Nat) (hi : i < xs.length) (hl : xs.length < 4294967296) : Meets Tryz.prog 103 [.rw 1000000 xs.length, .i i, .i ((i : Int) + 1)] [.row 66 2 (xs.map Dl.dd) false]
    (fun r => r = ⟨.rw 1000000 (xs.length - 1), [.row 66 2 ((xs.eraseIdx i).map Dl.dd ++ [[.v (.int .i64 0), .v (.bool false)]]) false], []⟩) := by
  refine meets tbOk mixed Tryz.func103 pl103 rfl rfl ?_
  have h1 : ¬ ((i : Int) = i + 1) := by omega
  have h2 : ¬ (i = xs.length) := by omega
  have e3 : i + (xs.length - (i + 1)) = xs.length - 1 := by omega
  simp [Tryz.ntmps103, h1, h2, e3]
  refine ⟨⟨by omega, by omega⟩, by omega, ⟨by omega, by omega⟩, by omega, by kernel_rfl, ?_⟩
  refine ⟨by omega, by omega, vcRet_of [] ?_ rfl⟩
  have e4 : List.take (xs.length - (i + 1)) (List.drop (i + 1) (List.map Dl.dd xs)) = List.drop (i + 1) (List.map Dl.dd xs) := List.take_of_length_le (by simp)
  have e5 : xs.length - (xs.length - 1) = 1 := by omega
  have e6 : List.map Dl.dd (xs.eraseIdx i) = List.take i (List.map Dl.dd xs) ++ List.drop (i + 1) (List.map Dl.dd xs) := by rw [List.eraseIdx_eq_take_drop_succ, List.map_append, List.map_take, List.map_drop]
  have e7 : List.take (xs.length - 1) (List.take i (List.map Dl.dd xs) ++ (List.drop (i + 1) (List.map Dl.dd xs) ++ List.drop (xs.length - 1) (List.map Dl.dd xs))) = List.take i (List.map Dl.dd xs) ++ List.drop (i + 1) (List.map Dl.dd xs) := by
    rw [← List.append_assoc]
    exact List.take_left' (by simp; omega)
  have e8 : List.drop xs.length (List.take i (List.map Dl.dd xs) ++ (List.drop (i + 1) (List.map Dl.dd xs) ++ List.drop (xs.length - 1) (List.map Dl.dd xs))) = [] := List.drop_of_length_le (by simp; omega)
  rw [e4, e5, e6]
  simp [e7, e8]

theorem keyL_m (x : Ls) : Meets Tryz.prog 68 [x.pv] [] (Ret (.i x.call)) := by
  refine meetsH [] tbOk mixed Tryz.func68 pl68 rfl rfl ?_
  simp [Tryz.ntmps68]
  exact vcRet_of [] (by simp) rfl
theorem add1L_m (x : Ls) (k : Int) : Meets Tryz.prog 141 [x.pv, .i k, .ptr 1000000 0] [.box 117 [.clo 68 []]] (fun r => r = ⟨.i (cmp3 x.call k), [.box 117 [.clo 68 []]], []⟩) := by
  refine meetsH [] tbOk mixed Tryz.func141 pl141 rfl rfl ?_
  simp [Tryz.ntmps141]
  refine (keyL_m x).mono ?_
  rintro _ rfl
  simp
  refine (compare_m x.call k).mono ?_
  rintro _ rfl
  simp
  exact vcRet_of [] (by simp) rfl
def foundL (xs : List Ls) (k : Int) : Bool := match xs[below Ls.call xs k]? with
  | some x => decide (x.call = k)
  | none => false
set_option maxHeartbeats 1000000 in
theorem searchL_m (xs : List Ls) (hu : Up (xs.map Ls.call)) (k : Int) (hl : xs.length < 4294967296) : Meets Tryz.prog 140 [.d (ll xs), .i k, .clo 141 [.ptr 1000000 0]] [.box 117 [.clo 68 []]]
    (fun r => r = ⟨.tup [.i (below Ls.call xs k), .b (foundL xs k)], [.box 117 [.clo 68 []]], []⟩) := by
  refine meetsH [] tbOk mixed Tryz.func140 pl140 rfl rfl ?_
  simp [Tryz.ntmps140]
  have hb0 := below_le Ls.call xs k
  refine vc_loop (fun n σ => ∃ i j : Nat, n = j - i ∧ i ≤ below Ls.call xs k ∧ below Ls.call xs k ≤ j ∧ j ≤ xs.length ∧ σ = ⟨49, [(9, .i i), (10, .i j), (8, .i xs.length), (6, .i 0), (7, .b false), (0, .d (ll xs)), (1, .i k), (2, .clo 141 [.ptr 1000000 0])], [(1000000, .box 117 [.clo 68 []])]⟩) ?_ ?_
  · exact ⟨_, _, ⟨0, xs.length, rfl, Nat.zero_le _, hb0, Nat.le_refl _, rfl⟩, [], _, rfl, by simp⟩
  rintro n σ ⟨i, j, rfl, hi, hj, hjl, rfl⟩
  by_cases hlt : i < j
  · have w1 : IntKind.i64.wrap ((i : Int) + j) = (i : Int) + j := IntWalk.i64_in _ (by omega)
    have w2 : IntKind.u64.wrap ((i : Int) + j) = (i : Int) + j := IntWalk.u64_in _ (by omega)
    have e1 : min 1 IntKind.u64.bits = 1 := by decide
    have e2 : ((i : Int) + j).fdiv 2 = (((i + j) / 2 : Nat) : Int) := by
      rw [Int.fdiv_eq_ediv_of_nonneg _ (by decide)]; omega
    have w3 : IntKind.i64.wrap (((i + j) / 2 : Nat) : Int) = (((i + j) / 2 : Nat) : Int) := IntWalk.i64_in _ (by omega)
    obtain ⟨h, hh⟩ : ∃ h, (i + j) / 2 = h := ⟨_, rfl⟩
    rw [hh] at e2 w3
    have hhl : h < xs.length := by omega
    obtain ⟨x, hx, e⟩ := at_lt hhl
    have hsp := below_spec (k := k) hu hx
    simp [hlt, w1, w2, e1, e2, w3, hhl, e]
    refine (add1L_m x k).mono ?_
    rintro _ rfl
    by_cases hc : x.call < k
    · simp [cmp3_lt.2 hc, wrap_succ hhl hl]
      refine ⟨j - (h + 1), by omega, _, ⟨h + 1, j, rfl, by omega, hj, hjl, rfl⟩, [], _, rfl, by simp⟩
    · have hc' : ¬ cmp3 x.call k < 0 := fun h => hc (cmp3_lt.1 h)
      simp [hc']
      refine ⟨h - i, by omega, _, ⟨i, h, rfl, hi, by omega, by omega, rfl⟩, [], _, rfl, by simp⟩
  obtain rfl : i = j := by omega
  have hib : below Ls.call xs k = i := by omega
  rw [hib]
  by_cases hil : i < xs.length
  · obtain ⟨x, hx, e⟩ := at_lt hil
    simp [hil, e]
    refine (add1L_m x k).mono ?_
    rintro _ rfl
    simp
    refine vcRet_of [] ?_ rfl
    simp [foundL, hib, hx, cmp3_eq]
  · simp [hil]
    refine vcRet_of [] ?_ rfl
    simp [foundL, hib, hil]
theorem cloneL_m (xs : List Ls) (hl : xs.length < 4294967296) : Meets Tryz.prog 112 [.d (ll xs)] [] (fun r => r = ⟨.rw 2000000 xs.length, [], [.row 71 3 (xs.map Ls.dd) false]⟩) := by
  refine meetsH [] tbOk mixed Tryz.func112 pl112 rfl rfl ?_
  simp [Tryz.ntmps112]
  refine ⟨⟨hl, vcRet_of [5] ?_ rfl⟩, fun h => vcRet_prep [.row 2 71 3] [2] rfl ?_ rfl⟩
  · simp
  · simp [h]
set_option maxHeartbeats 1000000 in
theorem deleteL_m (xs : List Ls) (i : Nat) (hi : i < xs.length) (hl : xs.length < 4294967296) : Meets Tryz.prog 111 [.rw 1000000 xs.length, .i i, .i ((i : Int) + 1)] [.row 71 3 (xs.map Ls.dd) false]
    (fun r => r = ⟨.rw 1000000 (xs.length - 1), [.row 71 3 ((xs.eraseIdx i).map Ls.dd ++ [[.v (.int .i64 0), .v (.int .i64 0), .v (.int .i64 0)]]) false], []⟩) := by
  refine meets tbOk mixed Tryz.func111 pl111 rfl rfl ?_
  have h1 : ¬ ((i : Int) = i + 1) := by omega
  have h2 : ¬ (i = xs.length) := by omega
  have e3 : i + (xs.length - (i + 1)) = xs.length - 1 := by omega
  simp [Tryz.ntmps111, h1, h2, e3]
  refine ⟨⟨by omega, by omega⟩, by omega, ⟨by omega, by omega⟩, by omega, by kernel_rfl, ?_⟩
  refine ⟨by omega, by omega, vcRet_of [] ?_ rfl⟩
  have e4 : List.take (xs.length - (i + 1)) (List.drop (i + 1) (List.map Ls.dd xs)) = List.drop (i + 1) (List.map Ls.dd xs) := List.take_of_length_le (by simp)
  have e5 : xs.length - (xs.length - 1) = 1 := by omega
  have e6 : List.map Ls.dd (xs.eraseIdx i) = List.take i (List.map Ls.dd xs) ++ List.drop (i + 1) (List.map Ls.dd xs) := by rw [List.eraseIdx_eq_take_drop_succ, List.map_append, List.map_take, List.map_drop]
  have e7 : List.take (xs.length - 1) (List.take i (List.map Ls.dd xs) ++ (List.drop (i + 1) (List.map Ls.dd xs) ++ List.drop (xs.length - 1) (List.map Ls.dd xs))) = List.take i (List.map Ls.dd xs) ++ List.drop (i + 1) (List.map Ls.dd xs) := by
    rw [← List.append_assoc]
    exact List.take_left' (by simp; omega)
  have e8 : List.drop xs.length (List.take i (List.map Ls.dd xs) ++ (List.drop (i + 1) (List.map Ls.dd xs) ++ List.drop (xs.length - 1) (List.map Ls.dd xs))) = [] := List.drop_of_length_le (by simp; omega)
  rw [e4, e5, e6]
  simp [e7, e8]
end Go.Proofs.YtajjmhpdiikjhaaGreat.Po
namespace Go.Proofs.YtajjmhpdiikjhaaGreat.Po
set_option maxRecDepth 100000
open Go.RowKit

theorem idx_none {α : Type} {p : α → Bool} {xs : List α} (h : xs.any p = false) : Wa.idx p xs 0 = -1 := by
  rcases Wa.idx_range p xs 0 with h2 | h2
  · exact h2
  · have := Wa.idx_any p xs 0 (by omega)
    rw [h] at this
    simp at this
    omega
theorem idx_some {α : Type} {p : α → Bool} {xs : List α} (h : xs.any p = true) : ∃ (k : Nat) (x : α), Wa.idx p xs 0 = k ∧ xs[k]? = some x ∧ p x = true := by
  rcases Wa.idx_range p xs 0 with h2 | h2
  · have := Wa.idx_any p xs 0 (by omega)
    rw [h, h2] at this
    simp at this
  · obtain ⟨k, hk⟩ : ∃ k : Nat, Wa.idx p xs 0 = k := ⟨_, (Int.toNat_of_nonneg h2.1).symm⟩
    have hlt : k < xs.length := by omega
    obtain ⟨x, hx, _⟩ := at_lt hlt
    exact ⟨k, x, hk, hx, Wa.idx_holds' p xs 0 k x hx (by rw [hk]; omega) (by omega)⟩

theorem drop1D_m (x : Dl) (k : Int) : Meets Tryz.prog 102 [x.pv, .ptr 1000000 0, .ptr 1000001 0] [.box 106 [.clo 56 []], .box 2 [.i k]] (fun r => r = ⟨.b (x.call == k), [.box 106 [.clo 56 []], .box 2 [.i k]], []⟩) := by
  refine meetsH [] tbOk mixed Tryz.func102 pl102 rfl rfl ?_
  simp [Tryz.ntmps102]
  refine effCall (keyD_m x) ?_
  simp
  refine ⟨by kernel_rfl, vcRet_of [] ?_ rfl⟩
  simp
  rfl
set_option maxHeartbeats 1000000 in
theorem indexD_m (k : Int) (xs : List Dl) (hl : xs.length < 4294967296) :
    Meets Tryz.prog 101 [.d (dl xs), .clo 102 [.ptr 1000000 0, .ptr 1000001 0]] [.box 106 [.clo 56 []], .box 2 [.i k]] (fun r => r = ⟨.i (Wa.idx (fun x : Dl => x.call == k) xs 0), [.box 106 [.clo 56 []], .box 2 [.i k]], []⟩) := by
  refine meetsH [] tbOk mixed Tryz.func101 pl101 rfl rfl ?_
  simp [Tryz.ntmps101]
  refine vc_loop (fun n σ => ∃ j : Nat, n = xs.length - j ∧ j ≤ xs.length ∧ Wa.noneTo (fun x : Dl => x.call == k) xs j ∧ σ = ⟨19, [(8, .i j), (7, .i xs.length), (0, .d (dl xs)), (1, .clo 102 [.ptr 1000000 0, .ptr 1000001 0])], [(1000000, .box 106 [.clo 56 []]), (1000001, .box 2 [.i k])]⟩) ?_ ?_
  · exact ⟨_, _, ⟨0, rfl, Nat.zero_le _, Wa.noneTo_zero _ _, rfl⟩, [], _, rfl, by simp⟩
  rintro n σ ⟨j, rfl, hk, hno, rfl⟩
  by_cases hlt : j < xs.length
  · obtain ⟨x, hx, e⟩ := at_lt hlt
    simp [hlt, e]
    refine (drop1D_m x k).mono ?_
    rintro _ rfl
    by_cases hp : x.call = k
    · have hp' : (x.call == k) = true := by simpa using hp
      simp [hp]
      refine vcRet_of [] ?_ rfl
      rw [Wa.idx_hit (fun x : Dl => x.call == k) xs j x hx hp' hno]
      simp
    · have hp' : (x.call == k) = false := by simpa using hp
      simp [hp, wrap_succ hlt hl]
      refine ⟨_, ?_, _, ⟨j + 1, rfl, hlt, Wa.noneTo_succ hno hx hp', rfl⟩, [], _, rfl, by simp⟩
      omega
  · obtain rfl : j = xs.length := by omega
    simp
    refine vcRet_of [] ?_ rfl
    rw [Wa.idx_miss (fun x : Dl => x.call == k) xs hno]
    simp
/-- What is taken out. -/
def goneD (xs : List Dl) (k : Int) : Dl := if xs.any (fun x => x.call == k) then findD xs k else ⟨0, false⟩
set_option maxHeartbeats 2000000 in
theorem dropD_m (xs : List Dl) (hu : Up (xs.map Dl.call)) (k : Int) (hl : xs.length < 4294967296) : Meets Tryz.prog 55 [.d (dl xs), .i k, .clo 56 []] []
    (Ret (.tup [.d (dl (dropD xs k)), (goneD xs k).pv, .b (xs.any fun x => x.call == k)])) := by
  refine meetsH [] tbOk mixed Tryz.func55 pl55 rfl rfl ?_
  simp [Tryz.ntmps55]
  refine (indexD_m k xs hl).mono ?_
  rintro _ rfl
  cases ha : xs.any (fun x => x.call == k)
  · have e0 := idx_none ha
    have e1 : dropD xs k = xs := filter_none ha
    simp [e0]
    refine ⟨by kernel_rfl, vcRet_of [] ?_ rfl⟩
    simp [goneD, ha, e1]
  · obtain ⟨j, x, hj, hx, hp⟩ := idx_some ha
    obtain rfl : x.call = k := by simpa using hp
    have hlt := lt_some hx
    have e : xs[j] = x := by rw [List.getElem?_eq_getElem hlt] at hx; exact Option.some.inj hx
    have h0 : ¬ (j : Int) < 0 := by omega
    have hf : findD xs x.call = x := findD_at hu hx
    have hd : dropD xs x.call = xs.eraseIdx j := dropD_at hu hx
    rw [hj]
    simp [h0]
    refine effCallN (cloneD_m xs hl) ?_
    simp [wrap_succ hlt hl]
    refine effCallN (deleteD_m xs j hlt hl) ?_
    simp [hlt, e]
    refine ⟨by kernel_rfl, vcRet_of [] ?_ rfl⟩
    simp [goneD, ha, hf, hd, List.length_eraseIdx, hlt]

theorem drop1L_m (x : Ls) (k : Int) : Meets Tryz.prog 110 [x.pv, .ptr 1000000 0, .ptr 1000001 0] [.box 117 [.clo 68 []], .box 2 [.i k]] (fun r => r = ⟨.b (x.call == k), [.box 117 [.clo 68 []], .box 2 [.i k]], []⟩) := by
  refine meetsH [] tbOk mixed Tryz.func110 pl110 rfl rfl ?_
  simp [Tryz.ntmps110]
  refine effCall (keyL_m x) ?_
  simp
  refine ⟨by kernel_rfl, vcRet_of [] ?_ rfl⟩
  simp
  rfl
set_option maxHeartbeats 1000000 in
theorem indexL_m (k : Int) (xs : List Ls) (hl : xs.length < 4294967296) :
    Meets Tryz.prog 105 [.d (ll xs), .clo 110 [.ptr 1000000 0, .ptr 1000001 0]] [.box 117 [.clo 68 []], .box 2 [.i k]] (fun r => r = ⟨.i (Wa.idx (fun x : Ls => x.call == k) xs 0), [.box 117 [.clo 68 []], .box 2 [.i k]], []⟩) := by
  refine meetsH [] tbOk mixed Tryz.func105 pl105 rfl rfl ?_
  simp [Tryz.ntmps105]
  refine vc_loop (fun n σ => ∃ j : Nat, n = xs.length - j ∧ j ≤ xs.length ∧ Wa.noneTo (fun x : Ls => x.call == k) xs j ∧ σ = ⟨19, [(8, .i j), (7, .i xs.length), (0, .d (ll xs)), (1, .clo 110 [.ptr 1000000 0, .ptr 1000001 0])], [(1000000, .box 117 [.clo 68 []]), (1000001, .box 2 [.i k])]⟩) ?_ ?_
  · exact ⟨_, _, ⟨0, rfl, Nat.zero_le _, Wa.noneTo_zero _ _, rfl⟩, [], _, rfl, by simp⟩
  rintro n σ ⟨j, rfl, hk, hno, rfl⟩
  by_cases hlt : j < xs.length
  · obtain ⟨x, hx, e⟩ := at_lt hlt
    simp [hlt, e]
    refine (drop1L_m x k).mono ?_
    rintro _ rfl
    by_cases hp : x.call = k
    · have hp' : (x.call == k) = true := by simpa using hp
      simp [hp]
      refine vcRet_of [] ?_ rfl
      rw [Wa.idx_hit (fun x : Ls => x.call == k) xs j x hx hp' hno]
      simp
    · have hp' : (x.call == k) = false := by simpa using hp
      simp [hp, wrap_succ hlt hl]
      refine ⟨_, ?_, _, ⟨j + 1, rfl, hlt, Wa.noneTo_succ hno hx hp', rfl⟩, [], _, rfl, by simp⟩
      omega
  · obtain rfl : j = xs.length := by omega
    simp
    refine vcRet_of [] ?_ rfl
    rw [Wa.idx_miss (fun x : Ls => x.call == k) xs hno]
    simp
/-- What is taken out. -/
def goneL (xs : List Ls) (k : Int) : Ls := if xs.any (fun x => x.call == k) then findL xs k else ⟨0, 0, 0⟩
set_option maxHeartbeats 2000000 in
theorem dropL_m (xs : List Ls) (hu : Up (xs.map Ls.call)) (k : Int) (hl : xs.length < 4294967296) : Meets Tryz.prog 67 [.d (ll xs), .i k, .clo 68 []] []
    (Ret (.tup [.d (ll (dropL xs k)), (goneL xs k).pv, .b (xs.any fun x => x.call == k)])) := by
  refine meetsH [] tbOk mixed Tryz.func67 pl67 rfl rfl ?_
  simp [Tryz.ntmps67]
  refine (indexL_m k xs hl).mono ?_
  rintro _ rfl
  cases ha : xs.any (fun x => x.call == k)
  · have e0 := idx_none ha
    have e1 : dropL xs k = xs := filter_none ha
    simp [e0]
    refine ⟨by kernel_rfl, vcRet_of [] ?_ rfl⟩
    simp [goneL, ha, e1]
  · obtain ⟨j, x, hj, hx, hp⟩ := idx_some ha
    obtain rfl : x.call = k := by simpa using hp
    have hlt := lt_some hx
    have e : xs[j] = x := by rw [List.getElem?_eq_getElem hlt] at hx; exact Option.some.inj hx
    have h0 : ¬ (j : Int) < 0 := by omega
    have hf : findL xs x.call = x := findL_at hu hx
    have hd : dropL xs x.call = xs.eraseIdx j := dropL_at hu hx
    rw [hj]
    simp [h0]
    refine effCallN (cloneL_m xs hl) ?_
    simp [wrap_succ hlt hl]
    refine effCallN (deleteL_m xs j hlt hl) ?_
    simp [hlt, e]
    refine ⟨by kernel_rfl, vcRet_of [] ?_ rfl⟩
    simp [goneL, ha, hf, hd, List.length_eraseIdx, hlt]
end Go.Proofs.YtajjmhpdiikjhaaGreat.Po
namespace Go.Proofs.YtajjmhpdiikjhaaGreat.Po
set_option maxRecDepth 100000
open Go.RowKit


set_option maxHeartbeats 2000000 in
theorem insEndD_m (xs : List (List D)) (r : List D) (hl : xs.length < 4294967290) : Meets Tryz.prog 118 [.rw 1000000 xs.length, .i xs.length, .rw 1000001 1] [.row 66 2 xs false, .row 66 2 [r] false]
    (fun q => q = ⟨.rw 1000000 (xs.length + 1), [.grown 66 2 (xs ++ [r]), .row 66 2 [r] false], []⟩) := by
  refine meetsH [] tbOk mixed Tryz.func118 pl118 rfl rfl ?_
  simp [Tryz.ntmps118]
  refine ⟨by omega, ?_⟩
  refine vcRet_of [] ?_ rfl
  simp
theorem insD_m (xs : List Dl) (x : Dl) (i : Nat) (hi : i ≤ xs.length) (hl : xs.length < 4294967290) : Meets Tryz.prog 118 [.rw 1000000 xs.length, .i i, .rw 1000001 1] [.row 66 2 (xs.map Dl.dd) false, .row 66 2 [x.dd] false]
    (fun q => q = ⟨.rw 1000000 (xs.length + 1), [.grown 66 2 ((xs.take i ++ x :: xs.drop i).map Dl.dd), .row 66 2 [x.dd] false], []⟩) := by
  have e : (xs.take i ++ x :: xs.drop i).map Dl.dd = (xs.map Dl.dd).take i ++ x.dd :: (xs.map Dl.dd).drop i := by rw [List.map_append, List.map_cons, List.map_take, List.map_drop]
  rw [e]
  by_cases h : i < xs.length
  · have := insD_in (xs.map Dl.dd) x.dd i (by simpa using h) (by simp; omega)
    rw [List.length_map] at this
    exact this
  · obtain rfl : i = xs.length := by omega
    have := insEndD_m (xs.map Dl.dd) x.dd (by simpa using hl)
    rw [List.length_map] at this
    rw [List.take_of_length_le (by simp), List.drop_of_length_le (by simp)]
    exact this
set_option maxHeartbeats 2000000 in
theorem addD_m (xs : List Dl) (hu : Up (xs.map Dl.call)) (x : Dl) (hl : xs.length < 4294967290) : Meets Tryz.prog 73 [.d (dl xs), x.pv, .clo 56 []] [] (Ret (.d (dl (insD xs x)))) := by
  refine meetsH [] tbOk mixed Tryz.func73 pl73 rfl rfl ?_
  simp [Tryz.ntmps73]
  refine (keyD_m x).mono ?_
  rintro _ rfl
  simp
  refine (searchD_m xs hu x.call (by omega)).mono ?_
  rintro _ rfl
  simp
  refine effCallN (cloneD_m xs (by omega)) ?_
  simp
  refine effCallN (insD_m xs x (below Dl.call xs x.call) (below_le _ _ _) hl) ?_
  simp
  refine ⟨by kernel_rfl, vcRet_of [] ?_ rfl⟩
  have hb := below_le Dl.call xs x.call
  simp [insD, insBy]
  exact ⟨by omega, List.take_of_length_le (by simp; omega)⟩

set_option maxHeartbeats 2000000 in
theorem insEndL_m (xs : List (List D)) (r : List D) (hl : xs.length < 4294967290) : Meets Tryz.prog 142 [.rw 1000000 xs.length, .i xs.length, .rw 1000001 1] [.row 71 3 xs false, .row 71 3 [r] false]
    (fun q => q = ⟨.rw 1000000 (xs.length + 1), [.grown 71 3 (xs ++ [r]), .row 71 3 [r] false], []⟩) := by
  refine meetsH [] tbOk mixed Tryz.func142 pl142 rfl rfl ?_
  simp [Tryz.ntmps142]
  refine ⟨by omega, ?_⟩
  refine vcRet_of [] ?_ rfl
  simp
theorem insL_m (xs : List Ls) (x : Ls) (i : Nat) (hi : i ≤ xs.length) (hl : xs.length < 4294967290) : Meets Tryz.prog 142 [.rw 1000000 xs.length, .i i, .rw 1000001 1] [.row 71 3 (xs.map Ls.dd) false, .row 71 3 [x.dd] false]
    (fun q => q = ⟨.rw 1000000 (xs.length + 1), [.grown 71 3 ((xs.take i ++ x :: xs.drop i).map Ls.dd), .row 71 3 [x.dd] false], []⟩) := by
  have e : (xs.take i ++ x :: xs.drop i).map Ls.dd = (xs.map Ls.dd).take i ++ x.dd :: (xs.map Ls.dd).drop i := by rw [List.map_append, List.map_cons, List.map_take, List.map_drop]
  rw [e]
  by_cases h : i < xs.length
  · have := insL_in (xs.map Ls.dd) x.dd i (by simpa using h) (by simp; omega)
    rw [List.length_map] at this
    exact this
  · obtain rfl : i = xs.length := by omega
    have := insEndL_m (xs.map Ls.dd) x.dd (by simpa using hl)
    rw [List.length_map] at this
    rw [List.take_of_length_le (by simp), List.drop_of_length_le (by simp)]
    exact this
set_option maxHeartbeats 2000000 in
theorem addL_m (xs : List Ls) (hu : Up (xs.map Ls.call)) (x : Ls) (hl : xs.length < 4294967290) : Meets Tryz.prog 109 [.d (ll xs), x.pv, .clo 68 []] [] (Ret (.d (ll (insL xs x)))) := by
  refine meetsH [] tbOk mixed Tryz.func109 pl109 rfl rfl ?_
  simp [Tryz.ntmps109]
  refine (keyL_m x).mono ?_
  rintro _ rfl
  simp
  refine (searchL_m xs hu x.call (by omega)).mono ?_
  rintro _ rfl
  simp
  refine effCallN (cloneL_m xs (by omega)) ?_
  simp
  refine effCallN (insL_m xs x (below Ls.call xs x.call) (below_le _ _ _) hl) ?_
  simp
  refine ⟨by kernel_rfl, vcRet_of [] ?_ rfl⟩
  have hb := below_le Ls.call xs x.call
  simp [insL, insBy]
  exact ⟨by omega, List.take_of_length_le (by simp; omega)⟩
end Go.Proofs.YtajjmhpdiikjhaaGreat.Po
namespace Go.Proofs.YtajjmhpdiikjhaaGreat.Po
set_option maxRecDepth 100000
open Go.RowKit

@[simp] def Po.pv (s : Po) : PV := .agg [.i s.back, .i s.max, .i s.now, .b s.shut, .i s.idle.most, .i s.idle.idle, .i s.idle.age, .d (Id.cl s.idle.cs), .d (ll s.ls), .d (dl s.ds), .i s.wt.most, .d (Wa.wl s.wt.ws)]
@[simp] def Po.cells (s : Po) : List PV := [.i s.back, .i s.max, .i s.now, .b s.shut, .i s.idle.most, .i s.idle.idle, .i s.idle.age, .d (Id.cl s.idle.cs), .d (ll s.ls), .d (dl s.ds), .i s.wt.most, .d (Wa.wl s.wt.ws)]
@[simp] def Rs.pv (r : Rs) : PV := .agg [.i r.kind, .i r.back, .i r.conn]
@[simp] def Ef.ds (e : Ef) : List D := [.v (.int .i64 e.kind), .v (.int .i64 e.back), .v (.int .i64 e.call), .v (.int .i64 e.conn)]
@[simp] def el (es : List Ef) : D := .sl 4 (es.map Ef.ds)
abbrev PV.nil : PV := .d (.v (.slice none 0 0))
/-- An event. -/
@[simp] def evb (s : Po) (r : Rs) (e : PV) : MObj := .box 96 [.i s.back, .i s.max, .i s.now, .b s.shut, .i s.idle.most, .i s.idle.idle, .i s.idle.age, .d (Id.cl s.idle.cs), .d (ll s.ls), .d (dl s.ds), .i s.wt.most, .d (Wa.wl s.wt.ws), .i r.kind, .i r.back, .i r.conn, e]
@[simp] def erow (es : List Ef) : MObj := .row 59 4 (es.map Ef.ds) false
@[simp] def egrown (es : List Ef) : MObj := .grown 59 4 (es.map Ef.ds)

set_option maxHeartbeats 2000000 in
theorem sayR_m (s : Po) (r : Rs) (es : List Ef) (k a c : Int) (hl : es.length < 4294967290) :
    Meets Tryz.prog 64 [.ptr 1000000 0, .i k, .i a, .i c] [evb s r (.rw 1000001 es.length), erow es] (fun q => q = ⟨.tup [], [evb s r (.rw 1000001 (es ++ [ef s k a c]).length), egrown (es ++ [ef s k a c])], []⟩) := by
  refine meetsH [] tbOk mixed Tryz.func64 pl64 rfl rfl ?_
  simp [Tryz.ntmps64]
  refine ⟨by omega, by kernel_rfl, ?_⟩
  refine vcRet_of [] ?_ rfl
  simp [ef]
set_option maxHeartbeats 2000000 in
theorem sayN_m (s : Po) (r : Rs) (k a c : Int) :
    Meets Tryz.prog 64 [.ptr 1000000 0, .i k, .i a, .i c] [evb s r PV.nil] (fun q => q = ⟨.tup [], [evb s r (.rw 2000000 1), ], [erow [ef s k a c]]⟩) := by
  refine meetsHP [] [.cell 1000000 15 5 59 4] tbOk mixed Tryz.func64 pl64 rfl rfl (by simp [Prep.all, Prep.run]; rfl) ?_
  simp
  refine ⟨by kernel_rfl, ?_⟩
  refine vcRet_of [5] ?_ rfl
  simp [ef]
set_option maxHeartbeats 2000000 in
theorem sayD_m (s : Po) (r : Rs) (k a c : Int) :
    Meets Tryz.prog 64 [.ptr 1000000 0, .i k, .i a, .i c] [evb s r PV.nil] (fun q => q = ⟨.tup [], [evb s r (.d (el [ef s k a c]))], []⟩) := by
  refine meetsHP [] [.cell 1000000 15 5 59 4] tbOk mixed Tryz.func64 pl64 rfl rfl (by simp [Prep.all, Prep.run]; rfl) ?_
  simp
  refine ⟨by kernel_rfl, ?_⟩
  refine vcRet_prep [.seen 1000000 15] [] (by simp [Prep.all, Prep.run]; rfl) ?_ rfl
  simp [ef]
theorem end_m (s : Po) (r : Rs) (q : D) (k c : Int) :
    Meets Tryz.prog 62 [.ptr 1000000 0, .i k, .i c] [evb s r (.d q)] (fun z => z = ⟨.tup [], [evb s (rs s k c) (.d q)], []⟩) := by
  refine meetsH [] tbOk mixed Tryz.func62 pl62 rfl rfl ?_
  by_cases h : k = 7
  · simp [Tryz.ntmps62, h]
    refine vcRet_of [] ?_ rfl
    simp [rs]
  · simp [Tryz.ntmps62, h]
    refine vcRet_of [] ?_ rfl
    simp [rs, h]
/-- The first waiter is taken out. -/
def servS (s : Po) : Po := { s with wt := (Wa.serve s.wt s.now).1 }
set_option maxHeartbeats 2000000 in
theorem firstD_m (s : Po) (r : Rs) (q : D) (hl : s.wt.ws.length < 4294967296) :
    Meets Tryz.prog 107 [.ptr 1000000 0] [evb s r (.d q)] (fun z => z = ⟨.tup [.i (Wa.serve s.wt s.now).2.1.call, .b (decide ((Wa.serve s.wt s.now).2.2 = 0))], [evb (servS s) r (.d q)], []⟩) := by
  refine meetsH [] tbOk mixed Tryz.func107 pl107 rfl rfl ?_
  simp [Tryz.ntmps107]
  refine effCall (Wa.serve_m s.wt s.now hl) ?_
  simp
  refine ⟨by kernel_rfl, ?_⟩
  refine vcRet_of [] ?_ rfl
  simp [servS]
set_option maxHeartbeats 2000000 in
theorem firstR_m (s : Po) (r : Rs) (es : List Ef) (hl : s.wt.ws.length < 4294967296) :
    Meets Tryz.prog 107 [.ptr 1000000 0] [evb s r (.rw 1000001 es.length), erow es] (fun z => z = ⟨.tup [.i (Wa.serve s.wt s.now).2.1.call, .b (decide ((Wa.serve s.wt s.now).2.2 = 0))], [evb (servS s) r (.rw 1000001 es.length), erow es], []⟩) := by
  refine meetsH [] tbOk mixed Tryz.func107 pl107 rfl rfl ?_
  simp [Tryz.ntmps107]
  refine effCall (Wa.serve_m s.wt s.now hl) ?_
  simp
  refine ⟨by kernel_rfl, ?_⟩
  refine vcRet_of [] ?_ rfl
  simp [servS]
theorem lease_m (s : Po) (r : Rs) (q : D) (hu : Up (s.ls.map Ls.call)) (hl : s.ls.length < 4294967290) (a c b : Int) :
    Meets Tryz.prog 65 [.ptr 1000000 0, .i a, .i c, .i b] [evb s r (.d q)] (fun z => z = ⟨.tup [], [evb { s with ls := insL s.ls ⟨a, c, b⟩ } r (.d q)], []⟩) := by
  refine meetsH [] tbOk mixed Tryz.func65 pl65 rfl rfl ?_
  simp [Tryz.ntmps65]
  refine (addL_m s.ls hu ⟨a, c, b⟩ hl).mono ?_
  rintro _ rfl
  simp
  refine vcRet_of [] ?_ rfl
  simp
end Go.Proofs.YtajjmhpdiikjhaaGreat.Po
namespace Go.Proofs.YtajjmhpdiikjhaaGreat.Po
set_option maxRecDepth 100000
open Go.RowKit

theorem servS_nil {s : Po} (h : Form s) (e : s.wt.ws = []) : servS s = s := by
  rw [servS, serve_nil h.wtAt e]
theorem servS_cons {s : Po} (h : Form s) {w : Wa.Wt} {ws : List Wa.Wt} (e : s.wt.ws = w :: ws) : servS s = { s with wt := ⟨s.wt.most, ws⟩ } := by
  rw [servS, serve_cons h.wtAt (fun x hx => (h.wt x hx).2) e]
theorem firstD_nil {s : Po} (h : Form s) (e : s.wt.ws = []) (r : Rs) (q : D) : Meets Tryz.prog 107 [.ptr 1000000 0] [evb s r (.d q)] (fun z => z = ⟨.tup [.i 0, .b false], [evb s r (.d q)], []⟩) := by
  have := firstD_m s r q (by have := h.wlen; omega)
  rw [servS_nil h e, serve_nil h.wtAt e] at this
  exact this
theorem firstD_cons {s : Po} (h : Form s) {w : Wa.Wt} {ws : List Wa.Wt} (e : s.wt.ws = w :: ws) (r : Rs) (q : D) : Meets Tryz.prog 107 [.ptr 1000000 0] [evb s r (.d q)] (fun z => z = ⟨.tup [.i w.call, .b true], [evb { s with wt := ⟨s.wt.most, ws⟩ } r (.d q)], []⟩) := by
  have := firstD_m s r q (by have := h.wlen; omega)
  rw [servS_cons h e, serve_cons h.wtAt (fun x hx => (h.wt x hx).2) e] at this
  exact this
theorem firstR_nil {s : Po} (h : Form s) (e : s.wt.ws = []) (r : Rs) (es : List Ef) : Meets Tryz.prog 107 [.ptr 1000000 0] [evb s r (.rw 1000001 es.length), erow es] (fun z => z = ⟨.tup [.i 0, .b false], [evb s r (.rw 1000001 es.length), erow es], []⟩) := by
  have := firstR_m s r es (by have := h.wlen; omega)
  rw [servS_nil h e, serve_nil h.wtAt e] at this
  exact this
theorem firstR_cons {s : Po} (h : Form s) {w : Wa.Wt} {ws : List Wa.Wt} (e : s.wt.ws = w :: ws) (r : Rs) (es : List Ef) : Meets Tryz.prog 107 [.ptr 1000000 0] [evb s r (.rw 1000001 es.length), erow es] (fun z => z = ⟨.tup [.i w.call, .b true], [evb { s with wt := ⟨s.wt.most, ws⟩ } r (.rw 1000001 es.length), erow es], []⟩) := by
  have := firstR_m s r es (by have := h.wlen; omega)
  rw [servS_cons h e, serve_cons h.wtAt (fun x hx => (h.wt x hx).2) e] at this
  exact this
set_option maxHeartbeats 2000000 in
theorem passD_m {s : Po} (h : Form s) (r : Rs) :
    Meets Tryz.prog 61 [.ptr 1000000 0] [evb s r PV.nil] (fun z => z = ⟨.tup [], [evb (passS s).1 r (.d (el (passS s).2))], []⟩) := by
  refine meetsH [] tbOk mixed Tryz.func61 pl61 rfl rfl ?_
  simp [Tryz.ntmps61]
  cases e : s.wt.ws with
  | nil =>
    have hf := firstD_nil h e r (.v (.slice none 0 0))
    simp [e] at hf
    refine hf.mono ?_
    rintro _ rfl
    simp
    refine vcRet_of [] ?_ rfl
    simp [passS, e]
  | cons w ws =>
    have hf := firstD_cons h e r (.v (.slice none 0 0))
    simp [e] at hf
    refine hf.mono ?_
    rintro _ rfl
    simp
    refine (addD_m s.ds h.du ⟨w.call, false⟩ (by have := h.dlen; omega)).mono ?_
    rintro _ rfl
    simp
    have hs := sayD_m (passS s).1 r 2 w.call 0
    simp [passS, e] at hs
    refine hs.mono ?_
    rintro _ rfl
    simp
    refine vcRet_of [] ?_ rfl
    simp [passS, e, ef]
set_option maxHeartbeats 2000000 in
theorem passR_m {s : Po} (h : Form s) (r : Rs) (es : List Ef) (hl : es.length < 4294967290) :
    Meets Tryz.prog 61 [.ptr 1000000 0] [evb s r (.rw 1000001 es.length), erow es] (fun z => z = ⟨.tup [], [evb (passS s).1 r (.rw 1000001 (es ++ (passS s).2).length), egrown (es ++ (passS s).2)], []⟩) := by
  refine meetsH [] tbOk mixed Tryz.func61 pl61 rfl rfl ?_
  simp [Tryz.ntmps61]
  cases e : s.wt.ws with
  | nil =>
    have hf := firstR_nil h e r es
    simp [e] at hf
    refine hf.mono ?_
    rintro _ rfl
    simp
    refine vcRet_of [] ?_ rfl
    simp [passS, e]
  | cons w ws =>
    have hf := firstR_cons h e r es
    simp [e] at hf
    refine hf.mono ?_
    rintro _ rfl
    simp
    refine (addD_m s.ds h.du ⟨w.call, false⟩ (by have := h.dlen; omega)).mono ?_
    rintro _ rfl
    simp
    have hs := sayR_m (passS s).1 r es 2 w.call 0 hl
    simp [passS, e] at hs
    refine hs.mono ?_
    rintro _ rfl
    simp
    refine vcRet_of [] ?_ rfl
    simp [passS, e, ef]
set_option maxHeartbeats 4000000 in
theorem give_m {s : Po} (h : Hole s) (r : Rs) {c b : Int} (re : Bool) (hc : numOk c = true) (hb : 0 ≤ b ∧ b ≤ s.now) (hi : ∀ x ∈ s.idle.cs, x.conn ≠ c) :
    Meets Tryz.prog 63 [.ptr 1000000 0, .i c, .i b, .b re] [evb s r PV.nil] (fun z => z = ⟨.tup [], [evb (giveS s c b re).1 r (.d (el (giveS s c b re).2))], []⟩) := by
  refine meetsH [] tbOk mixed Tryz.func63 pl63 rfl rfl ?_
  have hn := timeOk_iff.1 h.f.n.now
  have w1 := small_wrap (a := s.now - b) (by omega)
  have out : (s.shut = true ∨ s.idle.age ≤ s.now - b ∨ re = false) → giveS s c b re = ((passS s).1, ef s 11 0 c :: (passS s).2) := fun hg => by rw [giveS, if_pos hg]
  have way : giveS s c b re = ((passS s).1, ef s 11 0 c :: (passS s).2) → ∀ σ : Sta, σ.n = 76 → True := fun _ _ _ => trivial
  clear way
  by_cases h1 : s.shut = true
  · simp [Tryz.ntmps63, h1]
    refine ⟨by kernel_rfl, ?_⟩
    have hs := sayN_m s r 11 0 c
    simp [h1] at hs
    refine hs.mono ?_
    rintro _ rfl
    simp
    have hp := passR_m h.f r [ef s 11 0 c] (by simp)
    simp [h1] at hp
    refine hp.mono ?_
    rintro _ rfl
    simp
    refine vcRet_prep [.seen 1000000 15] [] (by simp [Prep.all, Prep.run]; rfl) ?_ rfl
    simp [out (.inl h1), ef]
    exact List.take_of_length_le (by simp)
  by_cases h2 : s.idle.age ≤ s.now - b
  · simp [Tryz.ntmps63, h1, w1, h2]
    refine ⟨by kernel_rfl, ?_⟩
    have hs := sayN_m s r 11 0 c
    simp [h1] at hs
    refine hs.mono ?_
    rintro _ rfl
    simp
    have hp := passR_m h.f r [ef s 11 0 c] (by simp)
    simp [h1] at hp
    refine hp.mono ?_
    rintro _ rfl
    simp
    refine vcRet_prep [.seen 1000000 15] [] (by simp [Prep.all, Prep.run]; rfl) ?_ rfl
    simp [out (.inr (.inl h2)), ef]
    exact List.take_of_length_le (by simp)
  cases re with
  | false =>
    simp [Tryz.ntmps63, h1, w1, h2]
    refine ⟨by kernel_rfl, ?_⟩
    have hs := sayN_m s r 11 0 c
    simp [h1] at hs
    refine hs.mono ?_
    rintro _ rfl
    simp
    have hp := passR_m h.f r [ef s 11 0 c] (by simp)
    simp [h1] at hp
    refine hp.mono ?_
    rintro _ rfl
    simp
    refine vcRet_prep [.seen 1000000 15] [] (by simp [Prep.all, Prep.run]; rfl) ?_ rfl
    simp [out (.inr (.inr rfl)), ef]
    exact List.take_of_length_le (by simp)
  | true =>
    simp [Tryz.ntmps63, h1, w1, h2]
    refine ⟨by kernel_rfl, ?_⟩
    cases e : s.wt.ws with
    | nil =>
      have hf := firstD_nil h.f e r (.v (.slice none 0 0))
      simp [e, h1] at hf
      refine hf.mono ?_
      rintro _ rfl
      simp
      have hput := put_push h.f.idAt hc hb hi (by omega) (by have := h.room; have := h.f.n.most; omega)
      have hm := Id.put_m s.idle c b s.now (by have := h.f.ilen; omega)
      rw [hput] at hm
      simp at hm
      refine effCall hm ?_
      simp
      refine ⟨by kernel_rfl, ?_⟩
      refine vcRet_of [] ?_ rfl
      simp [giveS, e, h1, h2]
    | cons w ws =>
      have hf := firstD_cons h.f e r (.v (.slice none 0 0))
      simp [e, h1] at hf
      refine hf.mono ?_
      rintro _ rfl
      simp
      have hls := lease_m { s with wt := ⟨s.wt.most, ws⟩ } r (.v (.slice none 0 0)) h.f.lu (by have := h.f.llen; show s.ls.length < _; omega) w.call c b
      simp [h1] at hls
      refine hls.mono ?_
      rintro _ rfl
      simp
      have hs := sayD_m { s with wt := ⟨s.wt.most, ws⟩, ls := insL s.ls ⟨w.call, c, b⟩ } r 1 w.call c
      simp [h1] at hs
      refine hs.mono ?_
      rintro _ rfl
      simp
      refine vcRet_of [] ?_ rfl
      simp [giveS, e, h1, h2, ef]
end Go.Proofs.YtajjmhpdiikjhaaGreat.Po
