/- Contracts: explore 8. No condition. -/
import Derived.Test.YtplooifpgmlofaaN7
import Derived.Test.YtplooifpgmlofaaV20
namespace Go.Proofs.Ytplooifpgmlofaa
open Go.RowKit

/-- The first k are the same. -/
def sameTo {α : Type} (a b : List α) (k : Nat) : Prop := a.take k = b.take k
theorem sameTo_succ {α : Type} {a b : List α} {k : Nat} {x y : α} (h : sameTo a b k) (hx : a[k]? = some x) (hy : b[k]? = some y) (e : x = y) : sameTo a b (k + 1) := by
  unfold sameTo at *
  rw [List.take_add_one, List.take_add_one, h, hx, hy, e]
theorem not_same {α : Type} {a b : List α} {k : Nat} {x y : α} (hx : a[k]? = some x) (hy : b[k]? = some y) (e : x ≠ y) : a ≠ b := fun h => by
  rw [h, hy] at hx; cases hx; exact e rfl
theorem sameInts_m (a b : List Int) (ha : a.length < 4294967296) : Meets Try.prog 15 [.d (intD a), .d (intD b)] [] (Ret (.b (decide (a = b)))) := by
  refine meets tbOk mixed Try.func15 pl15 rfl rfl ?_
  by_cases hl : a.length = b.length
  · simp [Try.ntmps15, hl]
    refine vc_loop (fun n σ => ∃ k : Nat, n = a.length - k ∧ k ≤ a.length ∧ sameTo a b k ∧ σ = ⟨26, [(5, .i k), (0, .d (intD a)), (1, .d (intD b))], []⟩) ⟨_, _, ⟨0, rfl, Nat.zero_le _, rfl, rfl⟩, [], _, rfl, by simp⟩ ?_
    rintro n σ ⟨k, rfl, hk, hs, rfl⟩
    by_cases hlt : k < a.length
    · obtain ⟨x, hx, e⟩ := at_lt hlt
      obtain ⟨y, hy, e2⟩ := at_lt (show k < b.length by omega)
      have hlb : k < b.length := by omega
      by_cases hxy : x = y
      · simp [e, e2, hxy, ← hl, hlt]
        refine ⟨by kernel_rfl, ?_⟩
        simp [wrap_succ hlt ha]
        exact ⟨_, by omega, _, ⟨k + 1, rfl, hlt, sameTo_succ hs hx hy hxy, rfl⟩, [], _, rfl, by simp⟩
      · simp [e, e2, hxy, ← hl, hlt]
        refine ⟨by kernel_rfl, vcRet_of [] ?_ rfl⟩
        simp [not_same hx hy hxy]
    · obtain rfl : k = a.length := by omega
      have hab : a = b := by
        unfold sameTo at hs
        rwa [List.take_of_length_le (Nat.le_refl _), List.take_of_length_le (by omega)] at hs
      simp
      refine vcRet_of [] ?_ rfl
      simp [hab]
  · have hl' : ¬ (a.length : Int) = b.length := by omega
    simp [Try.ntmps15, hl']
    refine vcRet_of [] ?_ rfl
    have : a ≠ b := fun h => hl (by rw [h])
    simp [this]
theorem sameStr_m (a b : List ByteArray) (ha : a.length < 4294967296) : Meets Try.prog 49 [.d (.sl 1 (a.map strC)), .d (.sl 1 (b.map strC))] [] (Ret (.b (decide (a = b)))) := by
  refine meets tbOk mixed Try.func49 pl49 rfl rfl ?_
  by_cases hl : a.length = b.length
  · simp [Try.ntmps49, hl]
    refine vc_loop (fun n σ => ∃ k : Nat, n = a.length - k ∧ k ≤ a.length ∧ sameTo a b k ∧ σ = ⟨26, [(5, .i k), (0, .d (.sl 1 (a.map strC))), (1, .d (.sl 1 (b.map strC)))], []⟩) ⟨_, _, ⟨0, rfl, Nat.zero_le _, rfl, rfl⟩, [], _, rfl, by simp⟩ ?_
    rintro n σ ⟨k, rfl, hk, hs, rfl⟩
    by_cases hlt : k < a.length
    · obtain ⟨x, hx, e⟩ := at_lt hlt
      obtain ⟨y, hy, e2⟩ := at_lt (show k < b.length by omega)
      have hlb : k < b.length := by omega
      by_cases hxy : x = y
      · have hq : (x.toList == y.toList) = true := by rw [strEq, hxy]; simp
        simp [e, e2, hq, ← hl, hlt]
        refine ⟨by kernel_rfl, ?_⟩
        simp [wrap_succ hlt ha]
        exact ⟨_, by omega, _, ⟨k + 1, rfl, hlt, sameTo_succ hs hx hy hxy, rfl⟩, [], _, rfl, by simp⟩
      · have hq : (x.toList == y.toList) = false := by rw [strEq]; simp [hxy]
        simp [e, e2, hq, ← hl, hlt]
        refine ⟨by kernel_rfl, vcRet_of [] ?_ rfl⟩
        simp [not_same hx hy hxy]
    · obtain rfl : k = a.length := by omega
      have hab : a = b := by
        unfold sameTo at hs
        rwa [List.take_of_length_le (Nat.le_refl _), List.take_of_length_le (by omega)] at hs
      simp
      refine vcRet_of [] ?_ rfl
      simp [hab]
  · have hl' : ¬ (a.length : Int) = b.length := by omega
    simp [Try.ntmps49, hl']
    refine vcRet_of [] ?_ rfl
    have : a ≠ b := fun h => hl (by rw [h])
    simp [this]
instance decRz : DecidableEq Rz := fun x y => match x, y with
  | ⟨a, b, c, d⟩, ⟨a', b', c', d'⟩ => if h : a = a' ∧ b = b' ∧ c = c' ∧ d = d' then isTrue (by obtain ⟨rfl, rfl, rfl, rfl⟩ := h; rfl) else isFalse fun e => h (by cases e; exact ⟨rfl, rfl, rfl, rfl⟩)
theorem rz_eq {x y : Rz} : decide (x = y) = (x.runs == y.runs && x.stuck == y.stuck && x.full == y.full && decide (x.outs = y.outs)) := by
  rw [Bool.eq_iff_iff]
  simp only [decide_eq_true_eq, Bool.and_eq_true, beq_iff_eq]
  constructor
  · rintro rfl; exact ⟨⟨⟨rfl, rfl⟩, rfl⟩, rfl⟩
  · rintro ⟨⟨⟨h1, h2⟩, h3⟩, h4⟩
    cases x; cases y
    cases h1; cases h2; cases h3; cases h4; rfl
theorem same_m (x y : Rz) (hx : x.outs.length < 4294967296) : Meets Try.prog 23 [x.pv, y.pv] [] (Ret (.b (decide (x = y)))) := by
  refine meets tbOk mixed Try.func23 pl23 rfl rfl ?_
  rw [rz_eq]
  by_cases h1 : x.runs = y.runs
  · by_cases h2 : x.stuck = y.stuck
    · by_cases h3 : x.full = y.full
      · simp [Try.ntmps23, h1, h2, h3]
        refine (sameStr_m x.outs y.outs hx).mono ?_
        rintro _ rfl
        simp
        refine vcRet_of [] ?_ rfl
        simp
      · simp [Try.ntmps23, h1, h2, h3]
        refine vcRet_of [] ?_ rfl
        simp [h3]
    · simp [Try.ntmps23, h1, h2]
      refine vcRet_of [] ?_ rfl
      simp [h2]
  · simp [Try.ntmps23, h1]
    refine vcRet_of [] ?_ rfl
    simp [h1]
end Go.Proofs.Ytplooifpgmlofaa
namespace Go.Proofs.Ytplooifpgmlofaa
open Go.RowKit

theorem okR100 : okRuns 100 := ⟨by decide, by decide⟩
@[simp] def rzA : Rz := ⟨6, 0, [n1, n2, n3], true⟩
@[simp] def rzS : Rz := ⟨4, 0, [n1, n2, n3], true⟩
theorem sumAll_m (q : Option (List Int)) (hq : ∀ p, q = some p → legal sumY p) : Meets Try.prog 22 [.ifc 53 1000000, .i 100] [.sys (sumAt q)] (fun r => ∃ p, legal sumY p ∧ r = ⟨.tup [rzA.pv, .i 0], [.sys (sumAt (some p))], []⟩) := by
  refine (all_m sum_fair sumP 100 q hq).mono ?_
  rintro _ (⟨_, p, hp⟩ | h)
  · exact ⟨p, hp, by rw [sumR_all]; rfl⟩
  · exact absurd okR100 h
theorem sumAll0_m : Meets Try.prog 22 [.ifc 53 1000000, .i 100] [ss0.box] (fun r => ∃ p, legal sumY p ∧ r = ⟨.tup [rzA.pv, .i 0], [.sys (sumAt (some p))], []⟩) :=
  Meets.hide (by simp) (sumAll_m none (fun _ h => by cases h))
theorem sumSleep_m (q : Option (List Int)) (hq : ∀ p, q = some p → legal sumY p) : Meets Try.prog 27 [.ifc 53 1000000, .i 100] [.sys (sumAt q)] (fun r => ∃ p, legal sumY p ∧ r = ⟨.tup [rzS.pv, .i 0], [.sys (sumAt (some p))], []⟩) := by
  refine (sleep_m sum_fair sumP 100 q hq).mono ?_
  rintro _ (⟨_, p, hp⟩ | h)
  · exact ⟨p, hp, by rw [sumR_sleep]; rfl⟩
  · exact absurd okR100 h
theorem is1_m (s : ByteArray) : Meets Try.prog 32 [.d (.v (.string s))] [] (Ret (.b (s.toList == n1.toList))) := by
  refine meets tbOk mixed Try.func32 pl32 rfl rfl ?_
  simp [Try.ntmps32]
  refine vcRet_of [] ?_ rfl
  simp [n1]
theorem sumFind_m (q : Option (List Int)) (hq : ∀ p, q = some p → legal sumY p) : Meets Try.prog 31 [.ifc 53 1000000, .clo 32 [], .i 100] [.sys (sumAt q)] (fun r => ∃ p, legal sumY p ∧ r = ⟨.tup [.d (intD [1, 2, 2, 1]), .i 0], [.sys (sumAt (some p))], []⟩) := by
  have hf : (foundT sumY (fun s => s.toList == n1.toList) ⟨100, 60, false⟩).2.2 = (true, [1, 2, 2, 1]) := by rw [← sumQ_eq]; exact sum_find
  refine (findT_m is1_m sum_fair sumP 100 q hq).mono ?_
  rintro _ (⟨_, p, hp, h⟩ | ⟨_, p, hp, h⟩ | h)
  · exact ⟨p, hp, by rw [hf]; rfl⟩
  · rw [hf] at h; cases h
  · exact absurd okR100 h

set_option maxHeartbeats 1000000 in
theorem awake_m : Meets Try.prog 10 [] [] (Ret (.b true)) := by
  refine meets tbOk mixed Try.func10 pl10 rfl rfl ?_
  simp [Try.ntmps10]
  refine sumAll0_m.mono ?_
  rintro _ ⟨p, hp, rfl⟩
  simp
  refine (sumSleep_m (some p) (fun _ h => by cases h; exact hp)).mono ?_
  rintro _ ⟨p2, hp2, rfl⟩
  simp
  refine (sumFind_m (some p2) (fun _ h => by cases h; exact hp2)).mono ?_
  rintro _ ⟨p3, hp3, rfl⟩
  simp
  refine (same_m rzA rzA (by simp)).mono ?_
  rintro _ rfl
  simp
  refine (same_m rzS rzS (by simp)).mono ?_
  rintro _ rfl
  simp
  refine (sameInts_m [1, 2, 2, 1] [1, 2, 2, 1] (by simp)).mono ?_
  rintro _ rfl
  simp
  refine vcRet_of [] ?_ rfl
  simp
end Go.Proofs.Ytplooifpgmlofaa
namespace Go.Proofs.Ytplooifpgmlofaa
open Go.RowKit

theorem noneTo_any {α : Type} {p : α → Bool} {xs : List α} (h : noneTo p xs xs.length) : xs.any p = false := by
  rw [List.any_eq_false]
  intro x hx
  obtain ⟨i, hi, rfl⟩ := List.mem_iff_getElem.1 hx
  rw [h i xs[i] hi (List.getElem?_eq_getElem hi)]
  simp
theorem any_hit {α : Type} {p : α → Bool} {xs : List α} {k : Nat} {x : α} (hx : xs[k]? = some x) (hp : p x = true) : xs.any p = true := List.any_eq_true.2 ⟨x, List.mem_of_getElem? hx, hp⟩
set_option maxHeartbeats 1000000 in
theorem refIndep_m (a b : Fp) (ha : a.length < 4294967296) (hb : b.length < 4294967296) : Meets Try.prog 29 [.d (fpD a), .d (fpD b)] [] (Ret (.b (indy a b))) := by
  refine meets tbOk mixed Try.func29 pl29 rfl rfl ?_
  simp [Try.ntmps29]
  refine vc_loop (fun n σ => ∃ i : Nat, n = a.length - i ∧ i ≤ a.length ∧ noneTo (fun x => b.any fun y => clash x y) a i ∧ σ = ⟨44, [(5, .i i), (0, .d (fpD a)), (1, .d (fpD b))], []⟩) ⟨_, _, ⟨0, rfl, Nat.zero_le _, noneTo_zero _ _, rfl⟩, [], _, rfl, by simp⟩ ?_
  rintro n σ ⟨i, rfl, hi, hn, rfl⟩
  by_cases hlt : i < a.length
  · obtain ⟨x, hx, e⟩ := at_lt hlt
    simp [hlt]
    refine vc_loop (fun n σ => ∃ k : Nat, n = b.length - k ∧ k ≤ b.length ∧ noneTo (fun y => clash x y) b k ∧ σ = ⟨44, [(6, .i k), (5, .i i), (0, .d (fpD a)), (1, .d (fpD b))], []⟩) ⟨_, _, ⟨0, rfl, Nat.zero_le _, noneTo_zero _ _, rfl⟩, [], _, rfl, by simp⟩ ?_
    rintro n σ ⟨k, rfl, hk, hn2, rfl⟩
    by_cases hlt2 : k < b.length
    · obtain ⟨y, hy, e2⟩ := at_lt hlt2
      by_cases ho : x.obj = y.obj
      · cases hw : x.wr
        · cases hv : y.wr
          · have hc : clash x y = false := by simp [clash, hw, hv]
            set_option maxRecDepth 8000 in simp [hlt, hlt2, e, e2, ho, hw, hv]
            refine ⟨by kernel_rfl, ?_⟩
            simp [wrap_succ hlt2 hb]
            exact ⟨_, by omega, _, ⟨k + 1, rfl, hlt2, noneTo_succ hn2 hy hc, rfl⟩, [], _, rfl, by simp⟩
          · have hc : clash x y = true := by simp [clash, ho, hv]
            set_option maxRecDepth 8000 in simp [hlt, hlt2, e, e2, ho, hw, hv]
            refine ⟨by kernel_rfl, vcRet_of [] ?_ rfl⟩
            have h1 : (b.any fun y => clash x y) = true := any_hit hy hc
            have h2 : (a.any fun x => b.any fun y => clash x y) = true := any_hit hx h1
            simp only [indy, h2]
            simp
        · have hc : clash x y = true := by simp [clash, ho, hw]
          set_option maxRecDepth 8000 in simp [hlt, hlt2, e, e2, ho, hw]
          refine ⟨by kernel_rfl, vcRet_of [] ?_ rfl⟩
          have h1 : (b.any fun y => clash x y) = true := any_hit hy hc
          have h2 : (a.any fun x => b.any fun y => clash x y) = true := any_hit hx h1
          simp only [indy, h2]
          simp
      · have hc : clash x y = false := by simp [clash, ho]
        simp [hlt, hlt2, e, e2, ho]
        refine ⟨by kernel_rfl, ?_⟩
        simp [wrap_succ hlt2 hb]
        exact ⟨_, by omega, _, ⟨k + 1, rfl, hlt2, noneTo_succ hn2 hy hc, rfl⟩, [], _, rfl, by simp⟩
    · obtain rfl : k = b.length := by omega
      simp [wrap_succ hlt ha]
      exact ⟨_, by omega, _, ⟨i + 1, rfl, hlt, noneTo_succ hn hx (noneTo_any hn2), rfl⟩, [], _, rfl, by simp⟩
  · obtain rfl : i = a.length := by omega
    simp
    refine vcRet_of [] ?_ rfl
    have := noneTo_any hn
    simp only [indy, this]
    simp
theorem clash_comm (x y : Acc) : clash x y = clash y x := by
  unfold clash
  rw [Bool.or_comm, show (x.obj == y.obj) = (y.obj == x.obj) from BEq.comm]
theorem indy_comm (a b : Fp) : indy a b = indy b a := by
  unfold indy
  congr 1
  rw [Bool.eq_iff_iff]
  simp only [List.any_eq_true]
  constructor
  · rintro ⟨x, hx, y, hy, h⟩; exact ⟨y, hy, x, hx, by rw [clash_comm]; exact h⟩
  · rintro ⟨x, hx, y, hy, h⟩; exact ⟨y, hy, x, hx, by rw [clash_comm]; exact h⟩

set_option maxHeartbeats 1000000 in
theorem lawIndep_m (a b : Fp) : Meets Try.prog 7 [.d (fpD a), .d (fpD b)] [] (Ret (.b true)) := by
  refine meets tbOk mixed Try.func7 pl7 rfl rfl ?_
  by_cases ha : (100 : Int) < a.length
  · simp [Try.ntmps7, ha]
    refine awake_m.mono ?_
    rintro _ rfl
    simp
    refine vcRet_of [] ?_ rfl
    simp
  · by_cases hb : (100 : Int) < b.length
    · simp [Try.ntmps7, ha, hb]
      refine awake_m.mono ?_
      rintro _ rfl
      simp
      refine vcRet_of [] ?_ rfl
      simp
    · simp [Try.ntmps7, ha, hb]
      refine (indep_m a b (by omega) (by omega)).mono ?_
      rintro _ rfl
      simp
      refine (refIndep_m a b (by omega) (by omega)).mono ?_
      rintro _ rfl
      simp
      refine (indep_m b a (by omega) (by omega)).mono ?_
      rintro _ rfl
      simp [indy_comm b a]
      refine awake_m.mono ?_
      rintro _ rfl
      simp
      refine vcRet_of [] ?_ rfl
      simp
end Go.Proofs.Ytplooifpgmlofaa
namespace Go.Proofs.Ytplooifpgmlofaa
open Go.RowKit Go.ChangeShapes Go.WideShapes
set_option maxRecDepth 100000
theorem opens2 : Opens Try.prog 2 (fun ds => ∃ x, ds = [x] ∧ ∃ n, x = .v (.int .i64 n)) := (opens_int (k := .i64) Try.underlying2 (by kernel_rfl)).mono fun _ ⟨n, e, _⟩ => ⟨_, e, n, rfl⟩
theorem opens4 : Opens Try.prog 4 (fun ds => ∃ x, ds = [x] ∧ ∃ b, x = .v (.bool b)) := (opens_bool Try.underlying4 (by kernel_rfl)).mono fun _ ⟨b, e⟩ => ⟨_, e, b, rfl⟩
theorem opens90 : Opens Try.prog 90 (fun ds => ∃ x : Acc, ds = x.ds ∧ True) :=
  (opens_struct Try.underlying90 (Qs := [_, _]) ⟨rfl, opens2, by kernel_rfl, opens4, by show _ = _; kernel_rfl⟩).mono fun ds h => by
    obtain ⟨_, _, rfl, ⟨_, rfl, a, rfl⟩, _, _, rfl, ⟨_, rfl, b, rfl⟩, rfl⟩ := h
    exact ⟨⟨a, b⟩, rfl, trivial⟩
theorem opens49 : Opens Try.prog 49 (fun ds => ∃ x, ds = [x] ∧ ∃ l : Fp, x = fpD l) :=
  (opens_slice Try.underlying49 (by kernel_rfl) opens90 (sz := 2) (by kernel_rfl) (by decide)).mono fun ds h => by
    obtain ⟨xs, rfl, h1, h2⟩ := h
    obtain ⟨ws, rfl, _⟩ := rows_of h1
    exact ⟨_, rfl, ws, rfl⟩
section
variable {H : Type} {enc : TypeId × Value → H} {w : World} {base : Nat} {spare : Nat → Bool} {held : Bool} {r : Reach} {b0 : Nat} {v : Value} {d : DataW H} {p : List MemPlace} {m : Map}
theorem argFp (hv : Value.okWide Try.prog w r b0 49 v) (h : DataW.Trod enc Try.prog w base spare held 49 v d p) : ∃ l : Fp, Rep m w (allCells w) v (.d (fpD l)) := by
  obtain ⟨A, n, c, rfl⟩ := okWide_slice Try.underlying49 hv
  obtain ⟨x, ⟨l, rfl⟩, hr⟩ := arg_one (m := m) opens49 rfl h
  exact ⟨l, hr⟩
end
end Go.Proofs.Ytplooifpgmlofaa
