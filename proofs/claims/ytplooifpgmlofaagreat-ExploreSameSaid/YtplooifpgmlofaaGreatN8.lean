/- Lists, examples. No condition. -/
import Derived.Test.YtplooifpgmlofaaGreatN6
import Derived.Test.YtplooifpgmlofaaGreatV20
namespace Go.Proofs.YtplooifpgmlofaaGreat
open Go.RowKit

def sameTo {α : Type} (a b : List α) (k : Nat) : Prop := a.take k = b.take k
theorem sameTo_succ {α : Type} {a b : List α} {k : Nat} {x y : α} (h : sameTo a b k) (hx : a[k]? = some x) (hy : b[k]? = some y) (e : x = y) : sameTo a b (k + 1) := by
  unfold sameTo at *
  rw [List.take_add_one, List.take_add_one, h, hx, hy, e]
theorem not_same {α : Type} {a b : List α} {k : Nat} {x y : α} (hx : a[k]? = some x) (hy : b[k]? = some y) (e : x ≠ y) : a ≠ b := fun h => by
  rw [h, hy] at hx; cases hx; exact e rfl
theorem sameInts_m (a b : List Int) (ha : a.length < 4294967296) : Meets Tryz.prog 12 [.d (intD a), .d (intD b)] [] (Ret (.b (decide (a = b)))) := by
  refine meets tbOk mixed Tryz.func12 pl12 rfl rfl ?_
  by_cases hl : a.length = b.length
  · simp [Tryz.ntmps12, hl]
    refine vc_loop (fun n σ => ∃ k : Nat, n = a.length - k ∧ k ≤ a.length ∧ sameTo a b k ∧ σ = ⟨26, [(5, .i k), (0, .d (intD a)), (1, .d (intD b))], []⟩) ⟨_, _, ⟨0, rfl, Nat.zero_le _, rfl, rfl⟩, [], _, rfl, by simp⟩ ?_
    rintro n σ ⟨k, rfl, hk, hs, rfl⟩
    by_cases hlt : k < a.length
    · obtain ⟨x, hx, e⟩ := at_lt hlt
      obtain ⟨y, hy, e2⟩ := at_lt (show k < b.length by omega)
      have hlb : k < b.length := by omega
      by_cases hxy : x = y
      · simp [e, e2, hxy, ← hl, hlt]
        refine ⟨by kernel_rfl, ?_⟩
        simp [wrap_succ hlt ha]
        exact ⟨_, by omega, _, ⟨k + 1, rfl, hlt, sameTo_succ hs hx hy hxy, rfl⟩, [], _, rfl, by simp⟩
      · simp [e, e2, hxy, ← hl, hlt]
        refine ⟨by kernel_rfl, vcRet_of [] ?_ rfl⟩
        simp [not_same hx hy hxy]
    · obtain rfl : k = a.length := by omega
      have hab : a = b := by
        unfold sameTo at hs
        rwa [List.take_of_length_le (Nat.le_refl _), List.take_of_length_le (by omega)] at hs
      simp
      refine vcRet_of [] ?_ rfl
      simp [hab]
  · have hl' : ¬ (a.length : Int) = b.length := by omega
    simp [Tryz.ntmps12, hl']
    refine vcRet_of [] ?_ rfl
    have : a ≠ b := fun h => hl (by rw [h])
    simp [this]
theorem sameStr_m (a b : List ByteArray) (ha : a.length < 4294967296) : Meets Tryz.prog 10 [.d (.sl 1 (a.map strC)), .d (.sl 1 (b.map strC))] [] (Ret (.b (decide (a = b)))) := by
  refine meets tbOk mixed Tryz.func10 pl10 rfl rfl ?_
  by_cases hl : a.length = b.length
  · simp [Tryz.ntmps10, hl]
    refine vc_loop (fun n σ => ∃ k : Nat, n = a.length - k ∧ k ≤ a.length ∧ sameTo a b k ∧ σ = ⟨26, [(5, .i k), (0, .d (.sl 1 (a.map strC))), (1, .d (.sl 1 (b.map strC)))], []⟩) ⟨_, _, ⟨0, rfl, Nat.zero_le _, rfl, rfl⟩, [], _, rfl, by simp⟩ ?_
    rintro n σ ⟨k, rfl, hk, hs, rfl⟩
    by_cases hlt : k < a.length
    · obtain ⟨x, hx, e⟩ := at_lt hlt
      obtain ⟨y, hy, e2⟩ := at_lt (show k < b.length by omega)
      have hlb : k < b.length := by omega
      by_cases hxy : x = y
      · have hq : (x.toList == y.toList) = true := by rw [strEq, hxy]; simp
        simp [e, e2, hq, ← hl, hlt]
        refine ⟨by kernel_rfl, ?_⟩
        simp [wrap_succ hlt ha]
        exact ⟨_, by omega, _, ⟨k + 1, rfl, hlt, sameTo_succ hs hx hy hxy, rfl⟩, [], _, rfl, by simp⟩
      · have hq : (x.toList == y.toList) = false := by rw [strEq]; simp [hxy]
        simp [e, e2, hq, ← hl, hlt]
        refine ⟨by kernel_rfl, vcRet_of [] ?_ rfl⟩
        simp [not_same hx hy hxy]
    · obtain rfl : k = a.length := by omega
      have hab : a = b := by
        unfold sameTo at hs
        rwa [List.take_of_length_le (Nat.le_refl _), List.take_of_length_le (by omega)] at hs
      simp
      refine vcRet_of [] ?_ rfl
      simp [hab]
  · have hl' : ¬ (a.length : Int) = b.length := by omega
    simp [Tryz.ntmps10, hl']
    refine vcRet_of [] ?_ rfl
    have : a ≠ b := fun h => hl (by rw [h])
    simp [this]
instance decRz : DecidableEq Rz := fun x y => match x, y with
  | ⟨a, b, c, d⟩, ⟨a', b', c', d'⟩ => if h : a = a' ∧ b = b' ∧ c = c' ∧ d = d' then isTrue (by obtain ⟨rfl, rfl, rfl, rfl⟩ := h; rfl) else isFalse fun e => h (by cases e; exact ⟨rfl, rfl, rfl, rfl⟩)
theorem rz_eq {x y : Rz} : decide (x = y) = (x.runs == y.runs && x.stuck == y.stuck && x.full == y.full && decide (x.outs = y.outs)) := by
  rw [Bool.eq_iff_iff]
  simp only [decide_eq_true_eq, Bool.and_eq_true, beq_iff_eq]
  constructor
  · rintro rfl; exact ⟨⟨⟨rfl, rfl⟩, rfl⟩, rfl⟩
  · rintro ⟨⟨⟨h1, h2⟩, h3⟩, h4⟩
    cases x; cases y
    cases h1; cases h2; cases h3; cases h4; rfl
theorem same_m (x y : Rz) (hx : x.outs.length < 4294967296) : Meets Tryz.prog 22 [x.pv, y.pv] [] (Ret (.b (decide (x = y)))) := by
  refine meets tbOk mixed Tryz.func22 pl22 rfl rfl ?_
  rw [rz_eq]
  by_cases h1 : x.runs = y.runs
  · by_cases h2 : x.stuck = y.stuck
    · by_cases h3 : x.full = y.full
      · simp [Tryz.ntmps22, h1, h2, h3]
        refine (sameStr_m x.outs y.outs hx).mono ?_
        rintro _ rfl
        simp
        refine vcRet_of [] ?_ rfl
        simp
      · simp [Tryz.ntmps22, h1, h2, h3]
        refine vcRet_of [] ?_ rfl
        simp [h3]
    · simp [Tryz.ntmps22, h1, h2]
      refine vcRet_of [] ?_ rfl
      simp [h2]
  · simp [Tryz.ntmps22, h1]
    refine vcRet_of [] ?_ rfl
    simp [h1]
end Go.Proofs.YtplooifpgmlofaaGreat
namespace Go.Proofs.YtplooifpgmlofaaGreat
open Go.RowKit

theorem okR100 : okRuns 100 := ⟨by decide, by decide⟩
@[simp] def rzA : Rz := ⟨6, 0, [n1, n2, n3], true⟩
@[simp] def rzS : Rz := ⟨4, 0, [n1, n2, n3], true⟩
theorem sumAll_m (q : Option (List Int)) (hq : ∀ p, q = some p → legal sumY p) : Meets Tryz.prog 19 [.ifc 72 1000000, .i 100] [.sys (sumAt q)] (fun r => ∃ p, legal sumY p ∧ r = ⟨.tup [rzA.pv, .i 0], [.sys (sumAt (some p))], []⟩) := by
  refine (all_m sum_fair sumP 100 q hq).mono ?_
  rintro _ (⟨_, p, hp⟩ | h)
  · exact ⟨p, hp, by rw [sumR_all]; rfl⟩
  · exact absurd okR100 h
theorem sumAll0_m : Meets Tryz.prog 19 [.ifc 72 1000000, .i 100] [ss0.box] (fun r => ∃ p, legal sumY p ∧ r = ⟨.tup [rzA.pv, .i 0], [.sys (sumAt (some p))], []⟩) :=
  Meets.hide (by simp) (sumAll_m none (fun _ h => by cases h))
theorem sumSleep_m (q : Option (List Int)) (hq : ∀ p, q = some p → legal sumY p) : Meets Tryz.prog 9 [.ifc 72 1000000, .i 100] [.sys (sumAt q)] (fun r => ∃ p, legal sumY p ∧ r = ⟨.tup [rzS.pv, .i 0], [.sys (sumAt (some p))], []⟩) := by
  refine (sleep_m sum_fair sumP 100 q hq).mono ?_
  rintro _ (⟨_, p, hp⟩ | h)
  · exact ⟨p, hp, by rw [sumR_sleep]; rfl⟩
  · exact absurd okR100 h
theorem is1_m (s : ByteArray) : Meets Tryz.prog 21 [.d (.v (.string s))] [] (Ret (.b (s.toList == n1.toList))) := by
  refine meets tbOk mixed Tryz.func21 pl21 rfl rfl ?_
  simp [Tryz.ntmps21]
  refine vcRet_of [] ?_ rfl
  simp [n1]
theorem sumFind_m (q : Option (List Int)) (hq : ∀ p, q = some p → legal sumY p) : Meets Tryz.prog 16 [.ifc 72 1000000, .clo 21 [], .i 100] [.sys (sumAt q)] (fun r => ∃ p, legal sumY p ∧ r = ⟨.tup [.d (intD [1, 2, 2, 1]), .i 0], [.sys (sumAt (some p))], []⟩) := by
  have hf : (foundT sumY (fun s => s.toList == n1.toList) ⟨100, 60, false⟩).2.2 = (true, [1, 2, 2, 1]) := by rw [← sumQ_eq]; exact sum_find
  refine (findT_m is1_m sum_fair sumP 100 q hq).mono ?_
  rintro _ (⟨_, p, hp, h⟩ | ⟨_, p, hp, h⟩ | h)
  · exact ⟨p, hp, by rw [hf]; rfl⟩
  · rw [hf] at h; cases h
  · exact absurd okR100 h

set_option maxHeartbeats 1000000 in
theorem awake_m : Meets Tryz.prog 6 [] [] (Ret (.b true)) := by
  refine meets tbOk mixed Tryz.func6 pl6 rfl rfl ?_
  simp [Tryz.ntmps6]
  refine sumAll0_m.mono ?_
  rintro _ ⟨p, hp, rfl⟩
  simp
  refine (sumSleep_m (some p) (fun _ h => by cases h; exact hp)).mono ?_
  rintro _ ⟨p2, hp2, rfl⟩
  simp
  refine (sumFind_m (some p2) (fun _ h => by cases h; exact hp2)).mono ?_
  rintro _ ⟨p3, hp3, rfl⟩
  simp
  refine (same_m rzA rzA (by simp)).mono ?_
  rintro _ rfl
  simp
  refine (same_m rzS rzS (by simp)).mono ?_
  rintro _ rfl
  simp
  refine (sameInts_m [1, 2, 2, 1] [1, 2, 2, 1] (by simp)).mono ?_
  rintro _ rfl
  simp
  refine vcRet_of [] ?_ rfl
  simp
end Go.Proofs.YtplooifpgmlofaaGreat
namespace Go.Proofs.YtplooifpgmlofaaGreat
open Go.RowKit

theorem noneTo_any {α : Type} {p : α → Bool} {xs : List α} (h : noneTo p xs xs.length) : xs.any p = false := by
  rw [List.any_eq_false]
  intro x hx
  obtain ⟨i, hi, rfl⟩ := List.mem_iff_getElem.1 hx
  rw [h i xs[i] hi (List.getElem?_eq_getElem hi)]
  simp
theorem any_hit {α : Type} {p : α → Bool} {xs : List α} {k : Nat} {x : α} (hx : xs[k]? = some x) (hp : p x = true) : xs.any p = true := List.any_eq_true.2 ⟨x, List.mem_of_getElem? hx, hp⟩
set_option maxHeartbeats 1000000 in
theorem refIndep_m (a b : Fp) (ha : a.length < 4294967296) (hb : b.length < 4294967296) : Meets Tryz.prog 31 [.d (fpD a), .d (fpD b)] [] (Ret (.b (indy a b))) := by
  refine meets tbOk mixed Tryz.func31 pl31 rfl rfl ?_
  simp [Tryz.ntmps31]
  refine vc_loop (fun n σ => ∃ i : Nat, n = a.length - i ∧ i ≤ a.length ∧ noneTo (fun x => b.any fun y => clash x y) a i ∧ σ = ⟨44, [(5, .i i), (0, .d (fpD a)), (1, .d (fpD b))], []⟩) ⟨_, _, ⟨0, rfl, Nat.zero_le _, noneTo_zero _ _, rfl⟩, [], _, rfl, by simp⟩ ?_
  rintro n σ ⟨i, rfl, hi, hn, rfl⟩
  by_cases hlt : i < a.length
  · obtain ⟨x, hx, e⟩ := at_lt hlt
    simp [hlt]
    refine vc_loop (fun n σ => ∃ k : Nat, n = b.length - k ∧ k ≤ b.length ∧ noneTo (fun y => clash x y) b k ∧ σ = ⟨44, [(6, .i k), (5, .i i), (0, .d (fpD a)), (1, .d (fpD b))], []⟩) ⟨_, _, ⟨0, rfl, Nat.zero_le _, noneTo_zero _ _, rfl⟩, [], _, rfl, by simp⟩ ?_
    rintro n σ ⟨k, rfl, hk, hn2, rfl⟩
    by_cases hlt2 : k < b.length
    · obtain ⟨y, hy, e2⟩ := at_lt hlt2
      by_cases ho : x.obj = y.obj
      · cases hw : x.wr
        · cases hv : y.wr
          · have hc : clash x y = false := by simp [clash, hw, hv]
            set_option maxRecDepth 8000 in simp [hlt, hlt2, e, e2, ho, hw, hv]
            refine ⟨by kernel_rfl, ?_⟩
            simp [wrap_succ hlt2 hb]
            exact ⟨_, by omega, _, ⟨k + 1, rfl, hlt2, noneTo_succ hn2 hy hc, rfl⟩, [], _, rfl, by simp⟩
          · have hc : clash x y = true := by simp [clash, ho, hv]
            set_option maxRecDepth 8000 in simp [hlt, hlt2, e, e2, ho, hw, hv]
            refine ⟨by kernel_rfl, vcRet_of [] ?_ rfl⟩
            have h1 : (b.any fun y => clash x y) = true := any_hit hy hc
            have h2 : (a.any fun x => b.any fun y => clash x y) = true := any_hit hx h1
            simp only [indy, h2]
            simp
        · have hc : clash x y = true := by simp [clash, ho, hw]
          set_option maxRecDepth 8000 in simp [hlt, hlt2, e, e2, ho, hw]
          refine ⟨by kernel_rfl, vcRet_of [] ?_ rfl⟩
          have h1 : (b.any fun y => clash x y) = true := any_hit hy hc
          have h2 : (a.any fun x => b.any fun y => clash x y) = true := any_hit hx h1
          simp only [indy, h2]
          simp
      · have hc : clash x y = false := by simp [clash, ho]
        simp [hlt, hlt2, e, e2, ho]
        refine ⟨by kernel_rfl, ?_⟩
        simp [wrap_succ hlt2 hb]
        exact ⟨_, by omega, _, ⟨k + 1, rfl, hlt2, noneTo_succ hn2 hy hc, rfl⟩, [], _, rfl, by simp⟩
    · obtain rfl : k = b.length := by omega
      simp [wrap_succ hlt ha]
      exact ⟨_, by omega, _, ⟨i + 1, rfl, hlt, noneTo_succ hn hx (noneTo_any hn2), rfl⟩, [], _, rfl, by simp⟩
  · obtain rfl : i = a.length := by omega
    simp
    refine vcRet_of [] ?_ rfl
    have := noneTo_any hn
    simp only [indy, this]
    simp
theorem clash_comm (x y : Acc) : clash x y = clash y x := by
  unfold clash
  rw [Bool.or_comm, show (x.obj == y.obj) = (y.obj == x.obj) from BEq.comm]
theorem indy_comm (a b : Fp) : indy a b = indy b a := by
  unfold indy
  congr 1
  rw [Bool.eq_iff_iff]
  simp only [List.any_eq_true]
  constructor
  · rintro ⟨x, hx, y, hy, h⟩; exact ⟨y, hy, x, hx, by rw [clash_comm]; exact h⟩
  · rintro ⟨x, hx, y, hy, h⟩; exact ⟨y, hy, x, hx, by rw [clash_comm]; exact h⟩

end Go.Proofs.YtplooifpgmlofaaGreat
namespace Go.Proofs.YtplooifpgmlofaaGreat
open Go.RowKit Go.ChangeShapes Go.WideShapes
set_option maxRecDepth 100000
theorem opens4 : Opens Tryz.prog 4 (fun ds => ∃ x, ds = [x] ∧ ∃ b, x = .v (.bool b)) := (opens_bool Tryz.underlying4 (by kernel_rfl)).mono fun _ ⟨b, e⟩ => ⟨_, e, b, rfl⟩
section
variable {H : Type} {enc : TypeId × Value → H} {w : World} {base : Nat} {spare : Nat → Bool} {held : Bool} {r : Reach} {b0 : Nat} {v : Value} {d : DataW H} {p : List MemPlace} {m : Map}
end
end Go.Proofs.YtplooifpgmlofaaGreat
namespace Go.Proofs.YtplooifpgmlofaaGreat
open Go.RowKit

def heldBy (l : List Stp) (s : Stp) : Bool := l.any fun x => x.task == s.task || !indy x.uses s.uses
def taskAt (l : List Stp) (b : Int) : Int := match l[b.toNat]? with
  | some s => s.task
  | none => 0
def bestTo (l : List Stp) : Nat → Int
  | 0 => -1
  | k + 1 => match l[k]? with
    | some s => if 0 ≤ bestTo l k ∧ taskAt l (bestTo l k) ≤ s.task then bestTo l k else if heldBy (l.take k) s = true then bestTo l k else k
    | none => bestTo l k
theorem bestTo_lt (l : List Stp) : ∀ k, -1 ≤ bestTo l k ∧ bestTo l k < k
  | 0 => ⟨by simp [bestTo], by simp [bestTo]⟩
  | k + 1 => by
    have := bestTo_lt l k
    unfold bestTo
    split
    · split
      · omega
      · split <;> omega
    · omega
theorem bestTo_pos (l : List Stp) : ∀ k, 0 < k → k ≤ l.length → 0 ≤ bestTo l k
  | 1, _, h => by
    obtain ⟨s, hs, _⟩ := at_lt (show 0 < l.length by omega)
    have h0 : bestTo l 0 = -1 := rfl
    have hh : heldBy (l.take 0) s = false := rfl
    unfold bestTo
    rw [hs]
    dsimp only
    rw [h0, hh, if_neg (by omega), if_neg (by decide)]
    decide
  | k + 2, _, h => by
    have h1 := bestTo_pos l (k + 1) (by omega) (by omega)
    unfold bestTo
    split
    · split
      · exact h1
      · split
        · exact h1
        · omega
    · exact h1
def normX : Nat → List Stp → List Int
  | 0, _ => []
  | n + 1, l => if l = [] then [] else taskAt l (bestTo l l.length) :: normX n (l.eraseIdx (bestTo l l.length).toNat)
def stepsK (Y : Sys) (p : List Int) (k : Nat) : List Stp := (List.range k).map fun i => ⟨p.getD i 0, Y.foot (p.take i) (p.getD i 0)⟩
theorem stepsK_succ {Y : Sys} {p : List Int} {k : Nat} {t : Int} (h : p[k]? = some t) : stepsK Y p (k + 1) = stepsK Y p k ++ [⟨t, Y.foot (p.take k) t⟩] := by
  unfold stepsK
  rw [List.range_succ, List.map_append]
  simp [List.getD_eq_getElem?_getD, h]
theorem stepsK_len {Y : Sys} {p : List Int} {k : Nat} : (stepsK Y p k).length = k := by simp [stepsK]
theorem stepsK_uses {Y : Sys} (hY : Fair Y) {p : List Int} {k : Nat} : ∀ s ∈ stepsK Y p k, s.uses.length < 1000 := fun s hs => by
  obtain ⟨i, _, rfl⟩ := List.mem_map.1 hs
  exact hY.uses _ _
def normal (Y : Sys) (p : List Int) : List Int := normX p.length (stepsK Y p p.length)

abbrev strP (s : ByteArray) : PV := .d (.v (.string s))
inductive PlayR {Y : Sys} (A : Plr Y) (q : Option (List Int)) (p : List Int) : Res → Prop
  | long (h : 60 < p.length) : PlayR A q p ⟨.tup [strP ⟨#[]⟩, .i 0, .i 3], [.sys (A.at_ q)], []⟩
  | all (h : legal Y p) : PlayR A q p ⟨.tup [strP (Y.out p), .i p.length, .i 0], [.sys (A.at_ (some p))], []⟩
  | bad (h60 : p.length ≤ 60) (k : Nat) (t : Int) (ht : p[k]? = some t) (hl : legal Y (p.take k)) (hn : t ∉ Y.en (p.take k)) : PlayR A q p ⟨.tup [strP (Y.out (p.take k)), .i k, .i 9], [.sys (A.at_ (some (p.take k)))], []⟩
inductive PlayI {Y : Sys} (A : Plr Y) (p : List Int) : Nat → Sta → Prop
  | mk (k : Nat) (hk : k ≤ p.length) (hl : legal Y (p.take k)) : PlayI A p (p.length - k) ⟨41, [(20, .i k), (19, .i p.length), (18, .d (intD p)), (0, .ifc A.t 1000000), (1, .d (intD p))], [(1000000, .sys (A.at_ (some (p.take k))))]⟩
theorem legal_step {Y : Sys} {p : List Int} {k : Nat} {t : Int} (h : legal Y (p.take k)) (h60 : p.length ≤ 60) (ht : p[k]? = some t) (hm : t ∈ Y.en (p.take k)) : legal Y (p.take (k + 1)) := by
  have hk := (List.getElem?_eq_some_iff.1 ht).1
  rw [List.take_add_one, ht]
  exact legal_snoc h hm (by rw [List.length_take]; omega)
theorem take_step {p : List Int} {k : Nat} {t : Int} (ht : p[k]? = some t) : p.take (k + 1) = p.take k ++ [t] := by rw [List.take_add_one, ht]; rfl

end Go.Proofs.YtplooifpgmlofaaGreat
namespace Go.Proofs.YtplooifpgmlofaaGreat
open Go.RowKit

@[simp] def rowS (l : List Stp) : MObj := .row 104 2 (l.map Stp.ds) false
theorem heldS_m (x s : Stp) (hx : x.uses.length < 1000) (hs : s.uses.length < 1000) : Meets Tryz.prog 35 [x.pv, .ptr 1000000 0] [.box 104 [.i s.task, .d (fpD s.uses)]] (fun r => r = ⟨.b (x.task == s.task || !indy x.uses s.uses), [.box 104 [.i s.task, .d (fpD s.uses)]], []⟩) := by
  refine meets tbOk mixed Tryz.func35 pl35 rfl rfl ?_
  by_cases h : x.task = s.task
  · simp [Tryz.ntmps35, h]
    refine vcRet_of [] ?_ rfl
    simp
  · simp [Tryz.ntmps35, h]
    refine (indep_m x.uses s.uses (by omega) (by omega)).mono ?_
    rintro _ rfl
    simp
    refine vcRet_of [] ?_ rfl
    simp [h]
inductive HeldI (l : List Stp) (k : Nat) (s : Stp) : Nat → Sta → Prop
  | mk (j : Nat) (hj : j ≤ k) (hn : noneTo (fun x => x.task == s.task || !indy x.uses s.uses) (l.take k) j) :
    HeldI l k s (k - j) ⟨19, [(8, .i j), (7, .i k), (0, .rw 1000000 k), (1, .clo 35 [.ptr 1000001 0])], [(1000000, rowS l), (1000001, .box 104 [.i s.task, .d (fpD s.uses)])]⟩
theorem indexH_m (l : List Stp) (hl : l.length < 4294967296) (hu : ∀ x ∈ l, x.uses.length < 1000) (k : Nat) (hk : k ≤ l.length) (s : Stp) (hs : s.uses.length < 1000) :
    Meets Tryz.prog 58 [.rw 1000000 k, .clo 35 [.ptr 1000001 0]] [rowS l, .box 104 [.i s.task, .d (fpD s.uses)]]
      (fun r => r = ⟨.i (idx (fun x => x.task == s.task || !indy x.uses s.uses) (l.take k) 0), [rowS l, .box 104 [.i s.task, .d (fpD s.uses)]], []⟩) := by
  refine meets tbOk mixed Tryz.func58 pl58 rfl rfl ?_
  simp [Tryz.ntmps58]
  refine vc_loop (HeldI l k s) ⟨_, _, .mk 0 (Nat.zero_le _) (noneTo_zero _ _), [], _, rfl, by simp⟩ ?_
  rintro n σ ⟨j, hj, hn⟩
  have hlk : (l.take k).length = k := by rw [List.length_take, Nat.min_eq_left hk]
  by_cases hlt : j < k
  · obtain ⟨x, hx, e⟩ := at_lt (show j < l.length by omega)
    have hxt : (l.take k)[j]? = some x := by rw [List.getElem?_take, if_pos hlt]; exact hx
    have hjl : j < l.length := by omega
    simp [hlt, hjl, e]
    refine (heldS_m x s (hu x (List.mem_of_getElem? hx)) hs).mono ?_
    rintro _ rfl
    cases h : (x.task == s.task || !indy x.uses s.uses)
    · simp [wrap_succ hlt (show k < 4294967296 by omega)]
      exact ⟨k - (j + 1), by omega, _, .mk (j + 1) hlt (noneTo_succ hn hxt h), [], _, rfl, by simp⟩
    · simp
      refine vcRet_of [] ?_ rfl
      simp [idx_hit _ (l.take k) j x hxt h hn]
  · obtain rfl : j = k := by omega
    simp
    refine vcRet_of [] ?_ rfl
    have hm : idx (fun x => x.task == s.task || !indy x.uses s.uses) (l.take j) 0 = -1 := idx_miss _ (l.take j) (by rw [hlk]; exact hn)
    simp [hm]
theorem containsH_m (l : List Stp) (hl : l.length < 4294967296) (hu : ∀ x ∈ l, x.uses.length < 1000) (k : Nat) (hk : k ≤ l.length) (s : Stp) (hs : s.uses.length < 1000) :
    Meets Tryz.prog 34 [.rw 1000000 k, .clo 35 [.ptr 1000001 0]] [rowS l, .box 104 [.i s.task, .d (fpD s.uses)]]
      (fun r => r = ⟨.b (heldBy (l.take k) s), [rowS l, .box 104 [.i s.task, .d (fpD s.uses)]], []⟩) := by
  refine meets tbOk mixed Tryz.func34 pl34 rfl rfl ?_
  simp [Tryz.ntmps34]
  refine (indexH_m l hl hu k hk s hs).mono ?_
  rintro _ rfl
  simp
  refine vcRet_of [] ?_ rfl
  simp [← idx_any (fun x => x.task == s.task || !indy x.uses s.uses) (l.take k) 0 (by omega), heldBy]
@[simp] def stp0 : List D := [.v (.int .i64 0), .v (.slice none 0 0)]
set_option maxHeartbeats 1000000 in
theorem deleteS_m (xs : List Stp) (i : Nat) (hi : i < xs.length) (hl : xs.length < 4294967296) : Meets Tryz.prog 37 [.rw 1000000 xs.length, .i i, .i ((i : Int) + 1)] [rowS xs]
    (fun r => r = ⟨.rw 1000000 (xs.length - 1), [.row 104 2 ((xs.eraseIdx i).map Stp.ds ++ [stp0]) false], []⟩) := by
  refine meets tbOk mixed Tryz.func37 pl37 rfl rfl ?_
  have h1 : ¬ ((i : Int) = i + 1) := by omega
  have h2 : ¬ (i = xs.length) := by omega
  have e3 : i + (xs.length - (i + 1)) = xs.length - 1 := by omega
  simp [Tryz.ntmps37, h1, h2, e3]
  refine ⟨⟨by omega, by omega⟩, by omega, ⟨by omega, by omega⟩, by omega, by kernel_rfl, ?_⟩
  refine ⟨by omega, by omega, vcRet_of [] ?_ rfl⟩
  have e4 : List.take (xs.length - (i + 1)) (List.drop (i + 1) (List.map Stp.ds xs)) = List.drop (i + 1) (List.map Stp.ds xs) := List.take_of_length_le (by simp)
  have e5 : xs.length - (xs.length - 1) = 1 := by omega
  have e6 : List.map Stp.ds (xs.eraseIdx i) = List.take i (List.map Stp.ds xs) ++ List.drop (i + 1) (List.map Stp.ds xs) := by rw [List.eraseIdx_eq_take_drop_succ, List.map_append, List.map_take, List.map_drop]
  have e7 : List.take (xs.length - 1) (List.take i (List.map Stp.ds xs) ++ (List.drop (i + 1) (List.map Stp.ds xs) ++ List.drop (xs.length - 1) (List.map Stp.ds xs))) = List.take i (List.map Stp.ds xs) ++ List.drop (i + 1) (List.map Stp.ds xs) := by
    rw [← List.append_assoc]
    exact List.take_left' (by simp; omega)
  have e8 : List.drop xs.length (List.take i (List.map Stp.ds xs) ++ (List.drop (i + 1) (List.map Stp.ds xs) ++ List.drop (xs.length - 1) (List.map Stp.ds xs))) = [] := List.drop_of_length_le (by simp; omega)
  rw [e4, e5, e6]
  simp [e7, e8]
end Go.Proofs.YtplooifpgmlofaaGreat
namespace Go.Proofs.YtplooifpgmlofaaGreat
open Go.RowKit

inductive NormR {Y : Sys} (A : Plr Y) (q : Option (List Int)) (p : List Int) : Res → Prop
  | long (h : 60 < p.length) : NormR A q p ⟨.tup [.d (.v (.slice none 0 0)), .i 3], [.sys (A.at_ q)], []⟩
  | all (h : legal Y p) : NormR A q p ⟨.tup [.d (intD (normal Y p)), .i 0], [.sys (A.at_ (some p))], []⟩
  | bad (h60 : p.length ≤ 60) (k : Nat) (t : Int) (ht : p[k]? = some t) (hl : legal Y (p.take k)) (hn : t ∉ Y.en (p.take k)) : NormR A q p ⟨.tup [.d (.v (.slice none 0 0)), .i 9], [.sys (A.at_ (some (p.take k)))], []⟩
inductive NormI {Y : Sys} (A : Plr Y) (p : List Int) : Nat → Sta → Prop
  | mk (k : Nat) (hk : k ≤ p.length) (hl : legal Y (p.take k)) : NormI A p (p.length - k) ⟨92, [(25, .i k), (24, .i p.length), (23, .d (intD p)), (6, .rw 6 k), (0, .ifc A.t 1000000), (1, .d (intD p))], [(6, rowS (stepsK Y p k)), (1000000, .sys (A.at_ (some (p.take k))))]⟩
inductive OutN {Y : Sys} (A : Plr Y) (p : List Int) (R : List Int) : Nat → Sta → Prop
  | mk (l : List Stp) (out : List Int) (hl : l.length ≤ 60) (hu : ∀ x ∈ l, x.uses.length < 1000) (ho : out.length + l.length ≤ 60) (hR : out ++ normX l.length l = R) :
    OutN A p R l.length ⟨92, [(9, .rw 9 out.length), (6, .rw 6 l.length), (0, .ifc A.t 1000000)], [(9, rowO out), (6, rowS l), (1000000, .sys (A.at_ (some p)))]⟩
inductive BestI {Y : Sys} (A : Plr Y) (p : List Int) (l : List Stp) (out : List Int) : Nat → Sta → Prop
  | mk (k : Nat) (hk : k ≤ l.length) :
    BestI A p l out (l.length - k) ⟨92, [(52, .i k), (51, .i l.length), (50, .rw 6 l.length), (10, .i (bestTo l k)), (9, .rw 9 out.length), (6, .rw 6 l.length), (0, .ifc A.t 1000000)], [(9, rowO out), (6, rowS l), (1000000, .sys (A.at_ (some p)))]⟩
set_option maxHeartbeats 4000000 in
theorem normal_m {Y : Sys} (hY : Fair Y) (A : Plr Y) (q : Option (List Int)) (hq : ∀ p, q = some p → legal Y p) (p : List Int) :
    Meets Tryz.prog 13 [.ifc A.t 1000000, .d (intD p)] [.sys (A.at_ q)] (NormR A q p) := by
  refine meetsP [] tbOk mixed Tryz.func13 pl13 rfl rfl ?_
  by_cases h60 : (60 : Int) < p.length
  · simp [Tryz.ntmps13, h60]
    refine vcRet_of [] ?_ (.long (by omega))
    simp
  · simp [Tryz.ntmps13, h60, A.nS]
    refine (A.mS q hq).mono ?_
    rintro _ rfl
    simp
    refine vc_loop (NormI A p) ⟨_, _, .mk 0 (Nat.zero_le _) (legal_nil Y), [.row 6 104 2], _, rfl, by simp [stepsK]⟩ ?_
    rintro n σ ⟨k, hk, hl⟩
    by_cases hlt : k < p.length
    · obtain ⟨t, ht, e⟩ := at_lt hlt
      have hfew := hY.few (p.take k)
      simp [hlt, e, A.nE]
      refine (A.mE _ hl).mono ?_
      rintro _ rfl
      simp
      refine (containsI_m (Y.en (p.take k)) t (by omega)).mono ?_
      rintro _ rfl
      by_cases hm : t ∈ Y.en (p.take k)
      · have hus := hY.uses (p.take k) t
        have hsl := stepsK_len (Y := Y) (p := p) (k := k)
        simp [hm, A.nF]
        refine (A.mF _ t hl hm).mono ?_
        rintro _ rfl
        simp
        refine (cloneA_m (Y.foot (p.take k) t) (by omega)).mono ?_
        rintro _ rfl
        simp [hsl, A.nT]
        refine ⟨by omega, ?_⟩
        refine (A.mT _ t hl hm (by rw [List.length_take]; omega)).mono ?_
        rintro _ rfl
        simp [wrap_succ hlt (show p.length < 4294967296 by omega)]
        refine ⟨p.length - (k + 1), by omega, _, .mk (k + 1) hlt (legal_step hl (by omega) ht hm), [], _, rfl, ?_⟩
        rw [take_step ht, stepsK_succ ht]
        simp
      · simp [hm]
        refine vcRet_of [] ?_ (.bad (by omega) k t ht hl hm)
        simp
    · obtain rfl : k = p.length := by omega
      have hl' : legal Y p := by rwa [List.take_length] at hl
      simp
      refine vc_loop (OutN A p (normal Y p)) ⟨_, _, .mk (stepsK Y p p.length) [] (by rw [stepsK_len]; omega) (stepsK_uses hY) (by rw [stepsK_len]; simp; omega) (by simp [normal, stepsK_len]), [.row 9 3 1], _, rfl, by simp [stepsK_len]⟩ ?_
      rintro n σ ⟨l, out, hl60, hu, ho, hR⟩
      by_cases h0 : l = []
      · subst h0
        simp
        refine vcRet_of [] ?_ (.all hl')
        simp [← hR, normX]
        rw [List.take_of_length_le (by simp)]
      · have hpos : 0 < l.length := List.length_pos_iff.2 h0
        obtain ⟨m, hm⟩ : ∃ m, l.length = m + 1 := ⟨l.length - 1, by omega⟩
        simp [hpos]
        refine vc_loop (BestI A p l out) ⟨_, _, .mk 0 (Nat.zero_le _), [], _, rfl, by simp [bestTo]⟩ ?_
        rintro n σ ⟨k, hk⟩
        have hb := bestTo_lt l k
        by_cases hlt : k < l.length
        · obtain ⟨s, hs, e⟩ := at_lt hlt
          have hsu := hu s (List.mem_of_getElem? hs)
          have hbs : bestTo l (k + 1) = if 0 ≤ bestTo l k ∧ taskAt l (bestTo l k) ≤ s.task then bestTo l k else if heldBy (l.take k) s = true then bestTo l k else k := by
            rw [bestTo, hs]
          have hcon := containsH_m l (by omega) hu k (by omega) s hsu
          by_cases hb0 : 0 ≤ bestTo l k
          · obtain ⟨b, hbn⟩ : ∃ b : Nat, bestTo l k = b := ⟨(bestTo l k).toNat, by omega⟩
            rw [hbn] at hb hbs ⊢
            have hbl : b < l.length := by omega
            obtain ⟨x, hx, e2⟩ := at_lt hbl
            have hta : taskAt l b = x.task := by simp [taskAt, hx]
            rw [hta] at hbs
            by_cases hge : x.task ≤ s.task
            · rw [if_pos ⟨by omega, hge⟩] at hbs
              simp [hlt, e, hbl, e2, hge]
              refine ⟨by kernel_rfl, ?_⟩
              simp [wrap_succ hlt (show l.length < 4294967296 by omega)]
              exact ⟨l.length - (k + 1), by omega, _, .mk (k + 1) hlt, [], _, rfl, by simp [hbs]⟩
            · rw [if_neg (fun h => hge h.2)] at hbs
              simp [hlt, e, hbl, e2, hge]
              refine ⟨by kernel_rfl, ?_⟩
              have hi : List.idxOf 12 [6, 12] = 1 := rfl
              rw [hi]
              refine ⟨by omega, hcon.mono ?_⟩
              rintro _ rfl
              simp
              cases hh : heldBy (l.take k) s
              · rw [if_neg (by rw [hh]; exact Bool.false_ne_true)] at hbs
                simp [wrap_succ hlt (show l.length < 4294967296 by omega)]
                exact ⟨l.length - (k + 1), by omega, _, .mk (k + 1) hlt, [], _, rfl, by simp [hbs]⟩
              · rw [if_pos hh] at hbs
                simp [wrap_succ hlt (show l.length < 4294967296 by omega)]
                exact ⟨l.length - (k + 1), by omega, _, .mk (k + 1) hlt, [], _, rfl, by simp [hbs]⟩
          · have hb1 : bestTo l k = -1 := by omega
            rw [hb1] at hb hbs ⊢
            rw [if_neg (by omega)] at hbs
            simp [hlt, e]
            refine ⟨by kernel_rfl, ?_⟩
            have hi : List.idxOf 12 [6, 12] = 1 := rfl
            rw [hi]
            refine ⟨by omega, hcon.mono ?_⟩
            rintro _ rfl
            simp
            cases hh : heldBy (l.take k) s
            · rw [if_neg (by rw [hh]; exact Bool.false_ne_true)] at hbs
              simp [wrap_succ hlt (show l.length < 4294967296 by omega)]
              exact ⟨l.length - (k + 1), by omega, _, .mk (k + 1) hlt, [], _, rfl, by simp [hbs]⟩
            · rw [if_pos hh] at hbs
              simp [wrap_succ hlt (show l.length < 4294967296 by omega)]
              exact ⟨l.length - (k + 1), by omega, _, .mk (k + 1) hlt, [], _, rfl, by simp [hbs]⟩
        · obtain rfl : k = l.length := by omega
          have hbp := bestTo_pos l l.length hpos (Nat.le_refl _)
          obtain ⟨b, hbn⟩ : ∃ b : Nat, bestTo l l.length = b := ⟨(bestTo l l.length).toNat, by omega⟩
          rw [hbn] at hb ⊢
          have hbl : b < l.length := by omega
          obtain ⟨x, hx, e2⟩ := at_lt hbl
          have hta : taskAt l b = x.task := by simp [taskAt, hx]
          have hw1 : IntKind.i64.wrap ((b : Int) + 1) = b + 1 := wrap_in (by omega)
          rw [hm, normX, if_neg h0, hbn, hta, Int.toNat_natCast] at hR
          simp [hbl, e2, hw1]
          refine ⟨by omega, (deleteS_m l b hbl (by omega)).mono ?_⟩
          rintro _ rfl
          simp
          have hlen : (l.eraseIdx b).length = m := by rw [List.length_eraseIdx_of_lt hbl]; omega
          refine ⟨_, ?_, _, .mk (l.eraseIdx b) (out ++ [x.task]) (by omega) (fun y hy => hu y (List.mem_of_mem_eraseIdx hy)) (by simp; omega) (by rw [List.append_assoc, hlen]; exact hR), [.trim 6 m], _, (by simp [Prep.all, Prep.run, hlen]; rfl), ?_⟩
          · rw [hlen]; omega
          · simp [hlen, hm]
end Go.Proofs.YtplooifpgmlofaaGreat
