/- Contracts: explore 7. No condition. -/
import Derived.Test.YtplooifpgmlofaaGreatN6
import Derived.Laws.Strings
namespace Go.Proofs.YtplooifpgmlofaaGreat
open Go.RowKit
/-- There are no more outcomes than runs. -/
def lenOkT (s : FdT) : Prop := (s.2.1.length : Int) ≤ s.1.runs
theorem leafT_len {Y : Sys} {f : Cf} {p : List Int} {want : ByteArray → Bool} {cut : Bool} {s : FdT} (h : lenOkT s) : lenOkT (leafT Y f want p cut s) := by
  unfold lenOkT leafT at *
  split
  · exact h
  · split
    · show (s.2.1.length : Int) ≤ s.1.runs + 1
      omega
    · show ((putZ (Y.out p) s.2.1).length : Int) ≤ s.1.runs + 1
      unfold putZ
      split
      · omega
      · simp; omega
theorem loopXT_len {Y : Sys} {f : Cf} {rec : List Int → List Stp → Int → FdT → FdT} {p : List Int} {last left : Int} (hrec : ∀ p sl left s, lenOkT s → lenOkT (rec p sl left s)) : ∀ (ts : List Int) (sl : List Stp) (s : FdT), lenOkT s → lenOkT (loopX rec Y f p last left ts sl s)
  | [], _, _, h => h
  | t :: ts, sl, s, h => by
    unfold loopX
    generalize (if 0 < last ∧ last ≠ t then left - 1 else left) = r
    split
    · exact loopXT_len hrec ts sl s h
    · split
      · exact loopXT_len hrec ts sl _ h
      · split
        · exact hrec _ _ _ _ h
        · exact loopXT_len hrec ts _ _ (hrec _ _ _ _ h)
theorem goXT_len {Y : Sys} {f : Cf} {lf : List Int → Bool → FdT → FdT} (hlf : ∀ p cut s, lenOkT s → lenOkT (lf p cut s)) : ∀ (n : Nat) (p : List Int) (sl : List Stp) (left : Int) (s : FdT), lenOkT s → lenOkT (goX lf Y f n p sl left s)
  | 0, p, _, _, s, h => hlf _ _ _ h
  | n + 1, p, sl, left, s, h => by
    unfold goX
    split
    · exact hlf _ _ _ h
    · exact loopXT_len (fun p sl left s h => goXT_len hlf n p sl left s h) _ _ _ h
section
variable {want : ByteArray → Bool} {fw : Nat}
/-- The outcomes that are still to come, and those that came. -/
inductive OutT (fw : Nat) (z : Tz) (A : PV) (f : Cf) (c : Ct) (l : List ByteArray) (H : Hid) : Nat → Sta → Prop
  | mk (lz acc : List ByteArray) (cur : Option (Value × Value)) (hp : (acc ++ lz).Perm l) :
    OutT fw z A f c l H lz.length ⟨52, [(25, .ptr 25 0), (5, .ptr 5 0), (4, .ptr 4 0)], [(25, .sys (iterH (mapZ lz) cur)), (901, .row 9 1 (acc.map strC) false), (13, .box 120 [.i f.most, .i f.switches, .b f.sleeps, tlP 1000001 1000002 1000003, A, .any, .i c.runs, .i c.stuck, .rw 901 acc.length, .b c.full, .any, .b c.enough]), (5, .box 117 [.ptr 13 0]), (4, .box 34 [.i 0, .i 0, .d (.v (.slice none 0 0)), .b false]), (1000000, .sys H), (1000001, .box 56 [.clo fw []]), (1000002, .box 4 [.b z.1]), (1000003, .box 24 [.d (intD z.2)])]⟩

set_option maxHeartbeats 2000000 in
theorem exploreT_m (hw : ∀ s : ByteArray, Meets Tryz.prog fw [.d (.v (.string s))] [] (Ret (.b (want s)))) {Y : Sys} (hY : Fair Y) (A : Plr Y) (f : Cf) (hm : 0 ≤ f.most ∧ f.most ≤ 100000) (hs : 0 ≤ f.switches ∧ f.switches ≤ 60) (q : Option (List Int)) (hq : ∀ p, q = some p → legal Y p) :
    Meets Tryz.prog 26 [.ifc A.t 1000000, .agg [.i f.most, .i f.switches, .b f.sleeps, tlP 1000001 1000002 1000003]] [.sys (A.at_ q), .box 56 [.clo fw []], .box 4 [.b false], .box 24 [.d (.v (.slice none 0 0))]]
      (fun r => ∃ p, legal Y p ∧ r = ⟨.agg [.i (goX (leafT Y f want) Y f 60 [] [] f.switches (⟨0, 0, true, false⟩, [], false, [])).1.runs, .i (goX (leafT Y f want) Y f 60 [] [] f.switches (⟨0, 0, true, false⟩, [], false, [])).1.stuck, .d (.sl 1 ((sortB (goX (leafT Y f want) Y f 60 [] [] f.switches (⟨0, 0, true, false⟩, [], false, [])).2.1).map strC)), .b (goX (leafT Y f want) Y f 60 [] [] f.switches (⟨0, 0, true, false⟩, [], false, [])).1.full], [.sys (A.at_ (some p)), .box 56 [.clo fw []], .box 4 [.b (goX (leafT Y f want) Y f 60 [] [] f.switches (⟨0, 0, true, false⟩, [], false, [])).2.2.1], .box 24 [.d (intD (goX (leafT Y f want) Y f 60 [] [] f.switches (⟨0, 0, true, false⟩, [], false, [])).2.2.2)]], []⟩) := by
  obtain ⟨R, hR⟩ : ∃ R, goX (leafT Y f want) Y f 60 [] [] f.switches (⟨0, 0, true, false⟩, [], false, []) = R := ⟨_, rfl⟩
  refine meetsP [(8, [.cell 1000003 0 902 3 1, .seen 1000003 0]), (15, [.cell 13 5 900 3 1]), (21, [.cell 13 8 901 9 1])] tbOk mixed Tryz.func26 pl26 rfl rfl ?_
  simp [Tryz.ntmps26, Prep.run]
  refine (reachT_m A f ⟨0, 0, true, false⟩ (false, []) [] q hq [] (legal_nil Y)).mono ?_
  rintro _ rfl
  simp
  refine (Meets.nil0 (sz := 2) (by omega) (fromT_m hw hY A f 60 [] [] f.switches (⟨0, 0, true, false⟩, [], false, []) (by simp) (legal_nil Y) (by simp) (fun _ h => by cases h) hs ⟨hm.2, by simp, by simpa using hm.1, by simp, by simp⟩)).mono ?_
  rw [hR]
  rintro _ ⟨p, hp, rfl⟩
  simp [Prep.run]
  have hRok : Ct.Ok f R.1 := by rw [← hR]; exact goX_ok (fun p cut s h => leafT_ok h) 60 _ _ _ _ ⟨hm.2, by simp, by simpa using hm.1, by simp, by simp⟩
  have hRl : lenOkT R := by rw [← hR]; exact goXT_len (fun p cut s h => leafT_len h) 60 _ _ _ _ (by simp [lenOkT])
  have hRn : R.2.1.length ≤ 100000 := by
    have h1 := hRok.runs
    have h2 := hRok.most
    unfold lenOkT at hRl
    omega
  refine vc_loop (OutT fw R.2.2 (.ifc A.t 1000000) f R.1 R.2.1 (A.at_ (some p))) ⟨_, _, .mk R.2.1 [] none (by simp), [], _, rfl, by simp⟩ ?_
  rintro m σ ⟨lz, acc, cur, hpm⟩
  have hpl := hpm.length_eq
  rw [List.length_append] at hpl
  simp
  refine nextOk.of (fun h => ?_) (fun i e hi => ?_)
  · have hlz : lz = [] := by simpa [mapZ] using h
    subst hlz
    refine (sortA_m acc (by omega)).mono ?_
    rintro _ rfl
    simp
    have hac : acc.Perm R.2.1 := by simpa using hpm
    refine vcRet_of [] ?_ ⟨p, hp, rfl⟩
    have hsl : (sortB R.2.1).length = acc.length := by rw [sortB_len, hac.length_eq]
    simp [sortB_perm hac, sortB_len]
    exact ⟨by rw [hac.length_eq]; exact Nat.le_refl _, List.take_of_length_le (by rw [List.length_map, hsl]; exact Nat.le_refl _)⟩
  · obtain ⟨s, hs, rfl⟩ : ∃ s, lz[i]? = some s ∧ e = (.string s, .bool true) := by
      unfold mapZ at hi
      rw [List.getElem?_map] at hi
      obtain ⟨s, h1, h2⟩ := Option.map_eq_some_iff.1 hi
      exact ⟨s, h1, h2.symm⟩
    simp
    refine entryOk.of ?_
    simp
    have hil : i < lz.length := (List.getElem?_eq_some_iff.1 hs).1
    have hperm : (acc ++ [s] ++ lz.eraseIdx i).Perm R.2.1 := by
      refine List.Perm.trans ?_ hpm
      rw [List.append_assoc]
      refine List.Perm.append_left acc ?_
      have hx : lz[i] = s := by rw [List.getElem?_eq_getElem hil] at hs; exact Option.some.inj hs
      rw [← hx]
      exact eraseI_perm hil
    refine ⟨by omega, by kernel_rfl, _, ?_, _, .mk (lz.eraseIdx i) (acc ++ [s]) (some (.string s, .bool true)) hperm, [], _, rfl, by simp [mapZ, map_eraseI]⟩
    rw [List.length_eraseIdx_of_lt hil]; omega
end
end Go.Proofs.YtplooifpgmlofaaGreat
namespace Go.Proofs.YtplooifpgmlofaaGreat
open Go.RowKit

/-- What is told from the beginning. -/
def foundT (Y : Sys) (want : ByteArray → Bool) (f : Cf) : FdT := goX (leafT Y f want) Y f 60 [] [] f.switches (⟨0, 0, true, false⟩, [], false, [])
/-- What Find hands back: a run, or that there is none, or an error. -/
inductive FindR {Y : Sys} (A : Plr Y) (want : ByteArray → Bool) (q : Option (List Int)) (most : Int) (tl : List MObj) : Res → Prop
  | yes (h : okRuns most) (p : List Int) (hp : legal Y p) (hf : (foundT Y want ⟨most, 60, false⟩).2.2.1 = true) : FindR A want q most tl ⟨.tup [.d (intD (foundT Y want ⟨most, 60, false⟩).2.2.2), .i 0], .sys (A.at_ (some p)) :: tl, []⟩
  | none (h : okRuns most) (p : List Int) (hp : legal Y p) (hf : (foundT Y want ⟨most, 60, false⟩).2.2.1 = false) : FindR A want q most tl ⟨.tup [.d (.v (.slice none 0 0)), .i 4], .sys (A.at_ (some p)) :: tl, []⟩
  | no (h : ¬ okRuns most) : FindR A want q most tl ⟨.tup [.d (.v (.slice none 0 0)), .i 7], .sys (A.at_ q) :: tl, []⟩
section
variable {want : ByteArray → Bool} {fw : Nat}
set_option maxHeartbeats 1000000 in
theorem findT_m (hw : ∀ s : ByteArray, Meets Tryz.prog fw [.d (.v (.string s))] [] (Ret (.b (want s)))) {Y : Sys} (hY : Fair Y) (A : Plr Y) (most : Int) (q : Option (List Int)) (hq : ∀ p, q = some p → legal Y p) :
    Meets Tryz.prog 16 [.ifc A.t 1000000, .clo fw [], .i most] [.sys (A.at_ q)] (FindR A want q most []) := by
  refine meets tbOk mixed Tryz.func16 pl16 rfl rfl ?_
  simp [Tryz.ntmps16]
  refine (ready_m A.t (A.at_ q) most).mono ?_
  rintro _ rfl
  by_cases hr : okRuns most
  · obtain ⟨R, hR⟩ : ∃ R, foundT Y want ⟨most, 60, false⟩ = R := ⟨_, rfl⟩
    have hR' : goX (leafT Y ⟨most, 60, false⟩ want) Y ⟨most, 60, false⟩ 60 [] [] 60 (⟨0, 0, true, false⟩, [], false, []) = R := hR
    simp [if_pos hr]
    have he := exploreT_m hw hY A ⟨most, 60, false⟩ (by unfold okRuns at hr; constructor <;> dsimp only <;> omega) (by dsimp only; omega) q hq
    dsimp only at he
    rw [hR'] at he
    simp only [tlP, PV.i, PV.b] at he
    refine he.mono ?_
    rintro _ ⟨p, hp, rfl⟩
    cases hf : R.2.2.1
    · simp
      refine vcRet_of [] ?_ (.none hr p hp (by rw [hR, hf]))
      simp
    · simp
      refine vcRet_of [] ?_ (.yes hr p hp (by rw [hR, hf]))
      simp [hR]
  · simp [if_neg hr]
    refine vcRet_of [] ?_ (.no hr)
    simp
end
end Go.Proofs.YtplooifpgmlofaaGreat
namespace Go.Proofs.YtplooifpgmlofaaGreat
open Go.RowKit

/-- A small number's text. -/
def digQ (n : Int) : ByteArray := if 0 ≤ n ∧ n ≤ 9 then strOfNums [48 + n] else digB n
theorem digQ_eq (n : Int) : digQ n = digB n := by
  unfold digQ
  split
  · rename_i h; rw [digB, digZ_small h.1 h.2]
  · rfl
def sumQ : Sys := { sumY with out := fun p => digQ (SS.at_ p).sum }
theorem sumQ_eq : sumQ = sumY := by
  unfold sumQ
  have : (fun p : List Int => digQ (SS.at_ p).sum) = fun p => digB (SS.at_ p).sum := funext fun p => digQ_eq _
  rw [this]; rfl
def n1 : ByteArray := ⟨#[49]⟩
def n2 : ByteArray := ⟨#[50]⟩
def n3 : ByteArray := ⟨#[51]⟩
set_option maxRecDepth 100000 in
theorem sum_all : found sumQ ⟨100, 60, false⟩ = (⟨6, 0, true, false⟩, [n3, n2, n1]) := by kernel_rfl
set_option maxRecDepth 100000 in
theorem sum_sleep : found sumQ ⟨100, 60, true⟩ = (⟨4, 0, true, false⟩, [n3, n2, n1]) := by kernel_rfl
set_option maxRecDepth 100000 in
theorem sum_find : (foundT sumQ (fun s => s.toList == n1.toList) ⟨100, 60, false⟩).2.2 = (true, [1, 2, 2, 1]) := by kernel_rfl
theorem sortB_id {l : List ByteArray} (h : (l.map fun s => s.data.toList).Pairwise fun x y => decide (x ≤ y) = true) : sortB l = l := by
  unfold sortB
  rw [List.mergeSort_of_pairwise h, List.map_map]
  have : ((fun b : List UInt8 => (⟨b.toArray⟩ : ByteArray)) ∘ fun s : ByteArray => s.data.toList) = id := by
    funext s
    rfl
  rw [this, List.map_id]
theorem sort321 : sortB [n3, n2, n1] = [n1, n2, n3] := by
  rw [sortB_perm (l' := [n1, n2, n3]) ((List.Perm.swap n2 n3 [n1]).trans ((List.Perm.cons n2 (List.Perm.swap n1 n3 [])).trans (List.Perm.swap n1 n2 [n3])))]
  refine sortB_id ?_
  decide
theorem sumR_all : foundR sumY ⟨100, 60, false⟩ = ⟨6, 0, [n1, n2, n3], true⟩ := by
  rw [← sumQ_eq]
  unfold foundR
  rw [sum_all]
  simp [sort321]
theorem sumR_sleep : foundR sumY ⟨100, 60, true⟩ = ⟨4, 0, [n1, n2, n3], true⟩ := by
  rw [← sumQ_eq]
  unfold foundR
  rw [sum_sleep]
  simp [sort321]

theorem strEq {a b : ByteArray} : (a.toList == b.toList) = decide (a = b) := by
  rw [Bool.eq_iff_iff]
  simp only [beq_iff_eq, decide_eq_true_eq]
  constructor
  · intro h
    apply ByteArray.ext
    have h1 : a.data.toList = b.data.toList := by
      rw [← ByteArray.toList_eq, ← ByteArray.toList_eq]; exact h
    exact Array.toList_inj.1 h1
  · rintro rfl; rfl
end Go.Proofs.YtplooifpgmlofaaGreat
