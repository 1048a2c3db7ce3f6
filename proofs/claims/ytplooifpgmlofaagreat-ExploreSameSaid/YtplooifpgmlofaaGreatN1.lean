/- Players of systems. No condition. -/
import Derived.Test.YtplooifpgmlofaaGreatTab
import Derived.Test.YtplooifpgmlofaaGreatV26
namespace Go.Proofs.YtplooifpgmlofaaGreat
open Go.RowKit

structure Acc where
  obj : Int
  wr : Bool
abbrev Fp := List Acc
@[simp] def Acc.ds (a : Acc) : List D := [.v (.int .i64 a.obj), .v (.bool a.wr)]
@[simp] def Acc.pv (a : Acc) : PV := .agg [.i a.obj, .b a.wr]
@[simp] def fpD (l : Fp) : D := .sl 2 (l.map Acc.ds)
def clash (x y : Acc) : Bool := x.obj == y.obj && (x.wr || y.wr)
def indy (a b : Fp) : Bool := !a.any fun x => b.any fun y => clash x y
structure Stp where
  task : Int
  uses : Fp
@[simp] def Stp.ds (s : Stp) : List D := [.v (.int .i64 s.task), fpD s.uses]
@[simp] def Stp.pv (s : Stp) : PV := .agg [.i s.task, .d (fpD s.uses)]
@[simp] def stD (l : List Stp) : D := .sl 2 (l.map Stp.ds)
@[simp] def intC (n : Int) : List D := [.v (.int .i64 n)]
@[simp] def intD (l : List Int) : D := .sl 1 (l.map intC)

theorem at_lt {α : Type} {xs : List α} {k : Nat} (h : k < xs.length) : ∃ x, xs[k]? = some x ∧ xs[k] = x := ⟨_, List.getElem?_eq_getElem h, rfl⟩
theorem wrap_succ {k n : Nat} (h : k < n) (hn : n < 4294967296) : IntKind.i64.wrap ((k : Int) + 1) = (k : Int) + 1 := IntWalk.i64_in _ (by omega)
theorem wrap_in {n : Int} (h : -4294967296 ≤ n ∧ n ≤ 4294967296) : IntKind.i64.wrap n = n := IntWalk.i64_in _ (by omega)
def noneTo {α : Type} (p : α → Bool) (xs : List α) (k : Nat) : Prop := ∀ i y, i < k → xs[i]? = some y → p y = false
theorem noneTo_zero {α : Type} (p : α → Bool) (xs : List α) : noneTo p xs 0 := fun _ _ h => absurd h (by omega)
theorem noneTo_succ {α : Type} {p : α → Bool} {xs : List α} {k : Nat} {x : α} (h : noneTo p xs k) (hx : xs[k]? = some x) (hp : p x = false) : noneTo p xs (k + 1) := fun i y hi hy => by
  by_cases hik : i = k
  · subst hik; rw [hx] at hy; cases hy; exact hp
  · exact h i y (by omega) hy
def idx {α : Type} (p : α → Bool) : List α → Int → Int
  | [], _ => -1
  | x :: xs, k => if p x then k else idx p xs (k + 1)
theorem lt_some {α : Type} {xs : List α} {k : Nat} {x : α} (h : xs[k]? = some x) : k < xs.length := (List.getElem?_eq_some_iff.1 h).1
theorem idx_skip {α : Type} (p : α → Bool) : ∀ (k : Nat) (xs : List α) (j : Int), (∀ i x, i < k → xs[i]? = some x → p x = false) → k ≤ xs.length → idx p xs j = idx p (xs.drop k) (j + k)
  | 0, xs, j, _, _ => by simp
  | k + 1, [], j, _, h => by simp at h
  | k + 1, x :: xs, j, h, hl => by
    have h0 := h 0 x (by omega) rfl
    rw [idx, h0]
    simp only [Bool.false_eq_true, if_false, List.drop_succ_cons]
    rw [idx_skip p k xs (j + 1) (fun i y hi hy => h (i + 1) y (by omega) (by simpa using hy)) (by simp at hl; omega)]
    congr 1; omega
theorem idx_hit {α : Type} (p : α → Bool) (xs : List α) (k : Nat) (x : α) (hk : xs[k]? = some x) (hp : p x = true) (h : ∀ i y, i < k → xs[i]? = some y → p y = false) : idx p xs 0 = k := by
  have hl := lt_some hk
  rw [idx_skip p k xs 0 h (by omega), List.drop_eq_getElem_cons hl, idx]
  have : xs[k] = x := by rw [List.getElem?_eq_getElem hl] at hk; exact Option.some.inj hk
  rw [this, hp]; simp
theorem idx_miss {α : Type} (p : α → Bool) (xs : List α) (h : ∀ i y, i < xs.length → xs[i]? = some y → p y = false) : idx p xs 0 = -1 := by
  rw [idx_skip p xs.length xs 0 h (Nat.le_refl _), List.drop_length, idx]
theorem idx_any {α : Type} (p : α → Bool) : ∀ (xs : List α) (k : Int), 0 ≤ k → decide (0 ≤ idx p xs k) = xs.any p
  | [], _, _ => by simp [idx]
  | x :: xs, k, hk => by
    unfold idx
    cases hp : p x
    · simp [hp, idx_any p xs (k + 1) (by omega)]
    · simp [hp, hk]


end Go.Proofs.YtplooifpgmlofaaGreat
namespace Go.Proofs.YtplooifpgmlofaaGreat
open Go.RowKit

set_option maxHeartbeats 400000 in
theorem indexA_1 (f : Nat) (v : D) (p : Acc → Bool) (xs : List Acc) (hl : xs.length < 4294967296) (hp : ∀ x ∈ xs, Meets Tryz.prog f (x.pv :: [.ptr 1000000 0]) [.box 91 [.d v]] (fun r => r = ⟨.b (p x), [.box 91 [.d v]], []⟩)) :
    Meets Tryz.prog 73 [.d (fpD xs), .clo f [.ptr 1000000 0]] [.box 91 [.d v]] (fun r => r = ⟨.i (idx p xs 0), [.box 91 [.d v]], []⟩) := by
  refine meets tbOk mixed Tryz.func73 pl73 rfl rfl ?_
  simp [Tryz.ntmps73]
  refine vc_loop (fun n σ => ∃ k : Nat, n = xs.length - k ∧ k ≤ xs.length ∧ noneTo p xs k ∧ σ = ⟨19, [(8, .i k), (7, .i xs.length), (0, .d (fpD xs)), (1, .clo f [.ptr 1000000 0])], extMem 1000000 [.box 91 [.d v]]⟩) ?_ ?_
  · exact ⟨_, _, ⟨0, rfl, Nat.zero_le _, noneTo_zero _ _, rfl⟩, [], _, rfl, by simp [extMem]⟩
  · rintro n σ ⟨k, rfl, hk, hn, rfl⟩
    by_cases hlt : k < xs.length
    · obtain ⟨x, hx, e⟩ := at_lt hlt
      simp [hlt, e, extMem]
      refine (hp x (List.mem_of_getElem? hx)).mono ?_
      rintro _ rfl
      simp [wrap_succ hlt hl]
      refine ⟨fun h => vcRet_of [] ?_ rfl, fun h => ⟨_, ?_, _, ⟨k + 1, rfl, hlt, noneTo_succ hn hx h, rfl⟩, [], _, rfl, by simp⟩⟩
      · simp [idx_hit p xs k x hx h hn]
      · omega
    · obtain rfl : k = xs.length := by omega
      simp [extMem]
      refine vcRet_of [] ?_ rfl
      simp [idx_miss p xs hn]
set_option maxHeartbeats 400000 in
theorem containsA_1 (f : Nat) (v : D) (p : Acc → Bool) (xs : List Acc) (hl : xs.length < 4294967296) (hp : ∀ x ∈ xs, Meets Tryz.prog f (x.pv :: [.ptr 1000000 0]) [.box 91 [.d v]] (fun r => r = ⟨.b (p x), [.box 91 [.d v]], []⟩)) :
    Meets Tryz.prog 59 [.d (fpD xs), .clo f [.ptr 1000000 0]] [.box 91 [.d v]] (fun r => r = ⟨.b (xs.any p), [.box 91 [.d v]], []⟩) := by
  refine meets tbOk mixed Tryz.func59 pl59 rfl rfl ?_
  simp [Tryz.ntmps59]
  refine (indexA_1 f v p xs hl hp).mono ?_
  rintro _ rfl
  simp
  refine vcRet_of [] ?_ rfl
  simp [← idx_any p xs 0 (by omega)]

set_option maxHeartbeats 400000 in
theorem indexA_2 (f : Nat) (v v2 : D) (p : Acc → Bool) (xs : List Acc) (hl : xs.length < 4294967296) (hp : ∀ x ∈ xs, Meets Tryz.prog f (x.pv :: [.ptr 1000000 0]) [.box 102 [.d v, .d v2]] (fun r => r = ⟨.b (p x), [.box 102 [.d v, .d v2]], []⟩)) :
    Meets Tryz.prog 73 [.d (fpD xs), .clo f [.ptr 1000000 0]] [.box 102 [.d v, .d v2]] (fun r => r = ⟨.i (idx p xs 0), [.box 102 [.d v, .d v2]], []⟩) := by
  refine meets tbOk mixed Tryz.func73 pl73 rfl rfl ?_
  simp [Tryz.ntmps73]
  refine vc_loop (fun n σ => ∃ k : Nat, n = xs.length - k ∧ k ≤ xs.length ∧ noneTo p xs k ∧ σ = ⟨19, [(8, .i k), (7, .i xs.length), (0, .d (fpD xs)), (1, .clo f [.ptr 1000000 0])], extMem 1000000 [.box 102 [.d v, .d v2]]⟩) ?_ ?_
  · exact ⟨_, _, ⟨0, rfl, Nat.zero_le _, noneTo_zero _ _, rfl⟩, [], _, rfl, by simp [extMem]⟩
  · rintro n σ ⟨k, rfl, hk, hn, rfl⟩
    by_cases hlt : k < xs.length
    · obtain ⟨x, hx, e⟩ := at_lt hlt
      simp [hlt, e, extMem]
      refine (hp x (List.mem_of_getElem? hx)).mono ?_
      rintro _ rfl
      simp [wrap_succ hlt hl]
      refine ⟨fun h => vcRet_of [] ?_ rfl, fun h => ⟨_, ?_, _, ⟨k + 1, rfl, hlt, noneTo_succ hn hx h, rfl⟩, [], _, rfl, by simp⟩⟩
      · simp [idx_hit p xs k x hx h hn]
      · omega
    · obtain rfl : k = xs.length := by omega
      simp [extMem]
      refine vcRet_of [] ?_ rfl
      simp [idx_miss p xs hn]
set_option maxHeartbeats 400000 in
theorem containsA_2 (f : Nat) (v v2 : D) (p : Acc → Bool) (xs : List Acc) (hl : xs.length < 4294967296) (hp : ∀ x ∈ xs, Meets Tryz.prog f (x.pv :: [.ptr 1000000 0]) [.box 102 [.d v, .d v2]] (fun r => r = ⟨.b (p x), [.box 102 [.d v, .d v2]], []⟩)) :
    Meets Tryz.prog 59 [.d (fpD xs), .clo f [.ptr 1000000 0]] [.box 102 [.d v, .d v2]] (fun r => r = ⟨.b (xs.any p), [.box 102 [.d v, .d v2]], []⟩) := by
  refine meets tbOk mixed Tryz.func59 pl59 rfl rfl ?_
  simp [Tryz.ntmps59]
  refine (indexA_2 f v v2 p xs hl hp).mono ?_
  rintro _ rfl
  simp
  refine vcRet_of [] ?_ rfl
  simp [← idx_any p xs 0 (by omega)]

theorem indep2_m (y x : Acc) : Meets Tryz.prog 61 [y.pv, .ptr 1000000 0] [.box 102 [.i x.obj, .b x.wr]] (fun r => r = ⟨.b (clash x y), [.box 102 [.i x.obj, .b x.wr]], []⟩) := by
  refine meets tbOk mixed Tryz.func61 pl61 rfl rfl ?_
  simp [Tryz.ntmps61]
  refine ⟨fun h => ⟨fun h2 => vcRet_of [] ?_ rfl, fun h2 => vcRet_of [] ?_ rfl⟩, fun h => vcRet_of [] ?_ rfl⟩
  · simp [clash, h, h2]
  · simp [clash, h, h2]
  · have : clash x y = false := by simp [clash, h]
    simp [this]
theorem indep1_m (x : Acc) (b : Fp) (hl : b.length < 4294967296) : Meets Tryz.prog 60 [x.pv, .ptr 1000000 0] [.box 91 [.d (fpD b)]] (fun r => r = ⟨.b (b.any fun y => clash x y), [.box 91 [.d (fpD b)]], []⟩) := by
  refine meets tbOk mixed Tryz.func60 pl60 rfl rfl ?_
  simp [Tryz.ntmps60]
  refine (containsA_2 61 _ _ (fun y => clash x y) b hl fun y _ => indep2_m y x).mono ?_
  rintro _ rfl
  simp
  refine vcRet_of [] ?_ rfl
  simp
theorem indep_m (a b : Fp) (ha : a.length < 4294967296) (hb : b.length < 4294967296) : Meets Tryz.prog 36 [.d (fpD a), .d (fpD b)] [] (Ret (.b (indy a b))) := by
  refine meets tbOk mixed Tryz.func36 pl36 rfl rfl ?_
  simp [Tryz.ntmps36]
  refine (containsA_1 60 _ (fun x => b.any fun y => clash x y) a ha fun x _ => indep1_m x b hb).mono ?_
  rintro _ rfl
  simp
  refine vcRet_of [] ?_ rfl
  simp [indy]
end Go.Proofs.YtplooifpgmlofaaGreat
namespace Go.Proofs.YtplooifpgmlofaaGreat
open Go.RowKit

theorem indexI_m (xs : List Int) (v : Int) (hl : xs.length < 4294967296) : Meets Tryz.prog 57 [.d (intD xs), .i v] [] (Ret (.i (idx (fun x => v == x) xs 0))) := by
  refine meets tbOk mixed Tryz.func57 pl57 rfl rfl ?_
  simp [Tryz.ntmps57]
  refine vc_loop (fun n σ => ∃ k : Nat, n = xs.length - k ∧ k ≤ xs.length ∧ noneTo (fun x => v == x) xs k ∧ σ = ⟨19, [(8, .i k), (7, .i xs.length), (0, .d (intD xs)), (1, .i v)], []⟩) ?_ ?_
  · exact ⟨_, _, ⟨0, rfl, Nat.zero_le _, noneTo_zero _ _, rfl⟩, [], _, rfl, by simp⟩
  · rintro n σ ⟨k, rfl, hk, hn, rfl⟩
    by_cases hlt : k < xs.length
    · obtain ⟨x, hx, e⟩ := at_lt hlt
      simp [hlt, e, wrap_succ hlt hl]
      refine ⟨fun h => vcRet_of [] ?_ rfl, fun h => ⟨_, ?_, _, ⟨k + 1, rfl, hlt, noneTo_succ hn hx (by simpa using h), rfl⟩, [], _, rfl, by simp⟩⟩
      · simp [idx_hit (fun x => v == x) xs k x hx (by simp [h]) hn]
      · omega
    · obtain rfl : k = xs.length := by omega
      simp
      refine vcRet_of [] ?_ rfl
      simp [idx_miss (fun x => v == x) xs hn]
theorem any_eq {xs : List Int} {v : Int} : (xs.any fun x => v == x) = decide (v ∈ xs) := by
  rw [Bool.eq_iff_iff]; simp
theorem containsI_m (xs : List Int) (v : Int) (hl : xs.length < 4294967296) : Meets Tryz.prog 32 [.d (intD xs), .i v] [] (Ret (.b (decide (v ∈ xs)))) := by
  refine meets tbOk mixed Tryz.func32 pl32 rfl rfl ?_
  simp [Tryz.ntmps32]
  refine (indexI_m xs v hl).mono ?_
  rintro _ rfl
  simp
  refine vcRet_of [] ?_ rfl
  simp [← any_eq, ← idx_any (fun x => v == x) xs 0 (by omega)]
theorem cloneI_m (xs : List Int) (hl : xs.length < 4294967296) : Meets Tryz.prog 39 [.d (intD xs)] [] (Ret (.d (intD xs))) := by
  refine meets tbOk mixed Tryz.func39 pl39 rfl rfl ?_
  simp [Tryz.ntmps39]
  refine ⟨⟨hl, vcRet_of [] ?_ rfl⟩, fun h => ?_⟩
  · simp
    rw [List.take_of_length_le (by simp)]
  · subst h
    refine vcRet_of [] ?_ rfl
    simp
theorem cloneR_m (xs : List (List D)) (n : Nat) (h : n ≤ xs.length) (hl : n < 4294967296) : Meets Tryz.prog 39 [.rw 1000000 n] [.row 3 1 xs false] (fun r => r = ⟨.d (.sl 1 (xs.take n)), [.row 3 1 xs false], []⟩) := by
  refine meets tbOk mixed Tryz.func39 pl39 rfl rfl ?_
  simp [Tryz.ntmps39]
  refine ⟨⟨h, by omega, vcRet_of [] ?_ rfl⟩, fun h => ?_⟩
  · simp
    rw [Nat.min_eq_left h, List.take_of_length_le (by rw [List.length_take]; omega)]
  · subst h
    refine vcRet_of [] ?_ rfl
    simp
theorem cloneA_m (xs : Fp) (hl : xs.length < 4294967296) : Meets Tryz.prog 33 [.d (fpD xs)] [] (Ret (.d (fpD xs))) := by
  refine meets tbOk mixed Tryz.func33 pl33 rfl rfl ?_
  simp [Tryz.ntmps33]
  refine ⟨⟨hl, vcRet_of [] ?_ rfl⟩, fun h => ?_⟩
  · simp
    rw [List.take_of_length_le (by simp)]
  · subst h
    refine vcRet_of [] ?_ rfl
    simp
theorem clip_m (xs : List Stp) : Meets Tryz.prog 49 [.d (stD xs)] [] (Ret (.fd 2 (xs.map Stp.ds))) := by
  refine meets tbOk mixed Tryz.func49 pl49 rfl rfl ?_
  simp [Tryz.ntmps49]
  refine vcRet_of [] ?_ rfl
  simp
  rw [List.take_of_length_le (by simp)]
end Go.Proofs.YtplooifpgmlofaaGreat
namespace Go.Proofs.YtplooifpgmlofaaGreat
open Go.RowKit

structure Sys where
  en : List Int → List Int
  foot : List Int → Int → Fp
  done : List Int → Bool
  out : List Int → ByteArray
def legal (Y : Sys) (p : List Int) : Prop := p.length ≤ 60 ∧ ∀ i t, p[i]? = some t → t ∈ Y.en (p.take i)
theorem legal_nil (Y : Sys) : legal Y [] := ⟨by simp, fun i t h => by simp at h⟩
theorem legal_snoc {Y : Sys} {p : List Int} {t : Int} (h : legal Y p) (ht : t ∈ Y.en p) (hl : p.length < 60) : legal Y (p ++ [t]) := by
  refine ⟨by simp; omega, fun i u hu => ?_⟩
  by_cases hi : i < p.length
  · rw [List.getElem?_append_left hi] at hu
    rw [List.take_append_of_le_length (by omega)]
    exact h.2 i u hu
  · have hi2 : i = p.length := by
      have := (List.getElem?_eq_some_iff.1 hu).1
      simp at this; omega
    subst hi2
    simp at hu
    subst hu
    rw [List.take_left']
    · exact ht
    · rfl
theorem legal_take {Y : Sys} {p : List Int} (h : legal Y p) (k : Nat) : legal Y (p.take k) := by
  refine ⟨by rw [List.length_take]; have := h.1; omega, fun i t hi => ?_⟩
  rw [List.getElem?_take] at hi
  split at hi
  · rename_i hik
    rw [List.take_take, Nat.min_eq_left (by omega)]
    exact h.2 i t hi
  · cases hi
theorem legal_at {Y : Sys} {p : List Int} (h : legal Y p) {k : Nat} {t : Int} (hk : p[k]? = some t) : t ∈ Y.en (p.take k) := h.2 k t hk

structure Fair (Y : Sys) : Prop where
  pos : ∀ p t, t ∈ Y.en p → 0 < t ∧ t < 1000
  few : ∀ p, (Y.en p).length < 1000
  uses : ∀ p t, (Y.foot p t).length < 1000

abbrev unitV : PV := .tup []
structure Plr (Y : Sys) where
  t : Nat
  fS : Nat
  fE : Nat
  fT : Nat
  fF : Nat
  fD : Nat
  fO : Nat
  nS : methOf tb t "Start" = some fS
  nE : methOf tb t "Enabled" = some fE
  nT : methOf tb t "Step" = some fT
  nF : methOf tb t "Footprint" = some fF
  nD : methOf tb t "Done" = some fD
  nO : methOf tb t "Outcome" = some fO
  at_ : Option (List Int) → Hid
  mS : ∀ q, (∀ p, q = some p → legal Y p) → Meets Tryz.prog fS [.ptr 1000000 0] [.sys (at_ q)] (fun r => r = ⟨unitV, [.sys (at_ (some []))], []⟩)
  mE : ∀ p, legal Y p → Meets Tryz.prog fE [.ptr 1000000 0] [.sys (at_ (some p))] (fun r => r = ⟨.d (intD (Y.en p)), [.sys (at_ (some p))], []⟩)
  mT : ∀ p t, legal Y p → t ∈ Y.en p → p.length < 60 → Meets Tryz.prog fT [.ptr 1000000 0, .i t] [.sys (at_ (some p))] (fun r => r = ⟨unitV, [.sys (at_ (some (p ++ [t])))], []⟩)
  mF : ∀ p t, legal Y p → t ∈ Y.en p → Meets Tryz.prog fF [.ptr 1000000 0, .i t] [.sys (at_ (some p))] (fun r => r = ⟨.d (fpD (Y.foot p t)), [.sys (at_ (some p))], []⟩)
  mD : ∀ p, legal Y p → Meets Tryz.prog fD [.ptr 1000000 0] [.sys (at_ (some p))] (fun r => r = ⟨.b (Y.done p), [.sys (at_ (some p))], []⟩)
  mO : ∀ p, legal Y p → Meets Tryz.prog fO [.ptr 1000000 0] [.sys (at_ (some p))] (fun r => r = ⟨.d (.v (.string (Y.out p))), [.sys (at_ (some p))], []⟩)

structure Cf where
  most : Int
  switches : Int
  sleeps : Bool
structure Ct where
  runs : Int
  stuck : Int
  full : Bool
  enough : Bool
@[simp] def walkO (f : Cf) (c : Ct) (tell : PV) (t sys : Nat) (picks map : PV) : MObj :=
  .box 120 [.i f.most, .i f.switches, .b f.sleeps, tell, .ifc t sys, picks, .i c.runs, .i c.stuck, .d (.v (.slice none 0 0)), .b c.full, map, .b c.enough]
@[simp] def planO (f : Cf) (tell : PV) : MObj := .box 88 [.i f.most, .i f.switches, .b f.sleeps, tell]
@[simp] def rowO (xs : List Int) : MObj := .row 3 1 (xs.map intC) false

theorem reach_m {Y : Sys} (A : Plr Y) (f : Cf) (c : Ct) (mp : List (Value × Value)) (q : Option (List Int)) (hq : ∀ p, q = some p → legal Y p) (p : List Int) (hp : legal Y p) :
    Meets Tryz.prog 48 [.ptr 1000000 0] [walkO f c (.d (.v .nilFunc)) A.t 1000001 (.rw 1000002 p.length) (.mp 1000003), .sys (A.at_ q), rowO p, .map mp]
      (fun r => r = ⟨unitV, [walkO f c (.d (.v .nilFunc)) A.t 1000001 (.rw 1000002 p.length) (.mp 1000003), .sys (A.at_ (some p)), rowO p, .map mp], []⟩) := by
  refine meets tbOk mixed Tryz.func48 pl48 rfl rfl ?_
  simp [Tryz.ntmps48, A.nS]
  refine (A.mS q hq).mono ?_
  rintro _ rfl
  simp
  have h60 := hp.1
  refine vc_loop (fun n σ => ∃ k : Nat, n = p.length - k ∧ k ≤ p.length ∧ σ = ⟨25, [(14, .i k), (13, .i p.length), (12, .rw 1000002 p.length), (0, .ptr 1000000 0)], extMem 1000000 [walkO f c (.d (.v .nilFunc)) A.t 1000001 (.rw 1000002 p.length) (.mp 1000003), .sys (A.at_ (some (p.take k))), rowO p, .map mp]⟩) ?_ ?_
  · exact ⟨_, _, ⟨0, rfl, Nat.zero_le _, rfl⟩, [], _, rfl, by simp [extMem]⟩
  · rintro n σ ⟨k, rfl, hk, rfl⟩
    by_cases hlt : k < p.length
    · obtain ⟨x, hx, e⟩ := at_lt hlt
      have htk : p.take (k + 1) = p.take k ++ [x] := by rw [List.take_add_one, hx]; rfl
      simp [hlt, e, extMem, A.nT]
      refine (A.mT (p.take k) x (legal_take hp k) (legal_at hp hx) (by rw [List.length_take]; omega)).mono ?_
      rintro _ rfl
      simp [wrap_succ hlt (show p.length < 4294967296 by omega)]
      exact ⟨_, by omega, _, ⟨k + 1, rfl, hlt, rfl⟩, [], _, rfl, by simp [htk]⟩
    · obtain rfl : k = p.length := by omega
      simp [extMem]
      refine vcRet_of [] ?_ rfl
      simp
def lastOf (p : List Int) (en : List Int) : Int := match p.getLast? with
  | some t => if t ∈ en then t else 0
  | none => 0
theorem last_m {Y : Sys} (A : Plr Y) (f : Cf) (c : Ct) (mp : List (Value × Value)) (H : Hid) (p : List Int) (h60 : p.length ≤ 60) (en : List Int) (hen : en.length < 1000) :
    Meets Tryz.prog 46 [.ptr 1000000 0, .d (intD en)] [walkO f c (.d (.v .nilFunc)) A.t 1000001 (.rw 1000002 p.length) (.mp 1000003), .sys H, rowO p, .map mp]
      (fun r => r = ⟨.i (lastOf p en), [walkO f c (.d (.v .nilFunc)) A.t 1000001 (.rw 1000002 p.length) (.mp 1000003), .sys H, rowO p, .map mp], []⟩) := by
  refine meets tbOk mixed Tryz.func46 pl46 rfl rfl ?_
  by_cases h0 : p = []
  · subst h0
    simp [Tryz.ntmps46]
    refine vcRet_of [] ?_ rfl
    simp [lastOf]
  · obtain ⟨p', t, rfl⟩ : ∃ p' t, p = p' ++ [t] := ⟨p.dropLast, p.getLast h0, (List.dropLast_concat_getLast h0).symm⟩
    simp at h60
    have hw : IntKind.i64.wrap (p'.length : Int) = p'.length := wrap_in (by omega)
    simp [Tryz.ntmps46, hw]
    refine ⟨by omega, (containsI_m en t (by omega)).mono ?_⟩
    rintro _ rfl
    by_cases ht : t ∈ en
    · simp [ht, hw]
      refine ⟨by omega, vcRet_of [] ?_ rfl⟩
      simp [lastOf, ht]
    · simp [ht]
      refine vcRet_of [] ?_ rfl
      simp [lastOf, ht]
end Go.Proofs.YtplooifpgmlofaaGreat
namespace Go.Proofs.YtplooifpgmlofaaGreat
open Go.RowKit

instance decBA : DecidableEq ByteArray := fun a b => match decEq a.data b.data with
  | isTrue h => isTrue (by cases a; cases b; cases h; rfl)
  | isFalse h => isFalse fun e => h (by rw [e])
theorem beqBA {a b : ByteArray} : (a == b) = decide (a = b) := by
  obtain ⟨a⟩ := a; obtain ⟨b⟩ := b
  have e : ((⟨a⟩ : ByteArray) == ⟨b⟩) = (a == b) := rfl
  rw [e, Bool.eq_iff_iff]
  simp
instance lawBA : LawfulBEq ByteArray where
  eq_of_beq := fun {a b} h => by rw [beqBA] at h; exact of_decide_eq_true h
  rfl := fun {a} => by rw [beqBA]; exact decide_eq_true rfl
def mapZ (l : List ByteArray) : List (Value × Value) := l.map fun s => (.string s, .bool true)
def putZ (s : ByteArray) (l : List ByteArray) : List ByteArray := if s ∈ l then l else l ++ [s]
theorem mPut_Z (s : ByteArray) : ∀ l : List ByteArray, mPut .string (.string s) (.bool true) (mapZ l) = some (mapZ (putZ s l))
  | [] => rfl
  | x :: l => by
    show (match Instr.sameNow .string (.string s) (.string x) with
      | some true => some ((Value.string s, Value.bool true) :: mapZ l)
      | some false => (mPut .string (.string s) (.bool true) (mapZ l)).map ((Value.string x, Value.bool true) :: ·)
      | none => none) = _
    have h0 : Instr.sameNow .string (.string s) (.string x) = some (s == x) := rfl
    rw [h0, mPut_Z s l]
    by_cases h : s = x
    · subst h
      have : (s == s) = true := by rw [beqBA]; simp
      rw [this]
      simp [putZ, mapZ]
    · have : (s == x) = false := by rw [beqBA]; simp [h]
      rw [this]
      have hp : putZ s (x :: l) = x :: putZ s l := by
        unfold putZ
        by_cases h2 : s ∈ l
        · rw [if_pos h2, if_pos (List.mem_cons_of_mem _ h2)]
        · rw [if_neg h2, if_neg (by simp [h, h2])]; rfl
      rw [hp]
      rfl
structure Ct.Ok (f : Cf) (c : Ct) : Prop where
  most : f.most ≤ 100000
  runs0 : 0 ≤ c.runs
  runs : c.runs ≤ f.most
  stuck0 : 0 ≤ c.stuck
  stuck : c.stuck ≤ c.runs
def leafN (Y : Sys) (f : Cf) (p : List Int) (cut : Bool) (c : Ct) (l : List ByteArray) : Ct × List ByteArray :=
  if c.runs = f.most then ({ c with full := false, enough := true }, l)
  else if cut then ({ c with runs := c.runs + 1, full := false }, l)
  else ({ c with runs := c.runs + 1, stuck := if Y.done p then c.stuck else c.stuck + 1, enough := false }, putZ (Y.out p) l)
theorem leafN_ok {Y : Sys} {p : List Int} {cut : Bool} {f : Cf} {c : Ct} {l : List ByteArray} (h : Ct.Ok f c) : Ct.Ok f (leafN Y f p cut c l).1 := by
  obtain ⟨h1, h2, h3, h4, h5⟩ := h
  unfold leafN
  split
  · exact ⟨h1, h2, h3, h4, h5⟩
  · split
    · exact ⟨h1, by show 0 ≤ c.runs + 1; omega, by show c.runs + 1 ≤ f.most; omega, h4, by show c.stuck ≤ c.runs + 1; omega⟩
    · refine ⟨h1, by show 0 ≤ c.runs + 1; omega, by show c.runs + 1 ≤ f.most; omega, ?_, ?_⟩
      · show 0 ≤ if Y.done p then c.stuck else c.stuck + 1
        split <;> omega
      · show (if Y.done p then c.stuck else c.stuck + 1) ≤ c.runs + 1
        split <;> omega

theorem leaf_m {Y : Sys} (A : Plr Y) (f : Cf) (c : Ct) (hc : Ct.Ok f c) (l : List ByteArray) (p : List Int) (hp : legal Y p) (cut : Bool) :
    Meets Tryz.prog 45 [.ptr 1000000 0, .b cut] [walkO f c (.d (.v .nilFunc)) A.t 1000001 (.rw 1000002 p.length) (.mp 1000003), .sys (A.at_ (some p)), rowO p, .map (mapZ l)]
      (fun r => r = ⟨unitV, [walkO f (leafN Y f p cut c l).1 (.d (.v .nilFunc)) A.t 1000001 (.rw 1000002 p.length) (.mp 1000003), .sys (A.at_ (some p)), rowO p, .map (mapZ (leafN Y f p cut c l).2)], []⟩) := by
  refine meetsH [] tbOk mixed Tryz.func45 pl45 rfl rfl ?_
  obtain ⟨h1, h2, h3, h4, h5⟩ := hc
  have hw1 : IntKind.i64.wrap (c.runs + 1) = c.runs + 1 := wrap_in (by omega)
  have hw2 : IntKind.i64.wrap (c.stuck + 1) = c.stuck + 1 := wrap_in (by omega)
  have hm := mPut_Z (Y.out p) l
  by_cases hr : c.runs = f.most
  · simp [Tryz.ntmps45, hr]
    refine ⟨by kernel_rfl, vcRet_of [] ?_ rfl⟩
    simp [leafN, hr]
  cases cut
  · simp [Tryz.ntmps45, hr, hw1, A.nD]
    refine ⟨by kernel_rfl, (A.mD p hp).mono ?_⟩
    rintro _ rfl
    cases hd : Y.done p
    · simp [hw2, A.nO]
      refine (A.mO p hp).mono ?_
      rintro _ rfl
      set_option maxRecDepth 4000 in simp [hm]
      refine ⟨by kernel_rfl, vcRet_of [] ?_ rfl⟩
      simp [leafN, hr, hd]
    · simp [A.nO]
      refine (A.mO p hp).mono ?_
      rintro _ rfl
      set_option maxRecDepth 4000 in simp [hm]
      refine ⟨by kernel_rfl, vcRet_of [] ?_ rfl⟩
      simp [leafN, hr, hd]
  · simp [Tryz.ntmps45, hr, hw1]
    refine ⟨by kernel_rfl, vcRet_of [] ?_ rfl⟩
    simp [leafN, hr]
end Go.Proofs.YtplooifpgmlofaaGreat
namespace Go.Proofs.YtplooifpgmlofaaGreat
open Go.RowKit

theorem slept_m (f : Cf) (s : Stp) (t : Int) : Meets Tryz.prog 47 [s.pv, .ptr 1000000 0, .ptr 1000001 0] [planO f (.d (.v .nilFunc)), .box 3 [.i t]] (fun r => r = ⟨.b (f.sleeps && s.task == t), [planO f (.d (.v .nilFunc)), .box 3 [.i t]], []⟩) := by
  refine meets tbOk mixed Tryz.func47 pl47 rfl rfl ?_
  simp [Tryz.ntmps47]
  refine ⟨fun h => vcRet_of [] ?_ rfl, fun h => vcRet_of [] ?_ rfl⟩
  · simp [h]
    rfl
  · simp [h]
set_option maxHeartbeats 400000 in
theorem indexS_m (f : Cf) (t : Int) (xs : List Stp) (hl : xs.length < 4294967296) :
    Meets Tryz.prog 58 [.d (stD xs), .clo 47 [.ptr 1000000 0, .ptr 1000001 0]] [planO f (.d (.v .nilFunc)), .box 3 [.i t]] (fun r => r = ⟨.i (idx (fun s => f.sleeps && s.task == t) xs 0), [planO f (.d (.v .nilFunc)), .box 3 [.i t]], []⟩) := by
  refine meets tbOk mixed Tryz.func58 pl58 rfl rfl ?_
  simp [Tryz.ntmps58]
  refine vc_loop (fun n σ => ∃ k : Nat, n = xs.length - k ∧ k ≤ xs.length ∧ noneTo (fun s => f.sleeps && s.task == t) xs k ∧ σ = ⟨19, [(8, .i k), (7, .i xs.length), (0, .d (stD xs)), (1, .clo 47 [.ptr 1000000 0, .ptr 1000001 0])], extMem 1000000 [planO f (.d (.v .nilFunc)), .box 3 [.i t]]⟩) ?_ ?_
  · exact ⟨_, _, ⟨0, rfl, Nat.zero_le _, noneTo_zero _ _, rfl⟩, [], _, rfl, by simp [extMem]⟩
  · rintro n σ ⟨k, rfl, hk, hn, rfl⟩
    by_cases hlt : k < xs.length
    · obtain ⟨x, hx, e⟩ := at_lt hlt
      simp [hlt, e, extMem]
      refine (slept_m f x t).mono ?_
      rintro _ rfl
      cases h : (f.sleeps && x.task == t)
      · simp [wrap_succ hlt hl]
        exact ⟨_, by omega, _, ⟨k + 1, rfl, hlt, noneTo_succ hn hx h, rfl⟩, [], _, rfl, by simp⟩
      · simp
        refine vcRet_of [] ?_ rfl
        simp [idx_hit _ xs k x hx h hn]
    · obtain rfl : k = xs.length := by omega
      simp [extMem]
      refine vcRet_of [] ?_ rfl
      simp [idx_miss _ xs hn]
theorem containsS_m (f : Cf) (t : Int) (xs : List Stp) (hl : xs.length < 4294967296) :
    Meets Tryz.prog 34 [.d (stD xs), .clo 47 [.ptr 1000000 0, .ptr 1000001 0]] [planO f (.d (.v .nilFunc)), .box 3 [.i t]] (fun r => r = ⟨.b (xs.any fun s => f.sleeps && s.task == t), [planO f (.d (.v .nilFunc)), .box 3 [.i t]], []⟩) := by
  refine meets tbOk mixed Tryz.func34 pl34 rfl rfl ?_
  simp [Tryz.ntmps34]
  refine (indexS_m f t xs hl).mono ?_
  rintro _ rfl
  simp
  refine vcRet_of [] ?_ rfl
  simp [← idx_any (fun s => f.sleeps && s.task == t) xs 0 (by omega)]

abbrev FdB (β : Type) := Ct × β
abbrev Fd := FdB (List ByteArray)
def loopX {β : Type} (rec : List Int → List Stp → Int → FdB β → FdB β) (Y : Sys) (f : Cf) (p : List Int) (last left : Int) : List Int → List Stp → FdB β → FdB β
  | [], _, s => s
  | t :: ts, sl, s =>
    if sl.any (fun q => f.sleeps && q.task == t) then loopX rec Y f p last left ts sl s
    else if (if 0 < last ∧ last ≠ t then left - 1 else left) < 0 then loopX rec Y f p last left ts sl ({ s.1 with full := false }, s.2)
    else if (rec (p ++ [t]) (sl.filter fun q => indy q.uses (Y.foot p t)) (if 0 < last ∧ last ≠ t then left - 1 else left) s).1.enough = true then rec (p ++ [t]) (sl.filter fun q => indy q.uses (Y.foot p t)) (if 0 < last ∧ last ≠ t then left - 1 else left) s
    else loopX rec Y f p last left ts (sl ++ [⟨t, Y.foot p t⟩]) (rec (p ++ [t]) (sl.filter fun q => indy q.uses (Y.foot p t)) (if 0 < last ∧ last ≠ t then left - 1 else left) s)
def goX {β : Type} (lf : List Int → Bool → FdB β → FdB β) (Y : Sys) (f : Cf) : Nat → List Int → List Stp → Int → FdB β → FdB β
  | 0, p, _, _, s => lf p (decide (0 < (Y.en p).length)) s
  | n + 1, p, sl, left, s => if Y.en p = [] then lf p false s else loopX (goX lf Y f n) Y f p (lastOf p (Y.en p)) left (Y.en p) sl s
abbrev lfN (Y : Sys) (f : Cf) (p : List Int) (cut : Bool) (s : Fd) : Fd := leafN Y f p cut s.1 s.2

@[simp] def extN {Y : Sys} (A : Plr Y) (f : Cf) (s : Fd) (q : List Int) (row : MObj) (n : Nat) : List MObj :=
  [row, .map (mapZ s.2), .sys (A.at_ (some q)), walkO f s.1 (.d (.v .nilFunc)) A.t 1000002 (.rw 1000000 n) (.mp 1000001), .box 83 [.ifc A.t 1000002], .box 117 [.ptr 1000003 0], planO f (.d (.v .nilFunc)), .box 121 [.clo 44 [.ptr 1000004 0, .ptr 1000005 0, .ptr 1000006 0, .ptr 1000007 0]]]
def slOk (sl : List Stp) : Prop := ∀ s ∈ sl, s.uses.length < 1000
end Go.Proofs.YtplooifpgmlofaaGreat
