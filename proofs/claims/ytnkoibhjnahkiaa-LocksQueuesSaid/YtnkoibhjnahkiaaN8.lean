/- Locks: contracts (N8). No condition. -/
import Derived.Test.YtnkoibhjnahkiaaN1
import Derived.Test.YtnkoibhjnahkiaaN3
import Derived.Test.YtnkoibhjnahkiaaN6
import Derived.Test.YtnkoibhjnahkiaaN7
namespace Go.Proofs.Ytnkoibhjnahkiaa
open Go.RowKit
set_option maxRecDepth 100000

/-- Whom blockers yields. -/
def blks (s : Sy) (w : Wt) : List Int :=
  if w.kind = 1 ∧ 1 ≤ w.obj ∧ w.obj ≤ 200 then [w.obj]
  else if w.kind = 3 ∧ 0 ≤ w.obj ∧ w.obj < s.locks.length ∧ (w.til = 0 ∨ w.til = 1) then
    (if 0 < (s.locks.getD w.obj.toNat default).hold then [(s.locks.getD w.obj.toNat default).hold] else []) ++ (if w.til = 1 then [] else (s.locks.getD w.obj.toNat default).rd)
  else []
def blkV (s : Sy) (w : Wt) : List (List PV) := (blks s w).map fun n => [.i n]
theorem blkV_mem {s : Sy} {w : Wt} {x : List PV} (h : x ∈ blkV s w) : x.length = 1 ∧ ∀ p ∈ x, p.keys = [] := by
  obtain ⟨i, _, rfl⟩ := List.mem_map.1 h
  simp
theorem blkV_at {s : Sy} {w : Wt} {k : Nat} {n : Int} (h : (blks s w)[k]? = some n) : (blkV s w)[k]? = some [.i n] := by
  unfold blkV; rw [List.getElem?_map, h]; rfl
theorem blkV_len (s : Sy) (w : Wt) : (blkV s w).length = (blks s w).length := by simp [blkV]
@[simp] def Wt.box (w : Wt) : MObj := .box 63 [.i w.kind, .i w.obj, .i w.til]
set_option maxHeartbeats 2000000 in
theorem blockers_it (s : Sy) (hf : Fits s) (w : Wt) : Iters Try.prog 74 [.ptr 1000000 0, .ptr 1000001 0] [w.box, .box 90 [.ptr 1000002 0], s.box] (blkV s w) := by
  refine iters_of tbOk Try.func74 rfl pl74 rfl rfl (fun x hx => (blkV_mem hx).2) fun l => ?_
  obtain ⟨f1, f2, f3, f4, f5⟩ := hf
  have hV : ∀ L, blks s w = L → blkV s w = L.map fun n => [.i n] := fun L h => by rw [← h]; rfl
  by_cases h1 : w.kind = 1 ∧ 1 ≤ w.obj ∧ w.obj ≤ 200
  · rw [hV [w.obj] (by simp [blks, h1])]
    simp [Try.ntmps74, h1.1, h1.2.1, h1.2.2]
  by_cases h3 : w.kind = 3
  case neg =>
    rw [hV [] (by simp [blks, h1, h3])]
    have h1' : ¬ (w.kind = 1) ∨ w.kind = 1 ∧ ¬ 1 ≤ w.obj ∨ w.kind = 1 ∧ 1 ≤ w.obj ∧ ¬ w.obj ≤ 200 := by omega
    rcases h1' with h | ⟨h, g⟩ | ⟨h, g, g'⟩
    · simp [Try.ntmps74, h, h3, mixed]
      show _ = _
      kernel_rfl
    · simp [Try.ntmps74, h, g, mixed]
      show _ = _
      kernel_rfl
    · simp [Try.ntmps74, h, g, g', mixed]
      show _ = _
      kernel_rfl
  by_cases o1 : 0 ≤ w.obj
  case neg =>
    rw [hV [] (by simp [blks, h3, o1])]
    simp [Try.ntmps74, h3, o1, mixed]
    show _ = _
    kernel_rfl
  by_cases o2 : w.obj < s.locks.length
  case neg =>
    rw [hV [] (by simp [blks, h3, o2])]
    simp [Try.ntmps74, h3, o1, o2, mixed]
    show _ = _
    kernel_rfl
  by_cases t0 : w.til = 0
  · have hlt : w.obj.toNat < s.locks.length := by omega
    obtain ⟨x, hx, e⟩ := at_lt hlt
    have hxl := f4 x (List.mem_of_getElem? hx)
    by_cases hh : 0 < x.hold
    · rw [hV (x.hold :: x.rd) (by simp [blks, h3, o1, o2, t0, hlt, e, hh])]
      simp [Try.ntmps74, h3, o1, o2, t0, hlt, e, hh, mixed]
      refine ⟨by kernel_rfl, by kernel_rfl, ?_⟩
      refine vcY_loop (fun n i σ => ∃ k : Nat, n = x.rd.length - k ∧ k ≤ x.rd.length ∧ i = some (k + 1) ∧ σ = ⟨94, [(85, .i k), (84, .i x.rd.length), (83, .d (il x.rd)), (0, .d (.v (.func (.yield l) #[] #[])))], [(1000000, w.box), (1000001, .box 90 [.ptr 1000002 0]), (1000002, s.box)]⟩) ?_ ?_
      · exact ⟨_, _, ⟨0, rfl, Nat.zero_le _, rfl, rfl⟩, by simp [h3, t0]⟩
      rintro n i σ ⟨k, rfl, hk, rfl, rfl⟩
      by_cases hkl : k < x.rd.length
      · obtain ⟨y, hy, ey⟩ := at_lt hkl
        simp [hkl, ey, wrap_succ hkl hxl]
        exact ⟨_, by omega, _, ⟨k + 1, rfl, hkl, rfl, rfl⟩, by simp⟩
      · obtain rfl : k = x.rd.length := by omega
        simp
    · rw [hV x.rd (by simp [blks, h3, o1, o2, t0, hlt, e, hh])]
      simp [Try.ntmps74, h3, o1, o2, t0, hlt, e, hh, mixed]
      refine ⟨by kernel_rfl, by kernel_rfl, ?_⟩
      refine vcY_loop (fun n i σ => ∃ k : Nat, n = x.rd.length - k ∧ k ≤ x.rd.length ∧ i = some k ∧ σ = ⟨94, [(85, .i k), (84, .i x.rd.length), (83, .d (il x.rd)), (0, .d (.v (.func (.yield l) #[] #[])))], [(1000000, w.box), (1000001, .box 90 [.ptr 1000002 0]), (1000002, s.box)]⟩) ?_ ?_
      · exact ⟨_, _, ⟨0, rfl, Nat.zero_le _, rfl, rfl⟩, by simp [h3, t0]⟩
      rintro n i σ ⟨k, rfl, hk, rfl, rfl⟩
      by_cases hkl : k < x.rd.length
      · obtain ⟨y, hy, ey⟩ := at_lt hkl
        simp [hkl, ey, wrap_succ hkl hxl]
        exact ⟨_, by omega, _, ⟨k + 1, rfl, hkl, rfl, rfl⟩, by simp⟩
      · obtain rfl : k = x.rd.length := by omega
        simp
  by_cases t1 : w.til = 1
  case neg =>
    rw [hV [] (by simp [blks, h3, t0, t1])]
    simp [Try.ntmps74, h3, o1, o2, t0, t1, mixed]
    show _ = _
    kernel_rfl
  have hlt : w.obj.toNat < s.locks.length := by omega
  obtain ⟨x, hx, e⟩ := at_lt hlt
  by_cases hh : 0 < x.hold
  · rw [hV [x.hold] (by simp [blks, h3, o1, o2, t1, hlt, e, hh])]
    simp [Try.ntmps74, h3, o1, o2, t1, hlt, e, hh, mixed]
    refine ⟨?_, ?_⟩ <;> (show _ = _; kernel_rfl)
  · rw [hV [] (by simp [blks, h3, o1, o2, t1, hlt, e, hh])]
    simp [Try.ntmps74, h3, o1, o2, t1, hlt, e, hh, mixed]
    refine ⟨?_, ?_⟩ <;> (show _ = _; kernel_rfl)
theorem blockers_m (s : Sy) (w : Wt) : Meets Try.prog 37 [.ptr 1000000 0, w.pv] [s.box] (fun r => r = ⟨.clo 74 [.ptr 2000000 0, .ptr 2000001 0], [s.box], [w.box, .box 90 [.ptr 1000000 0]]⟩) := by
  refine meetsH [] tbOk mixed Try.func37 pl37 rfl rfl ?_
  simp [Try.ntmps37]
  refine vcRet_of [3, 2] ?_ rfl
  simp [List.idxOf_cons]
end Go.Proofs.Ytnkoibhjnahkiaa
namespace Go.Proofs.Ytnkoibhjnahkiaa
open Go.RowKit

def tbl (st : List Int) : List Bool := (List.range 201).map fun n : Nat => decide ((n : Int) ∈ st)
def flg (tasks st : List Int) : List Bool := tasks.map fun t => decide (t ∈ st)
def rest (t : Int) (st : List Int) : List Int := st.filter fun x => !decide (x = t)
def held (s : Sy) (w : Wt) (st : List Int) : Bool := (blks s w).any fun b => decide (b ∈ st)
def stepK (s : Sy) (t : Int) (w : Wt) (st : List Int) : List Int := if t ∈ st ∧ held s w st = false then rest t st else st
def passTo (s : Sy) (tasks : List Int) (waits : List Wt) (st : List Int) : Nat → List Int
  | 0 => st
  | k + 1 => stepK s (tasks.getD k 0) (waits.getD k default) (passTo s tasks waits st k)
theorem rest_len (t : Int) (st : List Int) : (rest t st).length ≤ st.length := List.length_filter_le _ _
theorem rest_lt {t : Int} {st : List Int} (h : t ∈ st) : (rest t st).length < st.length := by
  unfold rest
  rcases Nat.lt_or_ge (st.filter fun x => !decide (x = t)).length st.length with h1 | h1
  · exact h1
  · have h2 := List.length_filter_le (fun x => !decide (x = t)) st
    have h3 := List.length_filter_eq_length_iff.1 (Nat.le_antisymm h2 h1) t h
    simp at h3
theorem stepK_len (s : Sy) (t : Int) (w : Wt) (st : List Int) : (stepK s t w st).length ≤ st.length := by
  unfold stepK
  split
  · exact rest_len _ _
  · exact Nat.le_refl _
theorem passTo_len (s : Sy) (tasks : List Int) (waits : List Wt) (st : List Int) : ∀ k, (passTo s tasks waits st k).length ≤ st.length
  | 0 => Nat.le_refl _
  | k + 1 => Nat.le_trans (stepK_len _ _ _ _) (passTo_len s tasks waits st k)
/-- Whoever is left when a round takes nobody out. -/
def fin (s : Sy) (tasks : List Int) (waits : List Wt) (st : List Int) : List Int :=
  if (passTo s tasks waits st tasks.length).length < st.length then fin s tasks waits (passTo s tasks waits st tasks.length) else st
termination_by st.length
def outTo (st : List Int) : Nat → List Int
  | 0 => []
  | n + 1 => outTo st n ++ if (n : Int) ∈ st then [(n : Int)] else []
theorem outTo_len (st : List Int) : ∀ n, (outTo st n).length ≤ n
  | 0 => Nat.le_refl _
  | n + 1 => by
    have := outTo_len st n
    simp only [outTo, List.length_append]
    split <;> simp <;> omega
def stuckE (s : Sy) (tasks : List Int) (waits : List Wt) : Int :=
  if chk s ≠ 0 then chk s else if tasks.length ≠ waits.length ∨ 200 < tasks.length then 2 else if tasks.any (fun t => !inT t) then 7 else if tasks.Nodup then 0 else 8
def stuckS (s : Sy) (tasks : List Int) (waits : List Wt) : List Int × Int :=
  if stuckE s tasks waits ≠ 0 then ([], stuckE s tasks waits) else (outTo (fin s tasks waits tasks) 201, 0)
theorem tbl_len (st : List Int) : (tbl st).length = 201 := by simp [tbl]
theorem tbl_at (st : List Int) {n : Nat} (h : n < 201) : (tbl st)[n]? = some (decide ((n : Int) ∈ st)) := by
  unfold tbl
  rw [List.getElem?_map, List.getElem?_range h]; rfl
theorem tbl_nil : tbl [] = List.replicate 201 false := by
  apply List.ext_getElem?
  intro i
  rcases Nat.lt_or_ge i 201 with h | h
  · rw [tbl_at [] h, List.getElem?_replicate, if_pos h]; simp
  · rw [List.getElem?_eq_none (by rw [tbl_len]; exact h), List.getElem?_eq_none (by rw [List.length_replicate]; exact h)]
theorem tbl_set (st st' : List Int) {t : Nat} {b : Bool} (ht : t < 201) (h : ∀ n : Nat, n < 201 → decide ((n : Int) ∈ st') = if n = t then b else decide ((n : Int) ∈ st)) : (tbl st).set t b = tbl st' := by
  apply List.ext_getElem?
  intro i
  rw [List.getElem?_set]
  rcases Nat.lt_or_ge i 201 with hi | hi
  · rw [tbl_at st' hi, h i hi, tbl_len]
    by_cases e : t = i
    · subst e; simp [ht]
    · simp [e, tbl_at st hi]
      intro h; exact absurd h.symm e
  · rw [List.getElem?_eq_none (l := tbl st') (by rw [tbl_len]; exact hi), List.getElem?_eq_none (l := tbl st) (by rw [tbl_len]; exact hi)]
    rw [if_neg (by omega)]
theorem tbl_rest (st : List Int) {t : Int} (h0 : 0 ≤ t) (h : t ≤ 200) : (tbl st).set t.toNat false = tbl (rest t st) := by
  refine tbl_set _ _ (by omega) fun n hn => ?_
  unfold rest
  by_cases e : n = t.toNat
  · have : (n : Int) = t := by omega
    simp [e]
    omega
  · have : ¬ (n : Int) = t := by omega
    simp [e, this]
theorem tbl_more (st : List Int) {t : Int} (h0 : 0 ≤ t) (h : t ≤ 200) : (tbl st).set t.toNat true = tbl (st ++ [t]) := by
  refine tbl_set _ _ (by omega) fun n hn => ?_
  by_cases e : n = t.toNat
  · have : (n : Int) = t := by omega
    simp [e]
    omega
  · have : ¬ (n : Int) = t := by omega
    simp [e, this]
attribute [irreducible] tbl
end Go.Proofs.Ytnkoibhjnahkiaa
namespace Go.Proofs.Ytnkoibhjnahkiaa
open Go.RowKit
set_option maxRecDepth 100000

theorem arr_le {L L' : List Bool} (h : L = L') : All2 Le0 (L.map PV.b) (L'.map PV.b) := by
  subst h
  induction L with
  | nil => trivial
  | cons x L ih => exact ⟨by simp [Le0], ih⟩
@[simp] theorem arr_le_self {L : List Bool} : All2 Le0 (L.map PV.b) (L.map PV.b) = True := eq_true (arr_le rfl)
@[simp] theorem arr_nokeys {L : List Bool} : List.flatMap PV.keys1 (List.map PV.b L) = [] := by
  rw [List.flatMap_eq_nil_iff]
  intro x hx
  obtain ⟨b, _, rfl⟩ := List.mem_map.1 hx
  rfl
theorem arr_keys {L : List Bool} {Q : Nat → Prop} : ∀ x ∈ L.map PV.b, ∀ k ∈ PV.keys1 x, Q k := fun x hx k hk => by
  obtain ⟨b, _, rfl⟩ := List.mem_map.1 hx
  simp at hk
theorem arr_set {L L' : List Bool} {n : Nat} {b : Bool} (h : L.set n b = L') (hn : n < L.length) : List.take n (L.map PV.b) ++ PV.d (D.v (Value.bool b)) :: List.drop (n + 1) (L.map PV.b) = L'.map PV.b := by
  rw [← h, List.map_set, List.set_eq_take_append_cons_drop, if_pos (by simpa using hn)]
/-- Between two rounds. -/
inductive OutI (s : Sy) (tasks : List Int) (waits : List Wt) : Nat → Sta → Prop
  | mk (st : List Int) (ag : Bool) (hsub : ∀ t ∈ st, t ∈ tasks) (hfin : fin s tasks waits st = fin s tasks waits tasks) (hdone : ag = false → fin s tasks waits st = st) :
    OutI s tasks waits (2 * st.length + bif ag then 1 else 0) ⟨90, [(12, .b ag), (9, .ptr 9 0), (3, .ptr 3 0), (1, .d (il tasks)), (2, .d (wts waits))], [(9, .box 86 ((tbl st).map PV.b)), (3, s.box)]⟩
theorem passTo_sub {s : Sy} {tasks : List Int} {waits : List Wt} {st : List Int} {t : Int} : ∀ k, t ∈ passTo s tasks waits st k → t ∈ st
  | 0, h => h
  | k + 1, h => by
    unfold passTo stepK at h
    split at h
    · exact passTo_sub k (List.mem_filter.1 h).1
    · exact passTo_sub k h
theorem passTo_same {s : Sy} {tasks : List Int} {waits : List Wt} {st : List Int} : ∀ {k}, st.length ≤ (passTo s tasks waits st k).length → passTo s tasks waits st k = st
  | 0, _ => rfl
  | k + 1, h => by
    have h1 := passTo_len s tasks waits st k
    have h2 : st.length ≤ (passTo s tasks waits st k).length := Nat.le_trans h (stepK_len _ _ _ _)
    have ih := passTo_same h2
    unfold passTo at h ⊢
    rw [ih] at h ⊢
    unfold stepK at h ⊢
    split
    · rename_i hc
      rw [if_pos hc] at h
      have := rest_lt hc.1
      omega
    · rfl
theorem blks_in {s : Sy} {w : Wt} {b : Int} (known_ok : chk s = 0) (h : b ∈ blks s w) : 1 ≤ b ∧ b ≤ 200 := by
  unfold blks at h
  split at h
  · simp at h; omega
  · split at h
    · rename_i hc
      have hlt : w.obj.toNat < s.locks.length := by omega
      obtain ⟨x, hx, _⟩ := at_lt hlt
      have hg : s.locks.getD w.obj.toNat default = x := by rw [List.getD_eq_getElem?_getD, hx]; rfl
      rw [hg] at h
      obtain ⟨_, h2, _⟩ := chk_zero known_ok
      unfold ranges at h2
      simp only [Bool.and_eq_true] at h2
      have h5 := List.all_eq_true.1 h2.1 x (List.mem_of_getElem? hx)
      unfold lkOk at h5
      simp only [Bool.and_eq_true, Bool.or_eq_true, decide_eq_true_eq] at h5
      rcases List.mem_append.1 h with h | h
      · split at h
        · rename_i hp
          simp at h
          subst h
          rcases h5.1 with h6 | h6
          · omega
          · unfold inT at h6; simp at h6; omega
        · cases h
      · split at h
        · cases h
        · have h6 := List.all_eq_true.1 h5.2 b h
          unfold inT at h6; simp at h6; omega
    · cases h
set_option maxHeartbeats 4000000 in
theorem stuck_m (s : Sy) (hf : Fits s) (tasks : List Int) (waits : List Wt) (ht : tasks.length < 4294967296) (_hw : waits.length < 4294967296) :
    Meets Try.prog 14 [s.pv, .d (il tasks), .d (wts waits)] [] (Ret (.tup [.d (il (stuckS s tasks waits).1), .i (stuckS s tasks waits).2])) := by
  refine meetsH [] tbOk mixed Try.func14 pl14 rfl rfl ?_
  simp [Try.ntmps14]
  refine (check_m s hf).mono ?_
  rintro _ rfl
  by_cases hc : chk s = 0
  case neg =>
    simp [hc]
    refine vcRet_of [] ?_ rfl
    simp [stuckS, stuckE, hc]
  by_cases hl : tasks.length = waits.length
  case neg =>
    have hl' : ¬ (tasks.length : Int) = waits.length := by omega
    simp [hc, hl']
    refine vcRet_of [] ?_ rfl
    simp [stuckS, stuckE, hc, hl]
  have hl' : (tasks.length : Int) = waits.length := by omega
  by_cases h2 : (200 : Int) < tasks.length
  · simp [hc, ← hl, h2]
    refine vcRet_of [] ?_ rfl
    have : 200 < tasks.length := by omega
    simp [stuckS, stuckE, hc, ← hl, this]
  have h2n : ¬ 200 < tasks.length := by omega
  simp [hc, ← hl, h2]
  refine (containsI_m 35 (fun n => !inT n) tasks ht fun x _ => notTask2_m x).mono ?_
  rintro _ rfl
  cases h7 : tasks.any fun n => !inT n
  case true =>
    simp
    refine vcRet_of [] ?_ rfl
    simp [stuckS, stuckE, hc, ← hl, h2n, h7]
  have hin : ∀ t ∈ tasks, 1 ≤ t ∧ t ≤ 200 := fun t h => by
    have := List.any_eq_false.1 h7 t h
    simpa [inT] using this
  have htb0 : List.replicate 201 (PV.d (D.v (Value.bool false))) = (tbl []).map PV.b := by rw [tbl_nil, List.map_replicate]
  simp
  refine vc_loop (fun m σ => ∃ k : Nat, m = tasks.length - k ∧ k ≤ tasks.length ∧ (tasks.take k).Nodup ∧ σ = ⟨90, [(39, .i k), (38, .i tasks.length), (37, .d (il tasks)), (9, .ptr 9 0), (3, .ptr 3 0), (1, .d (il tasks)), (2, .d (wts waits))], [(9, .box 86 ((tbl (tasks.take k)).map PV.b)), (3, s.box)]⟩) ?_ ?_
  · refine ⟨_, _, ⟨0, rfl, Nat.zero_le _, by simp, rfl⟩, [], _, rfl, ?_⟩
    simp [← htb0]
  rintro m σ ⟨k, rfl, hk, hnd, rfl⟩
  by_cases hlt : k < tasks.length
  · obtain ⟨t, hx, e⟩ := at_lt hlt
    have htr := hin t (List.mem_of_getElem? hx)
    have g1 : 0 ≤ t := by omega
    have g2 : t < 201 := by omega
    have hti : t.toNat < 201 := by omega
    have hat := tbl_at (tasks.take k) hti
    have htt : ((t.toNat : Nat) : Int) = t := by omega
    rw [htt] at hat
    obtain ⟨hgl, hg⟩ := List.getElem?_eq_some_iff.1 hat
    have g3 : t ≤ 200 := by omega
    have htk : tasks.take (k + 1) = tasks.take k ++ [t] := by rw [List.take_add_one, hx]; rfl
    by_cases hm : t ∈ tasks.take k
    · simp [hlt, e, g1, g2, hg, hm, tbl_len, hti]
      refine vcRet_of [] ?_ rfl
      have hno : ¬ tasks.Nodup := fun h => by
        have h3 : (tasks.take (k + 1)).Nodup := h.sublist (List.take_sublist _ _)
        rw [htk, List.nodup_append] at h3
        exact h3.2.2 t hm t (by simp) rfl
      simp [stuckS, stuckE, hc, ← hl, h2n, h7, hno]
    · simp [hlt, e, g1, g2, g3, hg, hm, tbl_len, hti, wrap_succ hlt ht]
      refine ⟨_, ?_, _, ⟨k + 1, rfl, hlt, ?_, rfl⟩, [], _, rfl, ?_⟩
      · omega
      · rw [htk, List.nodup_append]
        refine ⟨hnd, by simp, fun a ha b hb => ?_⟩
        simp at hb
        subst hb
        exact fun e => hm (e ▸ ha)
      · have hset := arr_set (tbl_more (tasks.take k) g1 g3) hgl
        rw [← htk] at hset
        simp [hset]
  obtain rfl : k = tasks.length := by omega
  rw [List.take_of_length_le (Nat.le_refl _)] at hnd
  have hE : stuckE s tasks waits = 0 := by simp [stuckE, hc, ← hl, h2n, h7, hnd]
  simp [List.take_of_length_le]
  refine vc_loop (OutI s tasks waits) ?_ ?_
  · refine ⟨_, _, .mk tasks true (fun _ h => h) rfl (by simp), [], _, rfl, ?_⟩
    simp
  rintro m σ ⟨st, ag, hsub, hfin, hdone⟩
  cases ag
  case false =>
    have hst := hdone rfl
    have htk : List.take 201 (List.map PV.b (tbl st)) = List.map PV.b (tbl st) := List.take_of_length_le (by rw [List.length_map, tbl_len]; exact Nat.le_refl _)
    simp [tbl_len]
    refine vc_loop (fun m σ => ∃ k : Nat, m = 201 - k ∧ k ≤ 201 ∧ σ = ⟨90, [(79, .i k), (78, .agg ((tbl st).map PV.b)), (17, .rw 17 (outTo st k).length)], [(17, .row 3 1 ((outTo st k).map ics) false)]⟩) ?_ ?_
    · refine ⟨_, _, ⟨0, rfl, Nat.zero_le _, rfl⟩, [.row 17 3 1], _, rfl, ?_⟩
      simp [outTo, htk]
    rintro m σ ⟨k, rfl, hk, rfl⟩
    have hle := outTo_len st k
    by_cases hlt : k < 201
    · have hat := tbl_at st hlt
      obtain ⟨hgl, hg⟩ := List.getElem?_eq_some_iff.1 hat
      have hI : (k : Int) < 201 := by omega
      by_cases hm : (k : Int) ∈ st
      · have h9 : outTo st (k + 1) = outTo st k ++ [(k : Int)] := by simp [outTo, hm]
        simp [hI, hlt, hg, hm, tbl_len, wrap_succ hlt (by omega)]
        exact ⟨by omega, _, by omega, _, ⟨k + 1, rfl, hlt, rfl⟩, [], _, rfl, by simp [h9]⟩
      · have h9 : outTo st (k + 1) = outTo st k := by simp [outTo, hm]
        simp [hI, hlt, hg, hm, tbl_len, wrap_succ hlt (by omega)]
        exact ⟨_, by omega, _, ⟨k + 1, rfl, hlt, rfl⟩, [], _, rfl, by simp [h9]⟩
    obtain rfl : k = 201 := by omega
    simp
    refine vcRet_of [] ?_ rfl
    have : stuckS s tasks waits = (outTo st 201, 0) := by simp [stuckS, hE, ← hfin, hst]
    simp [this, List.take_of_length_le]
  simp
  refine vc_loop (fun m σ => ∃ k : Nat, m = tasks.length - k ∧ k ≤ tasks.length ∧ σ = ⟨90, [(52, .i k), (51, .i tasks.length), (50, .d (il tasks)), (12, .b (decide ((passTo s tasks waits st k).length < st.length))), (9, .ptr 9 0), (3, .ptr 3 0), (1, .d (il tasks)), (2, .d (wts waits))], [(9, .box 86 ((tbl (passTo s tasks waits st k)).map PV.b)), (3, s.box)]⟩) ?_ ?_
  · refine ⟨_, _, ⟨0, rfl, Nat.zero_le _, rfl⟩, [], _, rfl, ?_⟩
    simp [passTo]
  rintro m σ ⟨k, rfl, hk, rfl⟩
  have hple := passTo_len s tasks waits st k
  by_cases hlt : k < tasks.length
  · obtain ⟨t, hx, e⟩ := at_lt hlt
    have hlt2 : k < waits.length := by omega
    obtain ⟨w, hy, ey⟩ := at_lt hlt2
    have htr := hin t (List.mem_of_getElem? hx)
    have g1 : 0 ≤ t := by omega
    have g2 : t < 201 := by omega
    have g3 : t ≤ 200 := by omega
    have hti : t.toNat < 201 := by omega
    have hat := tbl_at (passTo s tasks waits st k) hti
    have htt : ((t.toNat : Nat) : Int) = t := by omega
    rw [htt] at hat
    obtain ⟨hgl, hg⟩ := List.getElem?_eq_some_iff.1 hat
    have hstep : passTo s tasks waits st (k + 1) = stepK s t w (passTo s tasks waits st k) := by simp [passTo, hx, hy]
    by_cases hm : t ∈ passTo s tasks waits st k
    case neg =>
      have hs2 : passTo s tasks waits st (k + 1) = passTo s tasks waits st k := by rw [hstep]; simp [stepK, hm]
      simp [hlt, e, g1, g2, hg, hm, tbl_len, hti, wrap_succ hlt ht]
      exact ⟨_, by omega, _, ⟨k + 1, rfl, hlt, rfl⟩, [], _, rfl, by simp [hs2]⟩
    simp [hlt, hlt2, e, ey, g1, g2, hg, hm, tbl_len, hti]
    refine (blockers_m s w).mono ?_
    rintro _ rfl
    simp
    refine ⟨fun i hi => by
      have : i = 0 ∨ i = 1 := by omega
      rcases this with rfl | rfl <;> simp, ?_⟩
    obtain ⟨P, hP⟩ : ∃ P, passTo s tasks waits st k = P := ⟨_, rfl⟩
    simp only [hP] at hat hgl hg hstep hm hple ⊢
    refine vc_range ⟨74, [.ptr 65 0, .ptr 10065 0], [65, 10065, 3], [w.box, .box 90 [.ptr 3 0], s.box], blkV s w, maskOf [65, 15, 14, 12, 9, 3, 1, 2, 52, 51, 50], fun i σ => i ≤ (blks s w).length ∧ σ = ⟨90, [(65, .clo 74 [.ptr 65 0, .ptr 10065 0]), (15, .ptr 15 0), (14, .i t), (12, .b (decide (P.length < st.length))), (9, .ptr 9 0), (3, .ptr 3 0), (1, .d (il tasks)), (2, .d (wts waits)), (52, .i k), (51, .i tasks.length), (50, .d (il tasks))], [(65, w.box), (10065, .box 90 [.ptr 3 0]), (3, s.box), (15, .box 4 [.b (!((blks s w).take i).any fun b => decide (b ∈ P))]), (9, .box 86 ((tbl P).map PV.b))]⟩⟩ (by simpa [toE, List.idxOf_cons] using blockers_it s hf w) (by kernel_rfl) (fun x hx => blkV_mem hx) ?_ ?_ ?_ ?_
    · refine ⟨_, ⟨Nat.zero_le _, rfl⟩, [], _, rfl, ?_⟩
      simp
    · rintro i σ ⟨hi, rfl⟩
      simp
    · rintro i x σ ⟨hi, rfl⟩ hx
      have hil : i < (blks s w).length := by rw [← blkV_len]; exact (List.getElem?_eq_some_iff.1 hx).1
      obtain ⟨b, hb, eb⟩ := at_lt hil
      have hxe : some x = some [.i b] := by rw [← hx]; exact blkV_at hb
      obtain rfl := Option.some.inj hxe
      have hbr := blks_in (known_ok := hc) (List.mem_of_getElem? hb)
      have b1 : 0 ≤ b := by omega
      have b2 : b < 201 := by omega
      have b3 : b ≤ 200 := by omega
      have hbt := tbl_at P (show b.toNat < 201 by omega)
      have hbb : ((b.toNat : Nat) : Int) = b := by omega
      rw [hbb] at hbt
      obtain ⟨hbl, hbg⟩ := List.getElem?_eq_some_iff.1 hbt
      have hnext : (List.take (i + 1) (blks s w)).any (fun b => decide (b ∈ P)) = ((List.take i (blks s w)).any (fun b => decide (b ∈ P)) || decide (b ∈ P)) := by
        rw [List.take_add_one, hb, List.any_append]; simp
      cases hfr : (List.take i (blks s w)).any fun b => decide (b ∈ P)
      · simp [b1, b2, hbg, tbl_len]
        exact ⟨_, ⟨hil, rfl⟩, [], _, rfl, by simp [hnext, hfr]⟩
      · simp
        exact ⟨_, ⟨hil, rfl⟩, [], _, rfl, by simp [hnext, hfr]⟩
    · rintro σ ⟨hi, rfl⟩
      have hall : List.take (blkV s w).length (blks s w) = blks s w := by rw [blkV_len, List.take_length]
      have hheld : held s w P = (blks s w).any fun b => decide (b ∈ P) := rfl
      cases hh : held s w P
      · have hs2 : passTo s tasks waits st (k + 1) = rest t P := by rw [hstep]; simp [stepK, hm, hh]
        have hset := arr_set (tbl_rest P g1 g3) hgl
        have hrl := rest_lt hm
        rw [hheld] at hh
        simp [hall, hh, g1, g2, g3, tbl_len, wrap_succ hlt ht]
        exact ⟨_, by omega, _, ⟨k + 1, rfl, hlt, rfl⟩, [], _, rfl, by simp [hs2, hset]; omega⟩
      · have hs2 : passTo s tasks waits st (k + 1) = P := by rw [hstep]; simp [stepK, hh]
        rw [hheld] at hh
        simp [hall, hh, wrap_succ hlt ht]
        exact ⟨_, by omega, _, ⟨k + 1, rfl, hlt, rfl⟩, [], _, rfl, by simp [hs2]⟩
  obtain rfl : k = tasks.length := by omega
  simp
  have hfst : (passTo s tasks waits st tasks.length).length < st.length → fin s tasks waits (passTo s tasks waits st tasks.length) = fin s tasks waits st := fun h => by rw [fin.eq_def s tasks waits st, if_pos h]
  by_cases hch : (passTo s tasks waits st tasks.length).length < st.length
  · refine ⟨_, ?_, _, .mk (passTo s tasks waits st tasks.length) true (fun t h => hsub t (passTo_sub _ h)) ((hfst hch).trans hfin) (by simp), [], _, rfl, ?_⟩
    · simp; omega
    · simp [hch]
  · have heq : passTo s tasks waits st tasks.length = st := passTo_same (by omega)
    have hf0 : fin s tasks waits st = st := by rw [fin.eq_def s tasks waits st, if_neg hch]
    refine ⟨_, ?_, _, .mk st false hsub hfin (fun _ => hf0), [], _, rfl, ?_⟩
    · simp
    · simp [heq]
end Go.Proofs.Ytnkoibhjnahkiaa
