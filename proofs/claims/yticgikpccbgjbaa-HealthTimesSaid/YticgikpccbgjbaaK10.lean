/- Contracts: the machine s apply, Step. No condition. -/
import Derived.Test.YticgikpccbgjbaaK9
namespace Go.Proofs.Yticgikpccbgjbaa
open Go.RowKit

/-- An event that is right by itself, applied. -/
def stepK (s : Hs) (x : Ev) : Hs × List Ch × Int :=
  if x.kind = 1 then if x.now < s.now then (s, [], 9) else ((tickR s x.now).1, (tickR s x.now).2, 0)
  else if x.kind = 2 then
    if dueB s (s.bs.getD x.bk.toNat default) = false then (s, [], 9) else if 0 ≤ findP s.bs x.id then (s, [], 8)
    else (⟨s.c, s.now, s.bs.set x.bk.toNat (begB s (s.bs.getD x.bk.toNat default) x.id)⟩, [], 0)
  else if x.kind = 3 then
    if findP s.bs x.id < 0 then (s, [], 4)
    else (⟨s.c, s.now, s.bs.set (findP s.bs x.id).toNat (outB s.c (s.bs.getD (findP s.bs x.id).toNat default) x.ok)⟩, outL s.c (s.bs.getD (findP s.bs x.id).toNat default) (findP s.bs x.id).toNat x.ok s.now, 0)
  else (⟨s.c, s.now, s.bs.set x.bk.toNat (markB (s.bs.getD x.bk.toNat default) x.ok)⟩, markL (s.bs.getD x.bk.toNat default) x.bk.toNat x.ok s.now, 0)
def stepM (s : Hs) (x : Ev) : Hs × List Ch × Int := if ev x s.bs.length ≠ 0 then (s, [], ev x s.bs.length) else stepK s x
theorem ev_ok0 {x : Ev} {n : Int} (h : ev x n = 0) : argBad x = false ∧ rangeBad x n = false := by
  unfold ev at h
  split at h
  · cases h
  · rename_i h1
    split at h
    · cases h
    · rename_i h2
      simp at h1 h2
      exact ⟨h1, h2⟩
theorem ev_kind {x : Ev} {n : Int} (h : ev x n = 0) : x.kind = 1 ∨ x.kind = 2 ∨ x.kind = 3 ∨ x.kind = 4 := by
  have := (ev_ok0 h).1
  unfold argBad at this
  split at this
  · exact .inl ‹_›
  · split at this
    · exact .inr (.inl ‹_›)
    · split at this
      · exact .inr (.inr (.inl ‹_›))
      · split at this
        · exact .inr (.inr (.inr ‹_›))
        · cases this
theorem ev_range {x : Ev} {n : Int} (h : ev x n = 0) : 0 ≤ x.now ∧ x.now ≤ 1000000000000 ∧ 0 ≤ x.bk ∧ x.bk < n ∧ ((x.kind = 2 ∨ x.kind = 3) → 1 ≤ x.id ∧ x.id ≤ 1000000000) := by
  have := (ev_ok0 h).2
  simp only [rangeBad, Bool.or_eq_false_iff, Bool.and_eq_false_iff, decide_eq_false_iff_not] at this
  omega
theorem findP_range (bs : List Bk) (id : Int) : findP bs id = -1 ∨ ∃ (i : Nat) (b : Bk), findP bs id = i ∧ bs[i]? = some b ∧ b.probe = id := by
  unfold findP
  cases h : bs.findIdx? (fun b => decide (b.probe = id)) with
  | none => exact .inl rfl
  | some i =>
    rw [List.findIdx?_eq_some_iff_getElem] at h
    obtain ⟨h1, h2, _⟩ := h
    exact .inr ⟨i, _, rfl, List.getElem?_eq_getElem h1, by simpa using h2⟩
/-- What comes of the machine. -/
@[simp] def appR (r : Hs × List Ch × Int) : Res := ⟨.i r.2.2, [.box 76 (mcells r.1 1000001 (.d (chl r.2.1))), .row 42 5 (r.1.bs.map Bk.ds) false], []⟩
set_option maxRecDepth 100000 in
set_option maxHeartbeats 16000000 in
theorem apply_m (s : Hs) (hc : chk s = 0) (x : Ev) :
    Meets Try.prog 35 [.ptr 1000000 0, x.pv] [.box 76 (mcells s 1000001 (.d (.v (.slice none 0 0)))), .row 42 5 (s.bs.map Bk.ds) false] (fun r => r = appR (stepM s x)) := by
  refine meetsH [] tbOk mixed Try.func35 pl35 rfl rfl ?_
  have hf := chk_fine hc
  have hl := hf.len
  have hrun := chk_run hc
  simp [Try.ntmps35]
  refine effCall (event_m x s.bs.length) ?_
  by_cases he : ev x s.bs.length = 0
  case neg =>
    simp [he]
    refine ⟨by kernel_rfl, ?_⟩
    refine vcRet_of [] ?_ rfl
    simp [stepM, he]
  obtain ⟨n0, n1, b0, b1, hid⟩ := ev_range he
  simp [he]
  refine ⟨by kernel_rfl, ?_⟩
  refine (indexF_m s.bs x (by omega)).mono ?_
  rintro _ rfl
  have hM : stepM s x = stepK s x := by rw [stepM, if_neg (by simp [he])]
  rw [hM]
  clear hM
  by_cases k1 : x.kind = 1
  · by_cases h1 : x.now < s.now
    · simp [k1, h1]
      refine ⟨by kernel_rfl, ?_⟩
      refine vcRet_of [] ?_ rfl
      simp [stepK, k1, h1]
    · simp [k1, h1]
      refine ⟨by kernel_rfl, ?_⟩
      refine (tick_m s hf.c hl hrun x.now).mono ?_
      rintro _ rfl
      simp
      refine vcRet_prep [.seen 1000000 7] [] (by simp [Prep.all, Prep.run]; rfl) ?_ rfl
      simp [stepK, k1, h1]
      exact List.take_of_length_le (by simp)
  obtain ⟨j, hj⟩ : ∃ j : Nat, x.bk = j := ⟨x.bk.toNat, by omega⟩
  have hjl : j < s.bs.length := by omega
  obtain ⟨b, hb, eb⟩ := at_lt hjl
  have gb : s.bs[j]?.getD default = b := by rw [hb]; rfl
  have tj : x.bk.toNat = j := by omega
  by_cases k2 : x.kind = 2
  · simp [k2, hj, hjl, eb]
    refine effCall (isDueR_m s b) ?_
    cases hd : dueB s b
    · simp
      refine ⟨by kernel_rfl, ?_⟩
      refine vcRet_of [] ?_ rfl
      simp [stepK, k2, tj, gb, hd]
    · have hdd : b.probe = 0 ∧ b.next ≤ s.now := by simpa [dueB] using hd
      have hnum := chk_num hc hb
      have hf0 := fst_nonneg hf.c j
      by_cases hp : 0 ≤ findP s.bs x.id
      · simp [hp]
        refine ⟨by kernel_rfl, ?_⟩
        refine vcRet_of [] ?_ rfl
        simp [stepK, k2, tj, gb, hd, hp]
      · simp [hp]
        refine ⟨by kernel_rfl, ?_⟩
        refine (begin_m s hf hb (by omega) hdd.2 x.id (.v (.slice none 0 0))).mono ?_
        rintro _ rfl
        simp
        refine vcRet_of [] ?_ rfl
        simp [stepK, k2, tj, gb, hd, hp]
  by_cases k3 : x.kind = 3
  · rcases findP_range s.bs x.id with hp | ⟨i, y, hp, hy, _⟩
    · simp [k3, hp]
      refine vcRet_of [] ?_ rfl
      simp [stepK, k3, hp]
    · have hp0 : ¬ ((i : Int) < 0) := by omega
      have hry := hrun i y hy
      have h10 := lim_le hf.c y.up
      simp [k3, hp, hp0]
      refine effCallN (outcome0_m s hy ⟨hry.1.1, by omega⟩ x.ok s.now) ?_
      simp
      refine ⟨by kernel_rfl, ?_⟩
      refine vcRet_prep [.seen 1000000 7] [] (by simp [Prep.all, Prep.run]; rfl) ?_ rfl
      simp [stepK, k3, hp, hp0, hy]
      exact List.take_of_length_le (by simp)
  have k4 : x.kind = 4 := by rcases ev_kind he with h | h | h | h <;> first | exact absurd h k1 | exact absurd h k2 | exact absurd h k3 | exact h
  simp [k4, hj]
  refine effCallN (mark0_m s hb x.ok s.now) ?_
  simp
  refine ⟨by kernel_rfl, ?_⟩
  refine vcRet_prep [.seen 1000000 7] [] (by simp [Prep.all, Prep.run]; rfl) ?_ rfl
  simp [stepK, k4, tj, gb]
  exact List.take_of_length_le (by simp)

theorem clone_m (bs : List Bk) (h : bs ≠ []) (hl : bs.length < 4294967296) : Meets Try.prog 34 [.d (bl bs)] [] (fun r => r = ⟨.rw 2000000 bs.length, [], [.row 42 5 (bs.map Bk.ds) false]⟩) := by
  refine meetsH [] tbOk mixed Try.func34 pl34 rfl rfl ?_
  simp [Try.ntmps34]
  refine ⟨⟨by omega, ?_⟩, fun h2 => absurd h2 h⟩
  refine vcRet_of [5] ?_ rfl
  simp
/-- What Step hands back. -/
def stepR (s : Hs) (x : Ev) : Hs × List Ch × Int := if chk s ≠ 0 then (Hs.zero, [], chk s) else if (stepM s x).2.2 ≠ 0 then (Hs.zero, [], (stepM s x).2.2) else stepM s x
theorem fine_ne {s : Hs} (h : Fine s) : s.bs ≠ [] := fun e => by
  have h1 := h.l
  have h2 := (validC_iff.1 h.c).1
  rw [e] at h1
  simp at h1
  omega
set_option maxRecDepth 100000 in
set_option maxHeartbeats 4000000 in
theorem step_m (s : Hs) (hl : s.bs.length < 4294967296) (x : Ev) : Meets Try.prog 16 [s.pv, x.pv] [] (Ret (.tup [(stepR s x).1.pv, .d (chl (stepR s x).2.1), .i (stepR s x).2.2])) := by
  refine meetsH [] tbOk mixed Try.func16 pl16 rfl rfl ?_
  simp [Try.ntmps16]
  refine (check_m s hl).mono ?_
  rintro _ rfl
  by_cases hc : chk s = 0
  case neg =>
    simp [hc]
    refine vcRet_of [] ?_ rfl
    simp [stepR, hc]
  have hf := chk_fine hc
  simp [hc]
  refine (clone_m s.bs (fine_ne hf) hl).mono ?_
  rintro _ rfl
  simp
  refine (apply_m s hc x).mono ?_
  rintro _ rfl
  by_cases he : (stepM s x).2.2 = 0
  case neg =>
    simp [he]
    refine vcRet_of [] ?_ rfl
    simp [stepR, hc, he]
  simp [he]
  refine ⟨by kernel_rfl, ?_⟩
  refine vcRet_of [] ?_ rfl
  simp [stepR, hc, he]
  exact List.take_of_length_le (by simp)
end Go.Proofs.Yticgikpccbgjbaa
