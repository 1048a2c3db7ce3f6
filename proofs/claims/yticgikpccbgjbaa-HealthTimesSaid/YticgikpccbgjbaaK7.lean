/- Contracts: comparing numbers, the library s insertion sort. No condition. -/
import Derived.Test.YticgikpccbgjbaaK6
namespace Go.Proofs.Yticgikpccbgjbaa
open Go.RowKit

theorem nan_m (a : Int) : Meets Try.prog 65 [.i a] [] (Ret (.b false)) := by
  refine meetsH [] tbOk mixed Try.func65 pl65 rfl rfl ?_
  simp [Try.ntmps65]
  exact vcRet_of [] (by simp) rfl
def cmpI (a b : Int) : Int := if a < b then -1 else if b < a then 1 else 0
theorem compare_m (a b : Int) : Meets Try.prog 63 [.i a, .i b] [] (Ret (.i (cmpI a b))) := by
  refine meetsH [] tbOk mixed Try.func63 pl63 rfl rfl ?_
  simp [Try.ntmps63]
  refine (nan_m a).mono ?_
  rintro _ rfl
  simp
  refine (nan_m b).mono ?_
  rintro _ rfl
  by_cases h1 : a < b
  · simp [h1]
    exact vcRet_of [] (by simp [cmpI, h1]) rfl
  by_cases h2 : b < a
  · simp [h1, h2]
    exact vcRet_of [] (by simp [cmpI, h1, h2]) rfl
  · simp [h1, h2]
    exact vcRet_of [] (by simp [cmpI, h1, h2]) rfl

/-- Where x comes among the first j of P, from behind: behind all that it is not less than. -/
def cutJ (lt : Int → Int → Bool) (x : Int) (P : List Int) : Nat → Nat
  | 0 => 0
  | j + 1 => if lt x (P.getD j 0) then cutJ lt x P j else j + 1
theorem cutJ_le (lt : Int → Int → Bool) (x : Int) (P : List Int) : ∀ j, cutJ lt x P j ≤ j
  | 0 => Nat.le_refl _
  | j + 1 => by
    unfold cutJ
    split
    · exact Nat.le_succ_of_le (cutJ_le lt x P j)
    · exact Nat.le_refl _
def insJ (lt : Int → Int → Bool) (x : Int) (P : List Int) : List Int := P.take (cutJ lt x P P.length) ++ x :: P.drop (cutJ lt x P P.length)
/-- Insertion sort. -/
def sortI (lt : Int → Int → Bool) (xs : List Int) : List Int := xs.foldl (fun P x => insJ lt x P) []
theorem insJ_len (lt : Int → Int → Bool) (x : Int) (P : List Int) : (insJ lt x P).length = P.length + 1 := by
  have := cutJ_le lt x P P.length
  simp [insJ]; omega
theorem sortI_succ {lt : Int → Int → Bool} {xs : List Int} {k : Nat} {x : Int} (h : xs[k]? = some x) : sortI lt (xs.take (k + 1)) = insJ lt x (sortI lt (xs.take k)) := by
  unfold sortI
  rw [List.take_add_one, h, List.foldl_append]
  rfl
theorem sortI_len (lt : Int → Int → Bool) : ∀ (xs : List Int), (sortI lt xs).length = xs.length := by
  intro xs
  have : ∀ (xs P : List Int), (xs.foldl (fun P x => insJ lt x P) P).length = P.length + xs.length := by
    intro xs
    induction xs with
    | nil => intro P; simp
    | cons x xs ih => intro P; rw [List.foldl_cons, ih, insJ_len]; simp; omega
  simpa [sortI] using this xs []

@[simp] def mcells (s : Hs) (R : Nat) (q : PV) : List PV := [.i s.c.n, .i s.c.iv, .i s.c.tm, .i s.c.ri, .i s.c.fa, .i s.now, .rw R s.bs.length, q]
set_option maxHeartbeats 1000000 in
theorem less_m (s : Hs) {i k : Nat} {b d : Bk} (hb : s.bs[i]? = some b) (hd : s.bs[k]? = some d) (q : D) :
    Meets Try.prog 62 [.i i, .i k, .ptr 1000000 0] [.box 74 [.ptr 1000001 0], .box 76 (mcells s 1000002 (.d q)), .row 42 5 (s.bs.map Bk.ds) false]
      (fun r => r = ⟨.i (cmpI b.began d.began), [.box 74 [.ptr 1000001 0], .box 76 (mcells s 1000002 (.d q)), .row 42 5 (s.bs.map Bk.ds) false], []⟩) := by
  refine meetsH [] tbOk mixed Try.func62 pl62 rfl rfl ?_
  have hi := lt_some hb
  have hk := lt_some hd
  have ei : s.bs[i] = b := by rw [List.getElem?_eq_getElem hi] at hb; exact Option.some.inj hb
  have ek : s.bs[k] = d := by rw [List.getElem?_eq_getElem hk] at hd; exact Option.some.inj hd
  simp [Try.ntmps62, hi, hk, ei, ek]
  refine effCall (compare_m b.began d.began) ?_
  simp
  refine ⟨by kernel_rfl, vcRet_of [] ?_ rfl⟩
  simp

/-- When the check of a backend began. -/
def bgAt (s : Hs) (x : Int) : Int := bgn s.bs x
def ltB (s : Hs) (x y : Int) : Bool := decide (cmpI (bgAt s x) (bgAt s y) < 0)
def Idx (s : Hs) (xs : List Int) : Prop := ∀ x ∈ xs, ∃ (i : Nat) (b : Bk), x = i ∧ s.bs[i]? = some b
theorem insJ_mem {lt : Int → Int → Bool} {x y : Int} {P : List Int} (h : y ∈ insJ lt x P) : y = x ∨ y ∈ P := by
  unfold insJ at h
  rcases List.mem_append.1 h with h | h
  · exact .inr (List.mem_of_mem_take h)
  · rcases List.mem_cons.1 h with h | h
    · exact .inl h
    · exact .inr (List.mem_of_mem_drop h)
theorem sortI_mem {lt : Int → Int → Bool} {xs : List Int} {y : Int} (h : y ∈ sortI lt xs) : y ∈ xs := by
  have : ∀ (xs P : List Int), y ∈ xs.foldl (fun P x => insJ lt x P) P → y ∈ xs ∨ y ∈ P := by
    intro xs
    induction xs with
    | nil => intro P h; exact .inr h
    | cons x xs ih =>
      intro P h
      rw [List.foldl_cons] at h
      rcases ih _ h with h | h
      · exact .inl (List.mem_cons_of_mem _ h)
      · rcases insJ_mem h with rfl | h
        · exact .inl (by simp)
        · exact .inr h
  rcases this xs [] h with h | h
  · exact h
  · cases h
theorem at_j {P R : List Int} {x : Int} {j : Nat} (hj : j ≤ P.length) : (P.take j ++ x :: R)[j]? = some x := by
  rw [List.getElem?_append_right (by simp; omega), List.length_take, Nat.min_eq_left hj, Nat.sub_self]
  rfl
theorem at_j1 {P R : List Int} {x y : Int} {j : Nat} (hj : j + 1 ≤ P.length) (hy : P[j]? = some y) : (P.take (j + 1) ++ x :: R)[j]? = some y := by
  rw [List.getElem?_append_left (by simp; omega), List.getElem?_take, if_pos (by omega), hy]
theorem swap_j {P R : List Int} {x y : Int} {j : Nat} (hj : j + 1 ≤ P.length) (hy : P[j]? = some y) : ((P.take (j + 1) ++ x :: R).set (j + 1) y).set j x = P.take j ++ x :: (y :: R) := by
  have h1 : P.take (j + 1) = P.take j ++ [y] := by rw [List.take_add_one, hy]; rfl
  have h2 : (P.take j).length = j := by rw [List.length_take]; omega
  rw [h1, List.append_assoc, List.set_append_right _ _ (by rw [h2]; omega), List.set_append_right _ _ (by rw [h2]; omega), h2]
  simp
set_option maxRecDepth 100000 in
set_option maxHeartbeats 4000000 in
theorem isort_m (s : Hs) (hl : s.bs.length < 4294967296) (q : D) (xs : List Int) (hx : xs.length < 4294967296) (hi : Idx s xs) :
    Meets Try.prog 66 [.rw 1000000 xs.length, .i 0, .i xs.length, .clo 62 [.ptr 1000001 0]] [.row 3 1 (xs.map nds) false, .box 74 [.ptr 1000002 0], .box 76 (mcells s 1000003 (.d q)), .row 42 5 (s.bs.map Bk.ds) false]
      (fun r => r = ⟨.tup [], [.row 3 1 ((sortI (ltB s) xs).map nds) false, .box 74 [.ptr 1000002 0], .box 76 (mcells s 1000003 (.d q)), .row 42 5 (s.bs.map Bk.ds) false], []⟩) := by
  refine meetsH [] tbOk mixed Try.func66 pl66 rfl rfl ?_
  simp [Try.ntmps66]
  refine vc_loop (fun n σ => ∃ (k : Nat) (L : List Int), n = xs.length - k ∧ 1 ≤ k ∧ L.length = xs.length ∧ L = sortI (ltB s) (xs.take k) ++ xs.drop k ∧ σ = ⟨53, [(8, .i k), (0, .rw 1000000 xs.length), (1, .i 0), (2, .i xs.length), (3, .clo 62 [.ptr 1000001 0])], [(1000000, .row 3 1 (L.map nds) false), (1000001, .box 74 [.ptr 1000002 0]), (1000002, .box 76 (mcells s 1000003 (.d q))), (1000003, .row 42 5 (s.bs.map Bk.ds) false)]⟩) ?_ ?_
  · refine ⟨_, _, ⟨1, xs, rfl, Nat.le_refl _, rfl, ?_, rfl⟩, [], _, rfl, by simp [show IntKind.i64.wrap 1 = 1 from small_wrap (by omega)]⟩
    cases xs <;> rfl
  rintro n σ ⟨k, L, rfl, hk, hL, hLe, rfl⟩
  by_cases hlt : k < xs.length
  · obtain ⟨x, hxk, ex⟩ := at_lt hlt
    obtain ⟨ix, bx, rfl, hbx⟩ := hi x (List.mem_of_getElem? hxk)
    obtain ⟨P, hP⟩ : ∃ P, sortI (ltB s) (xs.take k) = P := ⟨_, rfl⟩
    have hPl : P.length = k := by rw [← hP, sortI_len, List.length_take]; omega
    have hdrop : xs.drop k = (ix : Int) :: xs.drop (k + 1) := by rw [List.drop_eq_getElem_cons hlt, ex]
    rw [hP, hdrop] at hLe
    simp [hlt]
    refine vc_loop (fun m σ => ∃ (j : Nat) (M : List Int), m = j ∧ j ≤ k ∧ M.length = xs.length ∧ M = P.take j ++ (ix : Int) :: (P.drop j ++ xs.drop (k + 1)) ∧ cutJ (ltB s) ix P k = cutJ (ltB s) ix P j ∧
      σ = ⟨53, [(9, .i j), (8, .i k), (0, .rw 1000000 xs.length), (1, .i 0), (2, .i xs.length), (3, .clo 62 [.ptr 1000001 0])], [(1000000, .row 3 1 (M.map nds) false), (1000001, .box 74 [.ptr 1000002 0]), (1000002, .box 76 (mcells s 1000003 (.d q))), (1000003, .row 42 5 (s.bs.map Bk.ds) false)]⟩) ?_ ?_
    · refine ⟨_, _, ⟨k, L, rfl, Nat.le_refl _, hL, ?_, rfl, rfl⟩, [], _, rfl, by simp⟩
      rw [hLe, ← hPl, List.take_length, List.drop_length, List.nil_append]
    rintro j σ ⟨_, M, rfl, hj, hM, hMe, hcut, rfl⟩
    have w8 := wrap_succ hlt hx
    have done : cutJ (ltB s) ix P j = j → M = sortI (ltB s) (xs.take (k + 1)) ++ xs.drop (k + 1) := fun h => by
      rw [sortI_succ hxk, hP, insJ, hPl, hcut, h, hMe]
      simp
    cases j with
    | zero =>
      simp [w8]
      refine ⟨by kernel_rfl, _, ?_, _, ⟨k + 1, rfl, by omega, M, hM, done rfl, rfl⟩, [], _, rfl, by simp⟩
      omega
    | succ i =>
      have hiP : i < P.length := by omega
      obtain ⟨y, hy, ey⟩ := at_lt hiP
      obtain ⟨iy, bY, rfl, hby⟩ := hi y (List.mem_of_mem_take (sortI_mem (hP ▸ List.mem_of_getElem? hy)))
      have m1 : i + 1 < M.length := by omega
      have m0 : i < M.length := by omega
      have e1 : M[i + 1] = (ix : Int) := by
        have := at_j (R := P.drop (i + 1) ++ xs.drop (k + 1)) (x := (ix : Int)) (P := P) (j := i + 1) (by omega)
        rw [← hMe, List.getElem?_eq_getElem m1] at this
        exact Option.some.inj this
      have e0 : M[i] = (iy : Int) := by
        have := at_j1 (R := P.drop (i + 1) ++ xs.drop (k + 1)) (x := (ix : Int)) (P := P) (j := i) (by omega) hy
        rw [← hMe, List.getElem?_eq_getElem m0] at this
        exact Option.some.inj this
      have w9 : IntKind.i64.wrap (i : Int) = (i : Int) := small_wrap (by omega)
      have g0 : (0 : Int) < (i : Int) + 1 := by omega
      have m1' : i + 1 < xs.length := by omega
      have m0' : i < xs.length := by omega
      have g1 : (i : Int) + 1 < (xs.length : Int) := by omega
      have g2 : (i : Int) < (xs.length : Int) := by omega
      have g3 : 0 ≤ (i : Int) + 1 := by omega
      have g4 : ((i : Int) + 1).toNat = i + 1 := by omega
      simp [g0, g1, g2, g3, g4, w9, m1, m0, m1', m0', e1, e0]
      refine effCall (less_m s hbx hby q) ?_
      have hy0 : P.getD i 0 = (iy : Int) := by simp [List.getD, hy]
      by_cases hc : cmpI bx.began bY.began < 0
      · have hlt2 : ltB s ix iy = true := by simp [ltB, bgAt, bgn, List.getD, hbx, hby, hc]
        have hcut2 : cutJ (ltB s) ix P (i + 1) = cutJ (ltB s) ix P i := by rw [cutJ, hy0, hlt2]; rfl
        have hsw : (M.set (i + 1) (iy : Int)).set i (ix : Int) = P.take i ++ (ix : Int) :: (P.drop i ++ xs.drop (k + 1)) := by
          rw [hMe, swap_j (by omega) hy, List.drop_eq_getElem_cons hiP, ey]
          rfl
        simp [hc, g1, g2, g3, g4, w9, m1, m0, m1', m0', e1, e0]
        refine ⟨by kernel_rfl, by kernel_rfl, i, by omega, _, ⟨by omega, _, ?_, hsw, hcut.trans hcut2, rfl⟩, [], _, rfl, ?_⟩
        · simpa using hM
        · simp
      · have hlt2 : ltB s ix iy = false := by simp [ltB, bgAt, bgn, List.getD, hbx, hby]; omega
        have hcut2 : cutJ (ltB s) ix P (i + 1) = i + 1 := by rw [cutJ, hy0, hlt2]; rfl
        simp [hc, w8]
        refine ⟨by kernel_rfl, _, ?_, _, ⟨k + 1, rfl, by omega, M, hM, done hcut2, rfl⟩, [], _, rfl, by simp⟩
        omega
  · simp [hlt]
    refine vcRet_of [] ?_ rfl
    have h1 : xs.length ≤ k := by omega
    rw [List.take_of_length_le h1, List.drop_eq_nil_of_le h1, List.append_nil] at hLe
    simp [hLe]
end Go.Proofs.Yticgikpccbgjbaa
