/- Contract: the statement IdleTakes. No condition. -/
import Derived.Test.YtjbpkibhkaagjaaI10
namespace Go.Proofs.Ytjbpkibhkaagjaa
open Go.RowKit

theorem filter_at {α : Type} {q : α → Bool} {xs : List α} {k : Nat} {x : α} (hx : xs[k]? = some x) (hq : q x = true) : (xs.filter q)[((xs.take k).filter q).length]? = some x := by
  have hlt := lt_some hx
  have e : xs.filter q = (xs.take k).filter q ++ (x :: (xs.drop (k + 1)).filter q) := by
    have h1 : xs = xs.take k ++ (x :: xs.drop (k + 1)) := by
      have := List.drop_eq_getElem_cons hlt
      rw [show xs[k] = x by rw [List.getElem?_eq_getElem hlt] at hx; exact Option.some.inj hx] at this
      rw [← this, List.take_append_drop]
    conv => lhs; rw [h1]
    rw [List.filter_append, List.filter_cons_of_pos hq]
  rw [e, List.getElem?_append_right (Nat.le_refl _), Nat.sub_self]
  rfl
/-- The last place, of the first k, where p holds. -/
def lastTo (p : Cn → Bool) (cs : List Cn) : Nat → Int
  | 0 => -1
  | k + 1 => if p (cs.getD k default) then k else lastTo p cs k
theorem lastTo_succ {p : Cn → Bool} {cs : List Cn} {k : Nat} {x : Cn} (h : cs[k]? = some x) : lastTo p cs (k + 1) = if p x then (k : Int) else lastTo p cs k := by rw [lastTo, getD_some h]
/-- What the last good one is. -/
theorem lastTo_is {p : Cn → Bool} {cs : List Cn} : ∀ {k : Nat}, k ≤ cs.length → (lastTo p cs k = -1 ∧ (cs.take k).filter p = []) ∨
    ∃ (j : Nat) (y : Cn), j < k ∧ lastTo p cs k = j ∧ cs[j]? = some y ∧ p y = true ∧ (∀ i x, j < i → i < k → cs[i]? = some x → p x = false) ∧ (cs.take k).filter p = (cs.take j).filter p ++ [y]
  | 0, _ => .inl ⟨rfl, by simp⟩
  | k + 1, hk => by
    obtain ⟨x, hx, _⟩ := at_lt (show k < cs.length by omega)
    rw [lastTo_succ hx, List.take_add_one, hx]
    cases hp : p x
    · rcases lastTo_is (p := p) (cs := cs) (k := k) (by omega) with ⟨h1, h2⟩ | ⟨j, y, h1, h2, h3, h4, h5, h6⟩
      · left; simp [h1, h2, hp]
      · right
        refine ⟨j, y, by omega, by simp [h2], h3, h4, fun i z hi hik hz => ?_, by simp [h6, hp]⟩
        by_cases hk' : i = k
        · subst hk'; rw [hx] at hz; cases hz; exact hp
        · exact h5 i z hi (by omega) hz
    · right
      exact ⟨k, x, by omega, by simp, hx, hp, fun i z hi hik => by omega, by simp [hp]⟩
theorem take_none {s : St} {now : Int} (hc : rdy s now = 0) (h : left s now = []) : take s now = (⟨s.most, s.idle, s.age, []⟩, ⟨0, 0, 0⟩, shut s now, 4) := by simp [take, hc, h]
theorem take_some {s : St} {now : Int} {L : List Cn} {y : Cn} (hc : rdy s now = 0) (h : left s now = L ++ [y]) : take s now = (⟨s.most, s.idle, s.age, L⟩, y, shut s now, 0) := by simp [take, hc, h]
theorem rdy_7 {s : St} {now : Int} (hs : chk s = 0) (hc : rdy s now ≠ 0) : rdy s now = 7 := by
  unfold rdy at hc ⊢
  rw [if_neg (by simp [hs])] at hc ⊢
  split
  · rfl
  · rename_i h; rw [if_neg h] at hc; exact absurd rfl hc
abbrev closeI (s : St) (now : Int) (p : Cn → Bool) : List Int := (s.cs.filter fun x => !p x).map Cn.conn
set_option maxRecDepth 20000 in
set_option maxHeartbeats 4000000 in
theorem takes_m (s : St) (now : Int) : Meets Try.prog 3 [s.pv, .i now] [] (Ret (.b true)) := by
  refine meetsH [] tbOk mixed Try.func3 pl3 rfl rfl ?_
  by_cases h200 : (200 : Int) < s.cs.length
  · simp [Try.ntmps3, h200]
    refine awake_m.mono ?_
    rintro _ rfl
    simp
    refine vcRet_of [] ?_ rfl
    simp
  have hl : s.cs.length < 4294967296 := by omega
  simp [Try.ntmps3, h200]
  refine (refCheck_m s hl).mono ?_
  rintro _ rfl
  by_cases hs : chk s = 0
  case neg =>
    simp [hs]
    refine awake_m.mono ?_
    rintro _ rfl
    simp
    refine vcRet_of [] ?_ rfl
    simp
  simp [hs]
  by_cases hc : rdy s now = 0
  case neg =>
    have h7 := rdy_7 hs hc
    have e : take s now = (s, ⟨0, 0, 0⟩, [], 7) := by simp [take, h7]
    refine (take_v e hl).mono ?_
    rintro _ rfl
    simp
    refine (same_m s s hl).mono ?_
    rintro _ rfl
    simp
    refine awake_m.mono ?_
    rintro _ rfl
    simp
    refine vcRet_of [] ?_ rfl
    simp
  have hsm := small_of hc
  obtain ⟨p, hp⟩ : ∃ p, good s.idle s.age now = p := ⟨_, rfl⟩
  obtain ⟨C, hCC⟩ : ∃ C, closeI s now p = C := ⟨_, rfl⟩
  have hC : shut s now = C := by rw [← hCC]; simp [shut, hp]
  rcases lastTo_is (p := p) (cs := s.cs) (Nat.le_refl _) with ⟨hb, hL⟩ | ⟨j, y, hj, hb, hy, hpy, hafter, hL⟩
  · rw [List.take_length] at hL
    have e := take_none hc (by rw [left, hp, hL])
    rw [hC] at e
    refine (take_v e hl).mono ?_
    rintro _ rfl
    simp
    refine vc_loop (fun m σ => ∃ k : Nat, m = s.cs.length - k ∧ k ≤ s.cs.length ∧ σ = ⟨157, [(10, .i k), (9, .i (lastTo p s.cs k)), (1, .i now), (2, .ptr 2 0), (5, .ptr 5 0), (6, .ptr 6 0), (7, .d (nl C)), (8, .i 4)], [(2, s.box), (5, .box 24 [.i s.most, .i s.idle, .i s.age, .d (cl [])]), (6, .box 29 [.i 0, .i 0, .i 0])]⟩) ?_ ?_
    · exact ⟨_, _, ⟨0, rfl, Nat.zero_le _, rfl⟩, [], _, rfl, by simp [lastTo]⟩
    rintro m σ ⟨k, rfl, hk, rfl⟩
    by_cases hlt : k < s.cs.length
    · obtain ⟨x, hx, ex⟩ := at_lt hlt
      simp [hlt, ex]
      refine effCall (good_m s now x (hsm x (List.mem_of_getElem? hx))) ?_
      rw [hp]
      cases hpx : p x
      · simp [hlt, ex]
        refine ⟨by kernel_rfl, ?_⟩
        simp [wrap_succ hlt hl]
        refine ⟨_, ?_, _, ⟨k + 1, rfl, hlt, rfl⟩, [], _, rfl, by simp [lastTo_succ hx, hpx]⟩
        omega
      · simp [hlt, ex]
        refine ⟨by kernel_rfl, ?_⟩
        simp [wrap_succ hlt hl]
        refine ⟨_, ?_, _, ⟨k + 1, rfl, hlt, rfl⟩, [], _, rfl, by simp [lastTo_succ hx, hpx]⟩
        omega
    obtain rfl : k = s.cs.length := by omega
    have hm := chk_most hs
    have hm2 : ¬ s.most < 0 := by omega
    simp [hb, hm2]
    refine ⟨by kernel_rfl, ?_⟩
    refine vc_loop (fun m σ => ∃ k : Nat, m = s.cs.length - k ∧ k ≤ s.cs.length ∧ σ = ⟨157, [(13, .i k), (11, .i 0), (12, .i (((s.cs.take k).filter fun x => !p x).length : Nat)), (9, .i (-1)), (1, .i now), (2, .ptr 2 0), (5, .ptr 5 0), (6, .ptr 6 0), (7, .d (nl C)), (8, .i 4)], [(2, s.box), (5, .box 24 [.i s.most, .i s.idle, .i s.age, .d (cl [])]), (6, .box 29 [.i 0, .i 0, .i 0])]⟩) ?_ ?_
    · exact ⟨_, _, ⟨0, rfl, Nat.zero_le _, rfl⟩, [], _, rfl, by simp⟩
    rintro m σ ⟨k, rfl, hk, rfl⟩
    by_cases hlt : k < s.cs.length
    · obtain ⟨x, hx, ex⟩ := at_lt hlt
      have hpx : p x = false := by
        cases h : p x
        · rfl
        · have : x ∈ s.cs.filter p := List.mem_filter.2 ⟨List.mem_of_getElem? hx, h⟩
          rw [hL] at this; cases this
      have hne : ¬ (k : Int) = -1 := by omega
      have hat := filter_at (q := fun x => !p x) hx (by simp [hpx])
      obtain ⟨O, hO⟩ : ∃ O, ((s.cs.take k).filter fun x => !p x).length = O := ⟨_, rfl⟩
      have hO2 : O < s.cs.length := by rw [← hO]; exact Nat.lt_of_le_of_lt (List.length_filter_le _ _) (by simp; omega)
      rw [hO] at hat
      have hCO : C[O]? = some x.conn := by rw [← hCC]; simp only [closeI, List.getElem?_map, hat]; rfl
      have hOl : O < C.length := lt_some hCO
      have hOl2 : ¬ C.length ≤ O := by omega
      have eO : C[O] = x.conn := by rw [List.getElem?_eq_getElem hOl] at hCO; exact Option.some.inj hCO
      have hOn : ((s.cs.take (k + 1)).filter fun x => !p x).length = O + 1 := by rw [List.take_add_one, hx, List.filter_append]; simp [hpx, hO]
      simp only [hO]
      simp [hlt, ex, hne]
      refine (good_m s now x (hsm x (List.mem_of_getElem? hx))).mono ?_
      rintro _ rfl
      rw [hp, hpx]
      simp [hOl, hOl2, eO]
      refine ⟨by kernel_rfl, ?_⟩
      have w2 : IntKind.i64.wrap ((O : Int) + 1) = ((O + 1 : Nat) : Int) := by rw [wrap_succ (n := s.cs.length) (by omega) hl]; omega
      simp [wrap_succ hlt hl, w2]
      refine ⟨_, ?_, _, ⟨k + 1, rfl, hlt, rfl⟩, [], _, rfl, by simp [hOn]⟩
      omega
    obtain rfl : k = s.cs.length := by omega
    have hCl : (s.cs.filter fun x => !p x).length = C.length := by rw [← hCC]; simp [closeI]
    simp [hCl]
    refine awake_m.mono ?_
    rintro _ rfl
    simp
    refine vcRet_of [] ?_ rfl
    simp
  · have e := take_some (y := y) (L := (s.cs.take j).filter p) hc (by rw [left, hp, ← hL, List.take_length])
    rw [hC] at e
    obtain ⟨T, hT⟩ : ∃ T, (s.cs.take j).filter p = T := ⟨_, rfl⟩
    have hTl : (T.length : Int) ≤ s.most := by
      have h1 := chk_len hs
      have h2 : T.length ≤ s.cs.length := by rw [← hT]; exact Nat.le_trans (List.length_filter_le _ _) (by simp; omega)
      omega
    rw [hT] at e hL
    refine (take_v e hl).mono ?_
    rintro _ rfl
    simp
    refine vc_loop (fun m σ => ∃ k : Nat, m = s.cs.length - k ∧ k ≤ s.cs.length ∧ σ = ⟨157, [(10, .i k), (9, .i (lastTo p s.cs k)), (1, .i now), (2, .ptr 2 0), (5, .ptr 5 0), (6, .ptr 6 0), (7, .d (nl C)), (8, .i 0)], [(2, s.box), (5, .box 24 [.i s.most, .i s.idle, .i s.age, .d (cl T)]), (6, .box 29 [.i y.conn, .i y.born, .i y.since])]⟩) ?_ ?_
    · exact ⟨_, _, ⟨0, rfl, Nat.zero_le _, rfl⟩, [], _, rfl, by simp [lastTo]⟩
    rintro m σ ⟨k, rfl, hk, rfl⟩
    by_cases hlt : k < s.cs.length
    · obtain ⟨x, hx, ex⟩ := at_lt hlt
      simp [hlt, ex]
      refine effCall (good_m s now x (hsm x (List.mem_of_getElem? hx))) ?_
      rw [hp]
      cases hpx : p x
      · simp [hlt, ex]
        refine ⟨by kernel_rfl, ?_⟩
        simp [wrap_succ hlt hl]
        refine ⟨_, ?_, _, ⟨k + 1, rfl, hlt, rfl⟩, [], _, rfl, by simp [lastTo_succ hx, hpx]⟩
        omega
      · simp [hlt, ex]
        refine ⟨by kernel_rfl, ?_⟩
        simp [wrap_succ hlt hl]
        refine ⟨_, ?_, _, ⟨k + 1, rfl, hlt, rfl⟩, [], _, rfl, by simp [lastTo_succ hx, hpx]⟩
        omega
    obtain rfl : k = s.cs.length := by omega
    have hTn : ¬ s.most < (T.length : Int) := by omega
    have ey : s.cs[j] = y := by rw [List.getElem?_eq_getElem hj] at hy; exact Option.some.inj hy
    simp [hb, hTn, hj, ey]
    refine ⟨by kernel_rfl, ?_⟩
    refine vc_loop (fun m σ => ∃ k : Nat, m = s.cs.length - k ∧ k ≤ s.cs.length ∧ σ = ⟨157, [(13, .i k), (11, .i (((s.cs.take (min k j)).filter p).length : Nat)), (12, .i (((s.cs.take k).filter fun x => !p x).length : Nat)), (9, .i j), (1, .i now), (2, .ptr 2 0), (5, .ptr 5 0), (6, .ptr 6 0), (7, .d (nl C)), (8, .i 0)], [(2, s.box), (5, .box 24 [.i s.most, .i s.idle, .i s.age, .d (cl T)]), (6, .box 29 [.i y.conn, .i y.born, .i y.since])]⟩) ?_ ?_
    · exact ⟨_, _, ⟨0, rfl, Nat.zero_le _, rfl⟩, [], _, rfl, by simp⟩
    rintro m σ ⟨k, rfl, hk, rfl⟩
    by_cases hlt : k < s.cs.length
    · obtain ⟨x, hx, ex⟩ := at_lt hlt
      obtain ⟨O, hO⟩ : ∃ O, ((s.cs.take k).filter fun x => !p x).length = O := ⟨_, rfl⟩
      obtain ⟨A, hA⟩ : ∃ A, ((s.cs.take (min k j)).filter p).length = A := ⟨_, rfl⟩
      have hO2 : O ≤ k := by rw [← hO]; exact Nat.le_trans (List.length_filter_le _ _) (by simp; omega)
      have hA2 : A ≤ k := by rw [← hA]; exact Nat.le_trans (List.length_filter_le _ _) (by simp; omega)
      by_cases hkj : k = j
      · subst hkj
        rw [hx] at hy; cases hy
        have hOn : ((s.cs.take (k + 1)).filter fun x => !p x).length = O := by rw [List.take_add_one, hx, List.filter_append]; simp [hpy, hO]
        have hAn : ((s.cs.take k).filter p).length = A := by rw [← hA, Nat.min_self]
        simp only [hO, hA]
        simp [hlt, ex, wrap_succ hlt hl]
        refine ⟨_, ?_, _, ⟨k + 1, rfl, hlt, rfl⟩, [], _, rfl, by simp [hOn, hAn]⟩
        omega
      have hne : ¬ (k : Int) = (j : Int) := by omega
      cases hpx : p x
      · have hat := filter_at (q := fun x => !p x) hx (by simp [hpx])
        rw [hO] at hat
        have hCO : C[O]? = some x.conn := by rw [← hCC]; simp only [closeI, List.getElem?_map, hat]; rfl
        have hOl : O < C.length := lt_some hCO
        have hOl2 : ¬ C.length ≤ O := by omega
        have eO : C[O] = x.conn := by rw [List.getElem?_eq_getElem hOl] at hCO; exact Option.some.inj hCO
        have hOn : ((s.cs.take (k + 1)).filter fun x => !p x).length = O + 1 := by rw [List.take_add_one, hx, List.filter_append]; simp [hpx, hO]
        have hAn : ((s.cs.take (min (k + 1) j)).filter p).length = A := by
          rw [← hA]
          by_cases h : k < j
          · rw [show min (k + 1) j = k + 1 by omega, show min k j = k by omega, List.take_add_one, hx, List.filter_append]; simp [hpx]
          · congr 3; omega
        simp only [hO, hA]
        simp [hlt, ex, hne]
        refine (good_m s now x (hsm x (List.mem_of_getElem? hx))).mono ?_
        rintro _ rfl
        rw [hp, hpx]
        simp [hOl, hOl2, eO]
        refine ⟨by kernel_rfl, ?_⟩
        have w2 : IntKind.i64.wrap ((O : Int) + 1) = ((O + 1 : Nat) : Int) := by rw [wrap_succ (n := s.cs.length) (by omega) hl]; omega
        simp [wrap_succ hlt hl, w2]
        refine ⟨_, ?_, _, ⟨k + 1, rfl, hlt, rfl⟩, [], _, rfl, by simp [hOn, hAn]⟩
        omega
      · have hkj2 : k < j := by
          rcases Nat.lt_or_ge k j with h | h
          · exact h
          · rw [hafter k x (by omega) hlt hx] at hpx; cases hpx
        have hat : T[A]? = some x := by
          have h1 : (s.cs.take j)[k]? = some x := by rw [List.getElem?_take, if_pos hkj2, hx]
          have := filter_at (q := p) h1 hpx
          rw [List.take_take, hT, hA] at this
          exact this
        have hAl : A < T.length := lt_some hat
        have hAl2 : ¬ T.length ≤ A := by omega
        have eA : T[A] = x := by rw [List.getElem?_eq_getElem hAl] at hat; exact Option.some.inj hat
        have hOn : ((s.cs.take (k + 1)).filter fun x => !p x).length = O := by rw [List.take_add_one, hx, List.filter_append]; simp [hpx, hO]
        have hAn : ((s.cs.take (min (k + 1) j)).filter p).length = A + 1 := by
          rw [← hA, show min (k + 1) j = k + 1 by omega, show min k j = k by omega, List.take_add_one, hx, List.filter_append]; simp [hpx]
        simp only [hO, hA]
        simp [hlt, ex, hne]
        refine (good_m s now x (hsm x (List.mem_of_getElem? hx))).mono ?_
        rintro _ rfl
        rw [hp, hpx]
        simp [hAl, hAl2, eA]
        refine ⟨by kernel_rfl, ?_⟩
        have w2 : IntKind.i64.wrap ((A : Int) + 1) = ((A + 1 : Nat) : Int) := by rw [wrap_succ (n := s.cs.length) (by omega) hl]; omega
        simp [wrap_succ hlt hl, w2]
        refine ⟨_, ?_, _, ⟨k + 1, rfl, hlt, rfl⟩, [], _, rfl, by simp [hOn, hAn]⟩
        omega
    obtain rfl : k = s.cs.length := by omega
    have hCl : (s.cs.filter fun x => !p x).length = C.length := by rw [← hCC]; simp [closeI]
    have hTl2 : ((s.cs.take (min s.cs.length j)).filter p).length = T.length := by rw [show min s.cs.length j = j by omega, hT]
    simp only [hTl2]
    simp [hCl]
    refine awake_m.mono ?_
    rintro _ rfl
    simp
    refine vcRet_of [] ?_ rfl
    simp
end Go.Proofs.Ytjbpkibhkaagjaa
