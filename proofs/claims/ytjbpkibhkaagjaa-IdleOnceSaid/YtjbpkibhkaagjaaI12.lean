/- Contract: the statement IdleNext. No condition. -/
import Derived.Test.YtjbpkibhkaagjaaI11
import Derived.Test.YtjbpkibhkaagjaaQ1
namespace Go.Proofs.Ytjbpkibhkaagjaa
open Go.RowKit

set_option maxRecDepth 20000 in
set_option maxHeartbeats 8000000 in
theorem nexts_m (s : St) (now : Int) : Meets Try.prog 4 [s.pv, .i now] [] (Ret (.b true)) := by
  refine meetsH [] tbOk mixed Try.func4 pl4 rfl rfl ?_
  by_cases h200 : (200 : Int) < s.cs.length
  · simp [Try.ntmps4, h200]
    refine awake_m.mono ?_
    rintro _ rfl
    simp
    refine vcRet_of [] ?_ rfl
    simp
  have hl : s.cs.length < 4294967296 := by omega
  simp [Try.ntmps4, h200]
  refine (refCheck_m s hl).mono ?_
  rintro _ rfl
  by_cases hs : chk s = 0
  case neg =>
    simp [hs]
    refine awake_m.mono ?_
    rintro _ rfl
    simp
    refine vcRet_of [] ?_ rfl
    simp
  simp [hs]
  obtain ⟨a, ha⟩ : ∃ a, least s s.cs = a := ⟨_, rfl⟩
  by_cases h9 : 1000000000000 < a
  · have hn : next s = (0, 4) := by simp [next, hs, ha, h9]
    refine (next_v hn hl).mono ?_
    rintro _ rfl
    simp
    by_cases hc : rdy s now = 0
    case neg =>
      have h7 := rdy_7 hs hc
      have e : reap s now = (s, [], 7) := by simp [reap, h7]
      refine (reap_v e hl).mono ?_
      rintro _ rfl
      simp
      refine (same_m s s hl).mono ?_
      rintro _ rfl
      simp
      refine awake_m.mono ?_
      rintro _ rfl
      simp
      refine vcRet_of [] ?_ rfl
      simp
    have hA := At.of_rdy hc
    have hsh : shut s now = [] := (least_lt hA.hi).1 (by have := hA.hi; omega)
    obtain ⟨L, hL⟩ : ∃ L, left s now = L := ⟨_, rfl⟩
    have hLl : L.length < 4294967296 := hL ▸ take_len hl
    have hr := hA.reap
    have hA2 := hA.sub (left_sub s now)
    have hr2 := hA2.reap
    rw [left_left, shut_left, hL] at hr2
    rw [hL, hsh] at hr
    have hu : usable s now = ((cns L).reverse, 0) := by simp [usable, hc, hL]
    refine (reap_v hr hl).mono ?_
    rintro _ rfl
    simp
    refine (reap_v (s := ⟨s.most, s.idle, s.age, L⟩) hr2 hLl).mono ?_
    rintro _ rfl
    simp
    refine (same_m ⟨s.most, s.idle, s.age, L⟩ ⟨s.most, s.idle, s.age, L⟩ hLl).mono ?_
    rintro _ rfl
    simp
    obtain ⟨U, hU⟩ : ∃ U, (cns L).reverse = U := ⟨_, rfl⟩
    have hUl : U.length = L.length := by rw [← hU]; simp
    rw [hU] at hu
    refine (usable_v hu hl).mono ?_
    rintro _ rfl
    simp [hUl]
    refine vc_loop (fun m σ => ∃ k : Nat, m = L.length - k ∧ k ≤ L.length ∧ σ = ⟨165, [(14, .i k), (12, .d (nl U)), (1, .i now), (2, .ptr 2 0), (5, .i 0), (6, .i 4), (7, .ptr 7 0)], [(2, s.box), (7, .box 24 [.i s.most, .i s.idle, .i s.age, .d (cl L)])]⟩) ?_ ?_
    · exact ⟨_, _, ⟨0, rfl, Nat.zero_le _, rfl⟩, [], _, rfl, by simp⟩
    rintro m σ ⟨k, rfl, hk, rfl⟩
    by_cases hlt : k < L.length
    · obtain ⟨q, hq⟩ : ∃ q, q + 1 + k = L.length := ⟨L.length - 1 - k, by omega⟩
      have hql : q < L.length := by omega
      obtain ⟨x, hx, ex⟩ := at_lt hql
      have hUk : U[k]? = some x.conn := by
        rw [← hU, List.getElem?_reverse (by simpa using hlt)]
        simp only [cns, List.length_map, List.getElem?_map, show L.length - 1 - k = q by omega, hx]; rfl
      have hUlt : k < U.length := lt_some hUk
      have eU : U[k] = x.conn := by rw [List.getElem?_eq_getElem hUlt] at hUk; exact Option.some.inj hUk
      have w1 := small_wrap (a := (L.length : Int) - 1) (by omega)
      have w2 : IntKind.i64.wrap ((L.length : Int) - 1 - k) = (q : Int) := by rw [small_wrap (by omega)]; omega
      simp [hUl, hlt, hUlt, w1, w2, hql, ex, eU]
      refine ⟨by kernel_rfl, ?_⟩
      simp [wrap_succ hlt hLl]
      refine ⟨_, ?_, _, ⟨k + 1, rfl, hlt, rfl⟩, [], _, rfl, by simp⟩
      omega
    obtain rfl : k = L.length := by omega
    simp [hUl]
    refine awake_m.mono ?_
    rintro _ rfl
    simp
    refine vcRet_of [] ?_ rfl
    simp
  · have hn : next s = (a, 0) := by simp [next, hs, ha, h9]
    refine (next_v hn hl).mono ?_
    rintro _ rfl
    simp
    by_cases hc : rdy s now = 0
    case neg =>
      have h7 := rdy_7 hs hc
      have e : reap s now = (s, [], 7) := by simp [reap, h7]
      refine (reap_v e hl).mono ?_
      rintro _ rfl
      simp
      refine (same_m s s hl).mono ?_
      rintro _ rfl
      simp
      refine awake_m.mono ?_
      rintro _ rfl
      simp
      refine vcRet_of [] ?_ rfl
      simp
    by_cases han : a ≤ now
    · have hA := At.of_rdy hc
      have hsh : shut s now ≠ [] := fun h => by have := (least_lt hA.hi).2 h; omega
      obtain ⟨C, hC⟩ : ∃ C, shut s now = C := ⟨_, rfl⟩
      have hC0 : 0 < C.length := List.length_pos_iff.2 (hC ▸ hsh)
      obtain ⟨L, hL⟩ : ∃ L, left s now = L := ⟨_, rfl⟩
      have hLl : L.length < 4294967296 := hL ▸ take_len hl
      have hr := hA.reap
      have hA2 := hA.sub (left_sub s now)
      have hr2 := hA2.reap
      rw [left_left, shut_left, hL] at hr2
      rw [hL, hC] at hr
      have hu : usable s now = ((cns L).reverse, 0) := by simp [usable, hc, hL]
      refine (reap_v hr hl).mono ?_
      rintro _ rfl
      simp [hC0, han]
      refine (reap_v (s := ⟨s.most, s.idle, s.age, L⟩) hr2 hLl).mono ?_
      rintro _ rfl
      simp
      refine (same_m ⟨s.most, s.idle, s.age, L⟩ ⟨s.most, s.idle, s.age, L⟩ hLl).mono ?_
      rintro _ rfl
      simp
      obtain ⟨U, hU⟩ : ∃ U, (cns L).reverse = U := ⟨_, rfl⟩
      have hUl : U.length = L.length := by rw [← hU]; simp
      rw [hU] at hu
      refine (usable_v hu hl).mono ?_
      rintro _ rfl
      simp [hUl]
      refine vc_loop (fun m σ => ∃ k : Nat, m = L.length - k ∧ k ≤ L.length ∧ σ = ⟨165, [(14, .i k), (12, .d (nl U)), (1, .i now), (2, .ptr 2 0), (5, .i a), (6, .i 0), (7, .ptr 7 0)], [(2, s.box), (7, .box 24 [.i s.most, .i s.idle, .i s.age, .d (cl L)])]⟩) ?_ ?_
      · exact ⟨_, _, ⟨0, rfl, Nat.zero_le _, rfl⟩, [], _, rfl, by simp⟩
      rintro m σ ⟨k, rfl, hk, rfl⟩
      by_cases hlt : k < L.length
      · obtain ⟨q, hq⟩ : ∃ q, q + 1 + k = L.length := ⟨L.length - 1 - k, by omega⟩
        have hql : q < L.length := by omega
        obtain ⟨x, hx, ex⟩ := at_lt hql
        have hUk : U[k]? = some x.conn := by
          rw [← hU, List.getElem?_reverse (by simpa using hlt)]
          simp only [cns, List.length_map, List.getElem?_map, show L.length - 1 - k = q by omega, hx]; rfl
        have hUlt : k < U.length := lt_some hUk
        have eU : U[k] = x.conn := by rw [List.getElem?_eq_getElem hUlt] at hUk; exact Option.some.inj hUk
        have w1 := small_wrap (a := (L.length : Int) - 1) (by omega)
        have w2 : IntKind.i64.wrap ((L.length : Int) - 1 - k) = (q : Int) := by rw [small_wrap (by omega)]; omega
        simp [hUl, hlt, hUlt, w1, w2, hql, ex, eU]
        refine ⟨by kernel_rfl, ?_⟩
        simp [wrap_succ hlt hLl]
        refine ⟨_, ?_, _, ⟨k + 1, rfl, hlt, rfl⟩, [], _, rfl, by simp⟩
        omega
      obtain rfl : k = L.length := by omega
      have hna : ¬ now < a := by omega
      simp [hUl, hna, han]
      refine awake_m.mono ?_
      rintro _ rfl
      simp
      refine vcRet_of [] ?_ rfl
      simp
    have han2 : now < a := by omega
    have hA := At.of_rdy hc
    have hsh : shut s now = [] := (least_lt hA.hi).1 (by omega)
    obtain ⟨L, hL⟩ : ∃ L, left s now = L := ⟨_, rfl⟩
    have hLl : L.length < 4294967296 := hL ▸ take_len hl
    have hr := hA.reap
    have hA2 := hA.sub (left_sub s now)
    have hr2 := hA2.reap
    rw [left_left, shut_left, hL] at hr2
    rw [hL, hsh] at hr
    have hu : usable s now = ((cns L).reverse, 0) := by simp [usable, hc, hL]
    refine (reap_v hr hl).mono ?_
    rintro _ rfl
    simp [han]
    refine (reap_v (s := ⟨s.most, s.idle, s.age, L⟩) hr2 hLl).mono ?_
    rintro _ rfl
    simp
    refine (same_m ⟨s.most, s.idle, s.age, L⟩ ⟨s.most, s.idle, s.age, L⟩ hLl).mono ?_
    rintro _ rfl
    simp
    obtain ⟨U, hU⟩ : ∃ U, (cns L).reverse = U := ⟨_, rfl⟩
    have hUl : U.length = L.length := by rw [← hU]; simp
    rw [hU] at hu
    refine (usable_v hu hl).mono ?_
    rintro _ rfl
    simp [hUl]
    refine vc_loop (fun m σ => ∃ k : Nat, m = L.length - k ∧ k ≤ L.length ∧ σ = ⟨165, [(14, .i k), (12, .d (nl U)), (1, .i now), (2, .ptr 2 0), (5, .i a), (6, .i 0), (7, .ptr 7 0)], [(2, s.box), (7, .box 24 [.i s.most, .i s.idle, .i s.age, .d (cl L)])]⟩) ?_ ?_
    · exact ⟨_, _, ⟨0, rfl, Nat.zero_le _, rfl⟩, [], _, rfl, by simp⟩
    rintro m σ ⟨k, rfl, hk, rfl⟩
    by_cases hlt : k < L.length
    · obtain ⟨q, hq⟩ : ∃ q, q + 1 + k = L.length := ⟨L.length - 1 - k, by omega⟩
      have hql : q < L.length := by omega
      obtain ⟨x, hx, ex⟩ := at_lt hql
      have hUk : U[k]? = some x.conn := by
        rw [← hU, List.getElem?_reverse (by simpa using hlt)]
        simp only [cns, List.length_map, List.getElem?_map, show L.length - 1 - k = q by omega, hx]; rfl
      have hUlt : k < U.length := lt_some hUk
      have eU : U[k] = x.conn := by rw [List.getElem?_eq_getElem hUlt] at hUk; exact Option.some.inj hUk
      have w1 := small_wrap (a := (L.length : Int) - 1) (by omega)
      have w2 : IntKind.i64.wrap ((L.length : Int) - 1 - k) = (q : Int) := by rw [small_wrap (by omega)]; omega
      simp [hUl, hlt, hUlt, w1, w2, hql, ex, eU]
      refine ⟨by kernel_rfl, ?_⟩
      simp [wrap_succ hlt hLl]
      refine ⟨_, ?_, _, ⟨k + 1, rfl, hlt, rfl⟩, [], _, rfl, by simp⟩
      omega
    obtain rfl : k = L.length := by omega
    have w3 := small_wrap (a := a - 1) (by have := hA.lo; omega)
    have hA3 : At s (a - 1) := hA.later (by omega) (by omega)
    have hr3 := hA3.reap
    rw [(least_lt hA3.hi).1 (by omega)] at hr3
    have hA4 : At s a := hA.later (by omega) (by omega)
    have hr4 := hA4.reap
    obtain ⟨C, hC⟩ : ∃ C, shut s a = C := ⟨_, rfl⟩
    have hC0 : 0 < C.length := List.length_pos_iff.2 (hC ▸ fun h => by have := (least_lt hA4.hi).2 h; omega)
    rw [hC] at hr4
    simp [hUl, han2, han, w3]
    refine (reap_v hr3 hl).mono ?_
    rintro _ rfl
    simp
    refine (reap_v hr4 hl).mono ?_
    rintro _ rfl
    simp [hC0]
    refine awake_m.mono ?_
    rintro _ rfl
    simp
    refine vcRet_of [] ?_ rfl
    simp
end Go.Proofs.Ytjbpkibhkaagjaa
