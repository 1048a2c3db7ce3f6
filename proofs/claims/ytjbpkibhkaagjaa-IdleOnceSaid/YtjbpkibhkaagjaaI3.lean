/- Contracts: New, split, Reap, and the reference's. No condition. -/
import Derived.Test.YtjbpkibhkaagjaaI2
namespace Go.Proofs.Ytjbpkibhkaagjaa
open Go.RowKit

set_option maxHeartbeats 1000000 in
theorem new_m (m i a : Int) : Meets Try.prog 21 [.i m, .i i, .i a] [] (Ret (.tup [(new m i a).1.pv, .i (new m i a).2])) := by
  refine meetsH [] tbOk mixed Try.func21 pl21 rfl rfl ?_
  simp [Try.ntmps21]
  refine (numbers_g m i a (.v (.slice none 0 0))).mono ?_
  rintro _ rfl
  cases hr : nums m i a
  · simp
    refine vcRet_of [] ?_ rfl
    simp [new, hr]
  · simp
    refine vcRet_of [] ?_ rfl
    simp [new, hr]
theorem refNew_m (m i a : Int) : Meets Try.prog 23 [.i m, .i i, .i a] [] (Ret (.tup [(new m i a).1.pv, .i (new m i a).2])) := by
  refine meetsH [] tbOk mixed Try.func23 pl23 rfl rfl ?_
  simp [Try.ntmps23]
  refine (refNumbers_m m i a).mono ?_
  rintro _ rfl
  cases hr : nums m i a
  · simp
    refine vcRet_of [] ?_ rfl
    simp [new, hr]
  · simp
    refine vcRet_of [] ?_ rfl
    simp [new, hr]
/-- Numbers small enough that nothing wraps. -/
def Small (i a now : Int) (x : Cn) : Prop := 0 ≤ x.since ∧ x.since ≤ 1000000000000 ∧ 0 ≤ x.born ∧ x.born ≤ 1000000000000 ∧ 0 ≤ now ∧ now ≤ 1000000000000
theorem small_wrap {a : Int} (h : -4000000000000 ≤ a ∧ a ≤ 4000000000000) : IntKind.i64.wrap a = a := IntWalk.i64_in _ (by omega)
theorem reap1_m (s : St) (now : Int) (x : Cn) (h : Small s.idle s.age now x) : Meets Try.prog 33 [x.pv, .ptr 1000000 0, .ptr 1000001 0] [.box 2 [.i now], s.box] (fun r => r = ⟨.b (good s.idle s.age now x), [.box 2 [.i now], s.box], []⟩) := by
  refine meetsH [] tbOk mixed Try.func33 pl33 rfl rfl ?_
  obtain ⟨h1, h2, h3, h4, h5, h6⟩ := h
  have w1 := small_wrap (a := now - x.since) (by omega)
  have w2 := small_wrap (a := now - x.born) (by omega)
  by_cases hg : now - x.since < s.idle
  · simp [Try.ntmps33, w1, w2, hg]
    refine vcRet_of [] ?_ rfl
    simp [good, hg]
  · simp [Try.ntmps33, w1, w2, hg]
    refine vcRet_of [] ?_ rfl
    simp [good, hg]
@[simp] def cns (l : List Cn) : List Int := l.map Cn.conn
set_option maxHeartbeats 1000000 in
theorem split_2 (s : St) (now : Int) (xs : List Cn) (hl : xs.length < 4294967296) (hs : ∀ x ∈ xs, Small s.idle s.age now x) :
    Meets Try.prog 32 [.d (cl xs), .clo 33 [.ptr 1000000 0, .ptr 1000001 0]] [.box 2 [.i now], s.box] (fun r => r = ⟨.tup [.d (cl (xs.filter (good s.idle s.age now))), .d (nl (cns (xs.filter fun x => !good s.idle s.age now x)))], [.box 2 [.i now], s.box], []⟩) := by
  refine meetsH [] tbOk mixed Try.func32 pl32 rfl rfl ?_
  simp [Try.ntmps32]
  obtain ⟨p, hp⟩ : ∃ p, good s.idle s.age now = p := ⟨_, rfl⟩
  simp only [hp]
  refine vc_loop (fun m σ => ∃ k : Nat, m = xs.length - k ∧ k ≤ xs.length ∧ σ = ⟨29, [(10, .i k), (9, .i xs.length), (8, .d (cl xs)), (4, .rw 4 ((xs.take k).filter p).length), (5, .rw 5 ((xs.take k).filter fun x => !p x).length), (1, .clo 33 [.ptr 1000000 0, .ptr 1000001 0])],
    [(1000000, .box 2 [.i now]), (1000001, s.box), (4, .row 29 3 (((xs.take k).filter p).map Cn.ds) false), (5, .row 2 1 ((((xs.take k).filter fun x => !p x).map Cn.conn).map nds) false)]⟩) ?_ ?_
  · exact ⟨_, _, ⟨0, rfl, Nat.zero_le _, rfl⟩, [.row 4 29 3, .row 5 2 1], _, rfl, by simp⟩
  rintro m σ ⟨k, rfl, hk, rfl⟩
  by_cases hlt : k < xs.length
  · obtain ⟨x, hx, e⟩ := at_lt hlt
    have hf1 := List.length_filter_le p (xs.take k)
    have hf2 := List.length_filter_le (fun x : Cn => !p x) (xs.take k)
    rw [List.length_take] at hf1 hf2
    simp [hlt, e]
    refine (reap1_m s now x (hs x (List.mem_of_getElem? hx))).mono ?_
    rintro _ rfl
    rw [hp]
    cases hd : p x
    · simp [wrap_succ hlt hl]
      refine ⟨by omega, _, ?_, _, ⟨k + 1, rfl, hlt, rfl⟩, [], _, rfl, by simp [List.take_add_one, hx, hd]⟩
      omega
    · simp [wrap_succ hlt hl]
      refine ⟨by omega, _, ?_, _, ⟨k + 1, rfl, hlt, rfl⟩, [], _, rfl, by simp [List.take_add_one, hx, hd]⟩
      omega
  obtain rfl : k = xs.length := by omega
  simp
  refine vcRet_of [] ?_ rfl
  simp
  exact ⟨List.take_of_length_le (by simp), List.take_of_length_le (by simp)⟩
theorem small_of {s : St} {now : Int} (h : rdy s now = 0) : ∀ x ∈ s.cs, Small s.idle s.age now x := fun x hx => by
  have h1 := chk_mem (rdy_chk h) hx
  have h2 : badTime s now = false := by
    unfold rdy at h
    rw [if_neg (by rw [rdy_chk h]; simp)] at h
    cases hb : badTime s now
    · rfl
    · rw [hb] at h; simp at h
  have h3 : 0 ≤ now ∧ now ≤ 1000000000000 := by simp [badTime] at h2; omega
  exact ⟨by omega, by omega, by omega, by omega, h3.1, h3.2⟩
set_option maxHeartbeats 1000000 in
theorem reap_m (s : St) (now : Int) (hl : s.cs.length < 4294967296) : Meets Try.prog 16 [s.pv, .i now] [] (Ret (.tup [(reap s now).1.pv, .d (nl (reap s now).2.1), .i (reap s now).2.2])) := by
  refine meetsH [] tbOk mixed Try.func16 pl16 rfl rfl ?_
  simp [Try.ntmps16]
  refine (ready_m s now hl).mono ?_
  rintro _ rfl
  by_cases hc : rdy s now = 0
  case neg =>
    simp [hc]
    refine vcRet_of [] ?_ rfl
    simp [reap, hc]
  simp [hc]
  refine (split_2 s now s.cs hl (small_of hc)).mono ?_
  rintro _ rfl
  simp
  refine vcRet_of [] ?_ rfl
  simp [reap, hc, left, shut]
theorem usable1_m (s : St) (now : Int) (x : Cn) (h : Small s.idle s.age now x) : Meets Try.prog 56 [s.pv, x.pv, .i now] [] (Ret (.b (good s.idle s.age now x))) := by
  refine meetsH [] tbOk mixed Try.func56 pl56 rfl rfl ?_
  obtain ⟨h1, h2, h3, h4, h5, h6⟩ := h
  have w1 := small_wrap (a := now - x.since) (by omega)
  have w2 := small_wrap (a := now - x.born) (by omega)
  by_cases hg : now - x.since < s.idle
  · simp [Try.ntmps56, w1, w2, hg]
    refine vcRet_of [] ?_ rfl
    simp [good, hg]
  · simp [Try.ntmps56, w1, w2, hg]
    refine vcRet_of [] ?_ rfl
    simp [good, hg]
theorem good_m (s : St) (now : Int) (x : Cn) (h : Small s.idle s.age now x) : Meets Try.prog 14 [s.pv, x.pv, .i now] [] (Ret (.b (good s.idle s.age now x))) := by
  refine meetsH [] tbOk mixed Try.func14 pl14 rfl rfl ?_
  obtain ⟨h1, h2, h3, h4, h5, h6⟩ := h
  have w1 := small_wrap (a := now - x.since) (by omega)
  have w2 := small_wrap (a := now - x.born) (by omega)
  by_cases hg : now - x.since < s.idle
  · simp [Try.ntmps14, w1, w2, hg]
    refine vcRet_of [] ?_ rfl
    simp [good, hg]
  · simp [Try.ntmps14, w1, w2, hg]
    refine vcRet_of [] ?_ rfl
    simp [good, hg]
set_option maxHeartbeats 1000000 in
theorem refReapIn_m (s : St) (now : Int) (hl : s.cs.length < 4294967296) (hs : ∀ x ∈ s.cs, Small s.idle s.age now x) : Meets Try.prog 54 [s.pv, .i now] [] (Ret (.tup [(⟨s.most, s.idle, s.age, left s now⟩ : St).pv, .d (nl (shut s now))])) := by
  refine meetsH [] tbOk mixed Try.func54 pl54 rfl rfl ?_
  simp [Try.ntmps54]
  obtain ⟨p, hp⟩ : ∃ p, good s.idle s.age now = p := ⟨_, rfl⟩
  refine vc_loop (fun m σ => ∃ k : Nat, m = s.cs.length - k ∧ k ≤ s.cs.length ∧ σ = ⟨45, [(8, .i k), (6, .rw 6 ((s.cs.take k).filter p).length), (7, .rw 7 ((s.cs.take k).filter fun x => !p x).length), (1, .i now), (2, .ptr 2 0), (4, .ptr 4 0), (5, .d (.v (.slice none 0 0)))],
    [(2, s.box), (4, .box 24 [.i 0, .i 0, .i 0, .d (.v (.slice none 0 0))]), (6, .row 29 3 (((s.cs.take k).filter p).map Cn.ds) false), (7, .row 2 1 ((((s.cs.take k).filter fun x => !p x).map Cn.conn).map nds) false)]⟩) ?_ ?_
  · exact ⟨_, _, ⟨0, rfl, Nat.zero_le _, rfl⟩, [.row 6 29 3, .row 7 2 1], _, rfl, by simp⟩
  rintro m σ ⟨k, rfl, hk, rfl⟩
  by_cases hlt : k < s.cs.length
  · obtain ⟨x, hx, e⟩ := at_lt hlt
    have hf1 := List.length_filter_le p (s.cs.take k)
    have hf2 := List.length_filter_le (fun x : Cn => !p x) (s.cs.take k)
    rw [List.length_take] at hf1 hf2
    simp [hlt, e]
    refine effCall (usable1_m s now x (hs x (List.mem_of_getElem? hx))) ?_
    rw [hp]
    cases hd : p x
    · simp [hlt, e]
      refine ⟨by kernel_rfl, ?_⟩
      simp [wrap_succ hlt hl, hlt, e]
      refine ⟨by omega, _, ?_, _, ⟨k + 1, rfl, hlt, rfl⟩, [], _, rfl, by simp [List.take_add_one, hx, hd]⟩
      omega
    · simp [hlt, e]
      refine ⟨by kernel_rfl, ?_⟩
      simp [wrap_succ hlt hl, hlt, e]
      refine ⟨by omega, _, ?_, _, ⟨k + 1, rfl, hlt, rfl⟩, [], _, rfl, by simp [List.take_add_one, hx, hd]⟩
      omega
  obtain rfl : k = s.cs.length := by omega
  simp
  refine vcRet_of [] ?_ rfl
  simp [left, shut, hp]
  exact ⟨List.take_of_length_le (by simp), List.take_of_length_le (by simp)⟩
theorem refReap_m (s : St) (now : Int) (hl : s.cs.length < 4294967296) : Meets Try.prog 40 [s.pv, .i now] [] (Ret (.tup [(reap s now).1.pv, .d (nl (reap s now).2.1), .i (reap s now).2.2])) := by
  refine meetsH [] tbOk mixed Try.func40 pl40 rfl rfl ?_
  simp [Try.ntmps40]
  refine (at_m s now hl).mono ?_
  rintro _ rfl
  by_cases hc : rdy s now = 0
  case neg =>
    simp [hc]
    refine vcRet_of [] ?_ rfl
    simp [reap, hc]
  simp [hc]
  refine (refReapIn_m s now hl (small_of hc)).mono ?_
  rintro _ rfl
  simp
  refine vcRet_of [] ?_ rfl
  simp [reap, hc]
end Go.Proofs.Ytjbpkibhkaagjaa
