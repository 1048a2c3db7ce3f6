/- Contracts: the examples' state, and the calls that return what the document says of them. No condition. -/
import Derived.Test.YtjbpkibhkaagjaaI9
namespace Go.Proofs.Ytjbpkibhkaagjaa
open Go.RowKit

theorem put_v {s t : St} {n b now e : Int} {l : List Int} (h : put s n b now = (t, l, e)) (hl : s.cs.length < 4294967296 := by decide) : Meets Try.prog 19 [s.pv, .i n, .i b, .i now] [] (Ret (.tup [t.pv, .d (nl l), .i e])) := by
  have := put_m s n b now hl
  rw [h] at this
  exact this
theorem new_v {s : St} {m i a e : Int} (h : new m i a = (s, e)) : Meets Try.prog 21 [.i m, .i i, .i a] [] (Ret (.tup [s.pv, .i e])) := by
  have := new_m m i a
  rw [h] at this
  exact this
theorem take_v {s t : St} {c : Cn} {now e : Int} {l : List Int} (h : take s now = (t, c, l, e)) (hl : s.cs.length < 4294967296 := by decide) : Meets Try.prog 12 [s.pv, .i now] [] (Ret (.tup [t.pv, c.pv, .d (nl l), .i e])) := by
  have := take_m s now hl
  rw [h] at this
  exact this
theorem reap_v {s t : St} {now e : Int} {l : List Int} (h : reap s now = (t, l, e)) (hl : s.cs.length < 4294967296 := by decide) : Meets Try.prog 16 [s.pv, .i now] [] (Ret (.tup [t.pv, .d (nl l), .i e])) := by
  have := reap_m s now hl
  rw [h] at this
  exact this
theorem usable_v {s : St} {now e : Int} {l : List Int} (h : usable s now = (l, e)) (hl : s.cs.length < 4294967296 := by decide) : Meets Try.prog 17 [s.pv, .i now] [] (Ret (.tup [.d (nl l), .i e])) := by
  have := usable_m s now hl
  rw [h] at this
  exact this
theorem next_v {s : St} {a e : Int} (h : next s = (a, e)) (hl : s.cs.length < 4294967296 := by decide) : Meets Try.prog 15 [s.pv] [] (Ret (.tup [.i a, .i e])) := by
  have := next_m s hl
  rw [h] at this
  exact this
abbrev s1 : St := ⟨2, 10, 100, [⟨1, 0, 5⟩]⟩
abbrev s2 : St := ⟨2, 10, 100, [⟨1, 0, 5⟩, ⟨2, 3, 6⟩]⟩
abbrev s3 : St := ⟨2, 10, 100, [⟨2, 3, 6⟩, ⟨3, 6, 6⟩]⟩
theorem same_v {xs ys : List Int} (h : xs = ys) (hl : xs.length < 4294967296 := by decide) : Meets Try.prog 20 [.d (nl xs), .d (nl ys)] [] (Ret (.b true)) := by
  have := sameNumbers_m xs ys hl
  rw [decide_eq_true h] at this
  exact this
set_option maxRecDepth 20000 in
set_option maxHeartbeats 2000000 in
theorem three_m : Meets Try.prog 18 [] [] (Ret (.tup [s3.pv, .b true])) := by
  refine meetsH [] tbOk mixed Try.func18 pl18 rfl rfl ?_
  simp [Try.ntmps18]
  refine (new_v (s := ⟨2, 10, 100, []⟩) (e := 0) (by kernel_rfl)).mono ?_
  rintro _ rfl
  simp
  refine (put_v (s := ⟨2, 10, 100, []⟩) (t := s1) (l := []) (e := 0) (by kernel_rfl)).mono ?_
  rintro _ rfl
  simp
  refine (put_v (s := s1) (t := s2) (l := []) (e := 0) (by kernel_rfl)).mono ?_
  rintro _ rfl
  simp
  refine (put_v (s := s2) (t := s3) (l := [1]) (e := 0) (by kernel_rfl)).mono ?_
  rintro _ rfl
  simp
  refine effCall (same_v (xs := [1]) (ys := [1]) rfl) ?_
  simp
  refine ⟨by kernel_rfl, vcRet_of [] ?_ rfl⟩
  simp
set_option maxRecDepth 20000 in
set_option maxHeartbeats 2000000 in
theorem awake_m : Meets Try.prog 11 [] [] (Ret (.b true)) := by
  refine meetsH [] tbOk mixed Try.func11 pl11 rfl rfl ?_
  simp [Try.ntmps11]
  refine three_m.mono ?_
  rintro _ rfl
  simp
  refine (usable_v (s := s3) (l := [3, 2]) (e := 0) (by kernel_rfl)).mono ?_
  rintro _ rfl
  simp
  refine (next_v (s := s3) (a := 16) (e := 0) (by kernel_rfl)).mono ?_
  rintro _ rfl
  simp
  refine (take_v (s := s3) (t := ⟨2, 10, 100, [⟨2, 3, 6⟩]⟩) (c := ⟨3, 6, 6⟩) (l := []) (e := 0) (by kernel_rfl)).mono ?_
  rintro _ rfl
  simp
  refine (same_v (xs := [3, 2]) (ys := [3, 2]) rfl).mono ?_
  rintro _ rfl
  simp
  refine vcRet_of [] ?_ rfl
  simp
set_option maxRecDepth 20000 in
set_option maxHeartbeats 2000000 in
theorem known_m : Meets Try.prog 5 [] [] (Ret (.b true)) := by
  refine meetsH [] tbOk mixed Try.func5 pl5 rfl rfl ?_
  simp [Try.ntmps5]
  refine three_m.mono ?_
  rintro _ rfl
  simp
  refine (usable_v (s := s3) (l := []) (e := 0) (by kernel_rfl)).mono ?_
  rintro _ rfl
  simp
  refine (take_v (s := s3) (t := ⟨2, 10, 100, [⟨2, 3, 6⟩]⟩) (c := ⟨3, 6, 6⟩) (l := []) (e := 0) (by kernel_rfl)).mono ?_
  rintro _ rfl
  simp
  refine (take_v (s := ⟨2, 10, 100, [⟨2, 3, 6⟩]⟩) (t := ⟨2, 10, 100, []⟩) (c := ⟨0, 0, 0⟩) (l := [2]) (e := 4) (by kernel_rfl)).mono ?_
  rintro _ rfl
  simp
  refine (put_v (s := ⟨2, 10, 100, []⟩) (t := ⟨2, 10, 100, []⟩) (l := [4]) (e := 0) (by kernel_rfl)).mono ?_
  rintro _ rfl
  simp
  refine (same_v (xs := [2]) (ys := [2]) rfl).mono ?_
  rintro _ rfl
  simp
  refine (same_v (xs := [4]) (ys := [4]) rfl).mono ?_
  rintro _ rfl
  simp
  refine awake_m.mono ?_
  rintro _ rfl
  simp
  refine vcRet_of [] ?_ rfl
  simp
end Go.Proofs.Ytjbpkibhkaagjaa
