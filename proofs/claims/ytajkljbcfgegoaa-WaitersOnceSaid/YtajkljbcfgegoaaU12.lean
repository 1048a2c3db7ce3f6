/- Contracts: the laws' three and awake. No condition. -/
import Derived.Test.YtajkljbcfgegoaaU11
namespace Go.Proofs.Ytajkljbcfgegoaa
open Go.RowKit

theorem join_v {s t : St} {n now dead e : Int} (hl : s.ws.length < 4294967296) (h : join s n now dead = (t, e)) : Meets Try.prog 17 [s.pv, .i n, .i now, .i dead] [] (Ret (.tup [t.pv, .i e])) := by
  have := join_m s n now dead hl
  rw [h] at this
  exact this
theorem serve_v {s t : St} {now e : Int} {x : Wt} (hl : s.ws.length < 4294967296) (h : serve s now = (t, x, e)) : Meets Try.prog 12 [s.pv, .i now] [] (Ret (.tup [t.pv, x.pv, .i e])) := by
  have := serve_m s now hl
  rw [h] at this
  exact this
theorem next_v {s : St} {r e : Int} (hl : s.ws.length < 4294967296) (h : next s = (r, e)) : Meets Try.prog 14 [s.pv] [] (Ret (.tup [.i r, .i e])) := by
  have := next_m s hl
  rw [h] at this
  exact this
def S3 : St := ⟨3, [⟨1, 5, 20⟩, ⟨2, 5, 10⟩, ⟨3, 6, 1000000000001⟩]⟩
set_option maxHeartbeats 2000000 in
theorem three_m : Meets Try.prog 16 [] [] (Ret (.tup [S3.pv, .b true])) := by
  refine meets tbOk mixed Try.func16 pl16 rfl rfl ?_
  simp [Try.ntmps16]
  refine (new_m 3).mono ?_
  rintro _ rfl
  have e0 : new 3 = (⟨3, []⟩, 0) := by decide
  simp [e0]
  refine (join_v (s := ⟨3, []⟩) (t := ⟨3, [⟨1, 5, 20⟩]⟩) (e := 0) (by decide) (by decide)).mono ?_
  rintro _ rfl
  simp
  refine (join_v (s := ⟨3, [⟨1, 5, 20⟩]⟩) (t := ⟨3, [⟨1, 5, 20⟩, ⟨2, 5, 10⟩]⟩) (e := 0) (by decide) (by decide)).mono ?_
  rintro _ rfl
  simp
  refine (join_v (s := ⟨3, [⟨1, 5, 20⟩, ⟨2, 5, 10⟩]⟩) (t := S3) (e := 0) (by decide) (by decide)).mono ?_
  rintro _ rfl
  simp
  refine vcRet_of [] ?_ rfl
  simp
set_option maxRecDepth 8000 in
set_option maxHeartbeats 2000000 in
theorem awake_m : Meets Try.prog 11 [] [] (Ret (.b true)) := by
  refine meets tbOk mixed Try.func11 pl11 rfl rfl ?_
  simp [Try.ntmps11]
  refine three_m.mono ?_
  rintro _ rfl
  simp
  refine (join_v (s := S3) (t := S3) (e := 9) (by decide) (by decide)).mono ?_
  rintro _ rfl
  simp
  refine (join_v (s := S3) (t := S3) (e := 5) (by decide) (by decide)).mono ?_
  rintro _ rfl
  simp
  refine (next_v (s := S3) (r := 10) (e := 0) (by decide) (by decide)).mono ?_
  rintro _ rfl
  simp
  refine (serve_v (s := S3) (t := ⟨3, [⟨2, 5, 10⟩, ⟨3, 6, 1000000000001⟩]⟩) (x := ⟨1, 5, 20⟩) (e := 0) (by decide) (by decide)).mono ?_
  rintro _ rfl
  simp
  refine (serve_v (s := ⟨3, [⟨2, 5, 10⟩, ⟨3, 6, 1000000000001⟩]⟩) (t := ⟨3, [⟨2, 5, 10⟩]⟩) (x := ⟨3, 6, 1000000000001⟩) (e := 0) (by decide) (by decide)).mono ?_
  rintro _ rfl
  simp
  refine vcRet_of [] ?_ rfl
  simp
end Go.Proofs.Ytajkljbcfgegoaa
