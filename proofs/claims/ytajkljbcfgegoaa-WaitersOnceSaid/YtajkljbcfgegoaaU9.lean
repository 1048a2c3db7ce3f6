/- Contract: slices.Delete. No condition. IN THE MAKING. -/
import Derived.Test.YtajkljbcfgegoaaU1
namespace Go.Proofs.Ytajkljbcfgegoaa
open Go.RowKit

set_option maxHeartbeats 1000000 in
theorem delete_m (xs : List Wt) (i : Nat) (hi : i < xs.length) (hl : xs.length < 4294967296) : Meets Try.prog 51 [.rw 1000000 xs.length, .i i, .i ((i : Int) + 1)] [.row 29 3 (xs.map Wt.cs) false]
    (fun r => r = ⟨.rw 1000000 (xs.length - 1), [.row 29 3 ((xs.eraseIdx i).map Wt.cs ++ [[.v (.int .i64 0), .v (.int .i64 0), .v (.int .i64 0)]]) false], []⟩) := by
  refine meets tbOk mixed Try.func51 pl51 rfl rfl ?_
  have h1 : ¬ ((i : Int) = i + 1) := by omega
  have h2 : ¬ (i = xs.length) := by omega
  have e3 : i + (xs.length - (i + 1)) = xs.length - 1 := by omega
  simp [Try.ntmps51, h1, h2, e3]
  refine ⟨⟨by omega, by omega⟩, by omega, ⟨by omega, by omega⟩, by omega, by kernel_rfl, ?_⟩
  refine ⟨by omega, by omega, vcRet_of [] ?_ rfl⟩
  have e4 : List.take (xs.length - (i + 1)) (List.drop (i + 1) (List.map Wt.cs xs)) = List.drop (i + 1) (List.map Wt.cs xs) := List.take_of_length_le (by simp)
  have e5 : xs.length - (xs.length - 1) = 1 := by omega
  have e6 : List.map Wt.cs (xs.eraseIdx i) = List.take i (List.map Wt.cs xs) ++ List.drop (i + 1) (List.map Wt.cs xs) := by rw [List.eraseIdx_eq_take_drop_succ, List.map_append, List.map_take, List.map_drop]
  have e7 : List.take (xs.length - 1) (List.take i (List.map Wt.cs xs) ++ (List.drop (i + 1) (List.map Wt.cs xs) ++ List.drop (xs.length - 1) (List.map Wt.cs xs))) = List.take i (List.map Wt.cs xs) ++ List.drop (i + 1) (List.map Wt.cs xs) := by
    rw [← List.append_assoc]
    exact List.take_left' (by simp; omega)
  have e8 : List.drop xs.length (List.take i (List.map Wt.cs xs) ++ (List.drop (i + 1) (List.map Wt.cs xs) ++ List.drop (xs.length - 1) (List.map Wt.cs xs))) = [] := List.drop_of_length_le (by simp; omega)
  rw [e4, e5, e6]
  simp [e7, e8]
end Go.Proofs.Ytajkljbcfgegoaa
