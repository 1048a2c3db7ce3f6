/- Contracts: Backward, Take, Usable, and the reference's. No condition. -/
import Derived.Test.YtjbpkibhkaagjaaI3
namespace Go.Proofs.Ytjbpkibhkaagjaa
open Go.RowKit

/-- What Backward yields. -/
def backs (xs : List Cn) : List (List PV) := (List.range xs.length).map fun i : Nat => [.i ((xs.length : Int) - 1 - (i : Int)), (xs.getD (xs.length - 1 - i) default).pv]
theorem backs_len (xs : List Cn) : (backs xs).length = xs.length := by simp [backs]
theorem backs_at {xs : List Cn} {k : Nat} (h : k < xs.length) : (backs xs)[k]? = some [.i ((xs.length : Int) - 1 - k), (xs.getD (xs.length - 1 - k) default).pv] := by
  unfold backs
  rw [List.getElem?_map, List.getElem?_range h]
  rfl
theorem backs_mem {xs : List Cn} {x : List PV} (h : x ∈ backs xs) : x.length = 2 ∧ ∀ p ∈ x, p.keys = [] := by
  obtain ⟨i, _, rfl⟩ := List.mem_map.1 h
  simp
theorem backward_it (xs : List Cn) (hl : xs.length < 4294967296) : Iters Try.prog 57 [.ptr 1000000 0] [.box 22 [.d (cl xs)]] (backs xs) := by
  refine iters_of tbOk Try.func57 rfl pl57 rfl rfl (fun x hx => (backs_mem hx).2) fun l => ?_
  have w0 := small_wrap (a := (xs.length : Int) - 1) (by omega)
  simp [Try.ntmps57, w0]
  refine vcY_loop (fun n i σ => ∃ k : Nat, n = xs.length - k ∧ k ≤ xs.length ∧ i = some k ∧ σ = ⟨19, [(3, .i ((xs.length : Int) - 1 - k)), (0, .d (.v (.func (.yield l) #[] #[]))), (1, .ptr 1000000 0)], [(1000000, .box 22 [.d (cl xs)])]⟩) ?_ ?_
  · exact ⟨_, _, ⟨0, rfl, Nat.zero_le _, rfl, rfl⟩, by simp⟩
  rintro n i σ ⟨k, rfl, hk, rfl, rfl⟩
  by_cases hlt : k < xs.length
  · have hk1 : xs.length - 1 - k < xs.length := by omega
    obtain ⟨x, hx, e⟩ := at_lt hk1
    have h0 : 0 ≤ (xs.length : Int) - 1 - k := by omega
    have e1 : ((xs.length : Int) - 1 - k) = ((xs.length - 1 - k : Nat) : Int) := by omega
    have w1 : IntKind.i64.wrap ((xs.length : Int) - 1 - k - 1) = (xs.length : Int) - 1 - (k + 1 : Nat) := by rw [small_wrap (by omega)]; omega
    have hb := backs_at hlt
    rw [getD_some hx] at hb
    rw [e1] at hb h0 w1 ⊢
    simp [hk1, e, hb, w1]
    refine ⟨_, ?_, _, ⟨k + 1, rfl, hlt, rfl, rfl⟩, by simp⟩
    omega
  · obtain rfl : k = xs.length := by omega
    simp [backs_len]
    omega
theorem backward_m (xs : List Cn) : Meets Try.prog 50 [.d (cl xs)] [] (fun r => r = ⟨.clo 57 [.ptr 2000000 0], [], [.box 22 [.d (cl xs)]]⟩) := by
  refine meetsH [] tbOk mixed Try.func50 pl50 rfl rfl ?_
  simp [Try.ntmps50]
  refine vcRet_of [1] ?_ rfl
  simp
theorem last_m (xs : List Cn) : Meets Try.prog 30 [.d (cl xs)] [] (fun r => r = ⟨.clo 57 [.ptr 2000000 0], [], [.box 22 [.d (cl xs)]]⟩) := by
  refine meetsH [] tbOk mixed Try.func30 pl30 rfl rfl ?_
  simp [Try.ntmps30]
  refine (backward_m xs).mono ?_
  rintro _ rfl
  simp
  refine vcRet_of [4] ?_ rfl
  simp
end Go.Proofs.Ytjbpkibhkaagjaa
