/- Contracts of the waiters' small functions, in plain values. No condition. -/
import Derived.Test.YtajkljbcfgegoaaTab
import Derived.Test.YtajkljbcfgegoaaSpec
namespace Go.Proofs.Ytajkljbcfgegoaa
open Go.RowKit

@[simp] def Wt.cs (x : Wt) : List D := [.v (.int .i64 x.call), .v (.int .i64 x.since), .v (.int .i64 x.dead)]
@[simp] def Wt.pv (x : Wt) : PV := .agg [.i x.call, .i x.since, .i x.dead]
@[simp] def wl (ws : List Wt) : D := .sl 3 (ws.map Wt.cs)
@[simp] def St.pv (s : St) : PV := .agg [.i s.most, .d (wl s.ws)]
@[simp] def bcs (b : Bool) : List D := [.v (.bool b)]
theorem at_lt {α : Type} {xs : List α} {k : Nat} (h : k < xs.length) : ∃ x, xs[k]? = some x ∧ xs[k] = x := ⟨_, List.getElem?_eq_getElem h, rfl⟩
theorem wrap_succ {k n : Nat} (h : k < n) (hn : n < 4294967296) : IntKind.i64.wrap ((k : Int) + 1) = (k : Int) + 1 := IntWalk.i64_in _ (by omega)
/-- p holds of none of the first k. -/
def noneTo {α : Type} (p : α → Bool) (xs : List α) (k : Nat) : Prop := ∀ i y, i < k → xs[i]? = some y → p y = false
theorem noneTo_zero {α : Type} (p : α → Bool) (xs : List α) : noneTo p xs 0 := fun _ _ h => absurd h (by omega)
theorem noneTo_succ {α : Type} {p : α → Bool} {xs : List α} {k : Nat} {x : α} (h : noneTo p xs k) (hx : xs[k]? = some x) (hp : p x = false) : noneTo p xs (k + 1) := fun i y hi hy => by
  by_cases hik : i = k
  · subst hik; rw [hx] at hy; cases hy; exact hp
  · exact h i y (by omega) hy

theorem call_m (n : Int) : Meets Try.prog 35 [.i n] [] (Ret (.b (callOk n))) := by
  refine meets tbOk mixed Try.func35 pl35 rfl rfl ?_
  simp [Try.ntmps35]
  refine ⟨fun h => vcRet_of [] ?_ rfl, fun h => vcRet_of [] ?_ rfl⟩ <;> simp [callOk, h]
  omega
theorem room_m (n : Int) : Meets Try.prog 38 [.i n] [] (Ret (.b (room n))) := by
  refine meets tbOk mixed Try.func38 pl38 rfl rfl ?_
  simp [Try.ntmps38]
  refine ⟨fun h => vcRet_of [] ?_ rfl, fun h => vcRet_of [] ?_ rfl⟩ <;> simp [room, h]
  omega
theorem index_m (xs : List Bool) (v : Bool) (hl : xs.length < 4294967296) : Meets Try.prog 57 [.d (.sl 1 (xs.map bcs)), .b v] [] (Ret (.i (idx (fun x => v == x) xs 0))) := by
  refine meets tbOk mixed Try.func57 pl57 rfl rfl ?_
  simp [Try.ntmps57]
  refine vc_loop (fun n σ => ∃ k : Nat, n = xs.length - k ∧ k ≤ xs.length ∧ noneTo (fun x => v == x) xs k ∧ σ = ⟨19, [(8, .i k), (7, .i xs.length), (0, .d (.sl 1 (xs.map bcs))), (1, .b v)], []⟩) ?_ ?_
  · exact ⟨_, _, ⟨0, rfl, Nat.zero_le _, noneTo_zero _ _, rfl⟩, [], _, rfl, by simp⟩
  · rintro n σ ⟨k, rfl, hk, hn, rfl⟩
    by_cases hlt : k < xs.length
    · obtain ⟨x, hx, e⟩ := at_lt hlt
      simp [hlt, e, wrap_succ hlt hl]
      refine ⟨fun h => vcRet_of [] ?_ rfl, fun h => ⟨_, ?_, _, ⟨k + 1, rfl, hlt, noneTo_succ hn hx (by simpa using h), rfl⟩, [], _, rfl, by simp⟩⟩
      · simp [idx_hit (fun x => v == x) xs k x hx (by simp [h]) hn]
      · omega
    · obtain rfl : k = xs.length := by omega
      simp
      refine vcRet_of [] ?_ rfl
      simp [idx_miss (fun x => v == x) xs hn]
theorem contains_m (xs : List Bool) (v : Bool) (hl : xs.length < 4294967296) : Meets Try.prog 52 [.d (.sl 1 (xs.map bcs)), .b v] [] (Ret (.b (xs.any fun x => v == x))) := by
  refine meets tbOk mixed Try.func52 pl52 rfl rfl ?_
  simp [Try.ntmps52]
  refine (index_m xs v hl).mono ?_
  rintro _ rfl
  simp
  refine vcRet_of [] ?_ rfl
  simp [← idx_any (fun x => v == x) xs 0 (by omega)]
theorem all_m (xs : List Bool) (hl : xs.length < 4294967296) : Meets Try.prog 34 [.d (.sl 1 (xs.map bcs))] [] (Ret (.b (!xs.any fun x => !x))) := by
  refine meets tbOk mixed Try.func34 pl34 rfl rfl ?_
  simp [Try.ntmps34]
  refine (contains_m xs false hl).mono ?_
  rintro _ rfl
  simp
  refine vcRet_of [] ?_ rfl
  simp
set_option maxHeartbeats 400000 in
theorem odd_m (x : Wt) : Meets Try.prog 41 [x.pv] [] (Ret (.b (oddW x))) := by
  refine meets tbOk mixed Try.func41 pl41 rfl rfl ?_
  simp [Try.ntmps41]
  refine effCall (call_m x.call) ?_
  simp
  refine effCall (all_m [callOk x.call, decide (0 ≤ x.since), decide (x.since ≤ 1000000000000), decide (x.since < x.dead), decide (x.dead ≤ 1000000000001)] (by simp)) ?_
  simp
  refine ⟨by kernel_rfl, vcRet_of [] ?_ rfl⟩
  simp [oddW]
end Go.Proofs.Ytajkljbcfgegoaa
