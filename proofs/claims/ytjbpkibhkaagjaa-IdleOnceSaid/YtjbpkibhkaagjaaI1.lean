/- Contracts of the small functions on idle connections, in plain values: numbers, odd, search, find, Check, ready. No condition. -/
import Derived.Test.YtjbpkibhkaagjaaTab
import Derived.Test.YtjbpkibhkaagjaaSpec
import Derived.Test.YtjbpkibhkaagjaaV23
namespace Go.Proofs.Ytjbpkibhkaagjaa
open Go.RowKit

@[simp] def Cn.ds (x : Cn) : List D := [.v (.int .i64 x.conn), .v (.int .i64 x.born), .v (.int .i64 x.since)]
@[simp] def Cn.pv (x : Cn) : PV := .agg [.i x.conn, .i x.born, .i x.since]
@[simp] def cl (cs : List Cn) : D := .sl 3 (cs.map Cn.ds)
@[simp] def St.pv (s : St) : PV := .agg [.i s.most, .i s.idle, .i s.age, .d (cl s.cs)]
@[simp] def St.cells (s : St) : List PV := [.i s.most, .i s.idle, .i s.age, .d (cl s.cs)]
@[simp] def St.box (s : St) : MObj := .box 24 s.cells
@[simp] def nds (n : Int) : List D := [.v (.int .i64 n)]
@[simp] def nl (l : List Int) : D := .sl 1 (l.map nds)
theorem at_lt {α : Type} {xs : List α} {k : Nat} (h : k < xs.length) : ∃ x, xs[k]? = some x ∧ xs[k] = x := ⟨_, List.getElem?_eq_getElem h, rfl⟩
theorem wrap_succ {k n : Nat} (h : k < n) (hn : n < 4294967296) : IntKind.i64.wrap ((k : Int) + 1) = (k : Int) + 1 := IntWalk.i64_in _ (by omega)
/-- p holds of none of the first k. -/
def noneTo {α : Type} (p : α → Bool) (xs : List α) (k : Nat) : Prop := ∀ i y, i < k → xs[i]? = some y → p y = false
theorem noneTo_zero {α : Type} (p : α → Bool) (xs : List α) : noneTo p xs 0 := fun _ _ h => absurd h (by omega)
theorem noneTo_succ {α : Type} {p : α → Bool} {xs : List α} {k : Nat} {x : α} (h : noneTo p xs k) (hx : xs[k]? = some x) (hp : p x = false) : noneTo p xs (k + 1) := fun i y hi hy => by
  by_cases hik : i = k
  · subst hik; rw [hx] at hy; cases hy; exact hp
  · exact h i y (by omega) hy

set_option maxRecDepth 20000 in
set_option maxHeartbeats 1000000 in
theorem numbers_g (a b c : Int) (q : D) : Meets Try.prog 37 [.ptr 1000000 0] [.box 24 [.i a, .i b, .i c, .d q]] (fun r => r = ⟨.b (nums a b c), [.box 24 [.i a, .i b, .i c, .d q]], []⟩) := by
  refine meetsH [] tbOk mixed Try.func37 pl37 rfl rfl ?_
  by_cases h1 : 0 ≤ a
  case neg =>
    simp [Try.ntmps37, h1]
    refine vcRet_of [] ?_ rfl
    simp [nums, inB, h1]
  by_cases h2 : a ≤ 64
  case neg =>
    simp [Try.ntmps37, h1, h2]
    refine vcRet_of [] ?_ rfl
    simp [nums, inB, h2]
  by_cases h3 : 1 ≤ b
  case neg =>
    simp [Try.ntmps37, h1, h2, h3]
    refine vcRet_of [] ?_ rfl
    simp [nums, inB, h3]
  by_cases h4 : b ≤ 1000000000000
  case neg =>
    simp [Try.ntmps37, h1, h2, h3, h4]
    refine vcRet_of [] ?_ rfl
    simp [nums, inB, h4]
  by_cases h5 : 1 ≤ c
  case neg =>
    simp [Try.ntmps37, h1, h2, h3, h4, h5]
    refine vcRet_of [] ?_ rfl
    simp [nums, inB, h5]
  simp [Try.ntmps37, h1, h2, h3, h4, h5]
  refine vcRet_of [] ?_ rfl
  simp [nums, inB, h1, h2, h3, h4, h5]
theorem numbers_m (s : St) : Meets Try.prog 37 [.ptr 1000000 0] [s.box] (fun r => r = ⟨.b (nums s.most s.idle s.age), [s.box], []⟩) := numbers_g s.most s.idle s.age (cl s.cs)
set_option maxRecDepth 20000 in
set_option maxHeartbeats 1000000 in
theorem odd_m (x : Cn) : Meets Try.prog 34 [x.pv] [] (Ret (.b (oddC x))) := by
  refine meetsH [] tbOk mixed Try.func34 pl34 rfl rfl ?_
  by_cases h1 : x.conn < 1
  · simp [Try.ntmps34, h1]
    refine vcRet_of [] ?_ rfl
    simp [oddC, inB]; omega
  by_cases h2 : 1000000000000000 < x.conn
  · simp [Try.ntmps34, h1, h2]
    refine vcRet_of [] ?_ rfl
    simp [oddC, inB]; omega
  by_cases h3 : x.since < 0
  · simp [Try.ntmps34, h1, h2, h3]
    refine vcRet_of [] ?_ rfl
    simp [oddC, inB]; omega
  by_cases h4 : 1000000000000 < x.since
  · simp [Try.ntmps34, h1, h2, h3, h4]
    refine vcRet_of [] ?_ rfl
    simp [oddC, inB]; omega
  by_cases h5 : x.born < 0
  · simp [Try.ntmps34, h1, h2, h3, h4, h5]
    refine vcRet_of [] ?_ rfl
    simp [oddC, inB]; omega
  simp [Try.ntmps34, h1, h2, h3, h4, h5]
  refine vcRet_of [] ?_ rfl
  simp [oddC, inB]
  rw [Bool.eq_iff_iff]; simp; omega
set_option maxHeartbeats 400000 in
theorem indexFunc_0 (f : Nat) (p : Cn → Bool) (xs : List Cn) (hl : xs.length < 4294967296) (hp : ∀ x ∈ xs, Meets Try.prog f [x.pv] [] (Ret (.b (p x)))) : Meets Try.prog 51 [.d (cl xs), .clo f []] [] (Ret (.i (idx p xs 0))) := by
  refine meets tbOk mixed Try.func51 pl51 rfl rfl ?_
  simp [Try.ntmps51]
  refine vc_loop (fun n σ => ∃ k : Nat, n = xs.length - k ∧ k ≤ xs.length ∧ noneTo p xs k ∧ σ = ⟨19, [(8, .i k), (7, .i xs.length), (0, .d (cl xs)), (1, .clo f [])], []⟩) ?_ ?_
  · exact ⟨_, _, ⟨0, rfl, Nat.zero_le _, noneTo_zero _ _, rfl⟩, [], _, rfl, by simp⟩
  · rintro n σ ⟨k, rfl, hk, hn, rfl⟩
    by_cases hlt : k < xs.length
    · obtain ⟨x, hx, e⟩ := at_lt hlt
      simp [hlt, e]
      refine (hp x (List.mem_of_getElem? hx)).mono ?_
      rintro _ rfl
      simp [wrap_succ hlt hl]
      refine ⟨fun h => vcRet_of [] ?_ rfl, fun h => ⟨_, ?_, _, ⟨k + 1, rfl, hlt, noneTo_succ hn hx h, rfl⟩, [], _, rfl, by simp⟩⟩
      · simp [idx_hit p xs k x hx h hn]
      · omega
    · obtain rfl : k = xs.length := by omega
      simp
      refine vcRet_of [] ?_ rfl
      simp [idx_miss p xs hn]
set_option maxHeartbeats 400000 in
theorem indexFunc_1 (f : Nat) (t : Nat) (v : D) (p : Cn → Bool) (xs : List Cn) (hl : xs.length < 4294967296) (hp : ∀ x ∈ xs, Meets Try.prog f [x.pv, .ptr 1000000 0] [.box t [.d v]] (fun r => r = ⟨.b (p x), [.box t [.d v]], []⟩)) :
    Meets Try.prog 51 [.d (cl xs), .clo f [.ptr 1000000 0]] [.box t [.d v]] (fun r => r = ⟨.i (idx p xs 0), [.box t [.d v]], []⟩) := by
  refine meets tbOk mixed Try.func51 pl51 rfl rfl ?_
  simp [Try.ntmps51]
  refine vc_loop (fun n σ => ∃ k : Nat, n = xs.length - k ∧ k ≤ xs.length ∧ noneTo p xs k ∧ σ = ⟨19, [(8, .i k), (7, .i xs.length), (0, .d (cl xs)), (1, .clo f [.ptr 1000000 0])], [(1000000, .box t [.d v])]⟩) ?_ ?_
  · exact ⟨_, _, ⟨0, rfl, Nat.zero_le _, noneTo_zero _ _, rfl⟩, [], _, rfl, by simp⟩
  · rintro n σ ⟨k, rfl, hk, hn, rfl⟩
    by_cases hlt : k < xs.length
    · obtain ⟨x, hx, e⟩ := at_lt hlt
      simp [hlt, e]
      refine (hp x (List.mem_of_getElem? hx)).mono ?_
      rintro _ rfl
      simp [wrap_succ hlt hl]
      refine ⟨fun h => vcRet_of [] ?_ rfl, fun h => ⟨_, ?_, _, ⟨k + 1, rfl, hlt, noneTo_succ hn hx h, rfl⟩, [], _, rfl, by simp⟩⟩
      · simp [idx_hit p xs k x hx h hn]
      · omega
    · obtain rfl : k = xs.length := by omega
      simp
      refine vcRet_of [] ?_ rfl
      simp [idx_miss p xs hn]
theorem containsFunc_0 (f : Nat) (p : Cn → Bool) (xs : List Cn) (hl : xs.length < 4294967296) (hp : ∀ x ∈ xs, Meets Try.prog f [x.pv] [] (Ret (.b (p x)))) : Meets Try.prog 47 [.d (cl xs), .clo f []] [] (Ret (.b (xs.any p))) := by
  refine meets tbOk mixed Try.func47 pl47 rfl rfl ?_
  simp [Try.ntmps47]
  refine (indexFunc_0 f p xs hl hp).mono ?_
  rintro _ rfl
  simp
  refine vcRet_of [] ?_ rfl
  simp [← idx_any p xs 0 (by omega)]
theorem find1_m (x : Cn) (n : Int) : Meets Try.prog 52 [x.pv, .ptr 1000000 0] [.box 2 [.i n]] (fun r => r = ⟨.b (x.conn == n), [.box 2 [.i n]], []⟩) := by
  refine meets tbOk mixed Try.func52 pl52 rfl rfl ?_
  simp [Try.ntmps52]
  refine vcRet_of [] ?_ rfl
  simp
  rfl
theorem find_m (xs : List Cn) (n : Int) (hl : xs.length < 4294967296) : Meets Try.prog 35 [.d (cl xs), .i n] [] (Ret (.i (place xs n))) := by
  refine meets tbOk mixed Try.func35 pl35 rfl rfl ?_
  simp [Try.ntmps35]
  refine (indexFunc_1 52 2 (.v (.int .i64 n)) (fun x => x.conn == n) xs hl (fun x _ => find1_m x n)).mono ?_
  rintro _ rfl
  simp
  refine vcRet_of [] ?_ rfl
  simp [place]
set_option maxHeartbeats 1600000 in
theorem check_m (s : St) (hl : s.cs.length < 4294967296) : Meets Try.prog 25 [s.pv] [] (Ret (.i (chk s))) := by
  refine meets tbOk mixed Try.func25 pl25 rfl rfl ?_
  simp [Try.ntmps25]
  refine (numbers_m s).mono ?_
  rintro _ rfl
  cases hr : nums s.most s.idle s.age
  · simp
    refine vcRet_of [] ?_ rfl
    simp [chk, hr]
  simp
  refine (containsFunc_0 34 oddC s.cs hl (fun x _ => odd_m x)).mono ?_
  rintro _ rfl
  cases ho : s.cs.any oddC
  case true =>
    simp
    refine vcRet_of [] ?_ rfl
    simp [chk, ho]
  by_cases hm : s.most < (s.cs.length : Int)
  · simp [hm]
    refine vcRet_of [] ?_ rfl
    simp [chk, hr, ho, hm]
  simp [hm]
  refine vc_loop (fun n σ => ∃ k : Nat, n = s.cs.length - k ∧ k ≤ s.cs.length ∧ dupTo s.cs k = false ∧ σ = ⟨57, [(24, .i k), (23, .i s.cs.length), (22, .d (cl s.cs)), (3, .b (sortTo s.cs k)), (1, .ptr 1 0)], [(1, .box 24 s.cells)]⟩) ?_ ?_
  · exact ⟨_, _, ⟨0, rfl, Nat.zero_le _, rfl, rfl⟩, [], _, rfl, by simp [sortTo]⟩
  · rintro n σ ⟨k, rfl, hk, hd, rfl⟩
    by_cases hlt : k < s.cs.length
    · obtain ⟨x, hx, e⟩ := at_lt hlt
      simp [hlt, e]
      refine ⟨hk, effCall (by simp only [← List.map_take]; exact find_m (s.cs.take k) x.conn (by simp; omega)) ?_⟩
      simp [-vc_drawn]
      refine ⟨by kernel_rfl, fun hp => ?_, fun hp => ?_⟩
      · refine vcRet_of [] ?_ rfl
        have hd2 : dupTo s.cs (k + 1) = true := by rw [dupTo_succ hx]; simp; exact .inr hp
        simp [chk, hr, ho, hm, dupTo_mono hlt hd2]
      have hd2 : dupTo s.cs (k + 1) = false := by rw [dupTo_succ hx, hd]; simp; exact hp
      have hs2 := sortTo_succ hx
      cases hs : sortTo s.cs k
      · set_option maxRecDepth 4000 in simp [hs]
        refine ⟨by kernel_rfl, ?_⟩
        simp [wrap_succ hlt hl]
        refine ⟨_, ?_, _, ⟨k + 1, rfl, hlt, hd2, rfl⟩, [], _, rfl, by simp [hs2, hs]⟩
        omega
      by_cases h0 : k = 0
      · subst h0
        set_option maxRecDepth 4000 in simp [hs]
        refine ⟨by kernel_rfl, ?_⟩
        refine ⟨_, ?_, _, ⟨1, rfl, hlt, hd2, rfl⟩, [], _, rfl, by simp [hs2, hs]; rfl⟩
        omega
      have hk1 : k - 1 < s.cs.length := by omega
      obtain ⟨y, hy, ey⟩ := at_lt hk1
      have hw : IntKind.i64.wrap ((k : Int) - 1) = ((k - 1 : Nat) : Int) := by rw [IntWalk.i64_in _ (by omega)]; omega
      set_option maxRecDepth 4000 in simp [hs, h0, hw, hk1, ey]
      refine ⟨by kernel_rfl, ?_⟩
      simp [wrap_succ hlt hl]
      refine ⟨_, ?_, _, ⟨k + 1, rfl, hlt, hd2, rfl⟩, [], _, rfl, by simp [hs2, hs, h0, hy]⟩
      omega
    · obtain rfl : k = s.cs.length := by omega
      cases hs : sortTo s.cs s.cs.length
      · simp
        refine vcRet_of [] ?_ rfl
        simp [chk, hr, ho, hm, hd, hs]
      · simp
        refine vcRet_of [] ?_ rfl
        simp [chk, hr, ho, hm, hd, hs]
end Go.Proofs.Ytjbpkibhkaagjaa
