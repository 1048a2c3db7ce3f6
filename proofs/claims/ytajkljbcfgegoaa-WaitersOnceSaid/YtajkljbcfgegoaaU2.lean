/- Contracts: search by a function value, find, Check, ready. No condition. -/
import Derived.Test.YtajkljbcfgegoaaU1
namespace Go.Proofs.Ytajkljbcfgegoaa
open Go.RowKit

set_option maxHeartbeats 400000 in
theorem indexFunc_0 (f : Nat) (p : Wt → Bool) (xs : List Wt) (hl : xs.length < 4294967296) (hp : ∀ x ∈ xs, Meets Try.prog f [x.pv] [] (Ret (.b (p x)))) : Meets Try.prog 29 [.d (wl xs), .clo f []] [] (Ret (.i (idx p xs 0))) := by
  refine meets tbOk mixed Try.func29 pl29 rfl rfl ?_
  simp [Try.ntmps29]
  refine vc_loop (fun n σ => ∃ k : Nat, n = xs.length - k ∧ k ≤ xs.length ∧ noneTo p xs k ∧ σ = ⟨19, [(8, .i k), (7, .i xs.length), (0, .d (wl xs)), (1, .clo f [])], []⟩) ?_ ?_
  · exact ⟨_, _, ⟨0, rfl, Nat.zero_le _, noneTo_zero _ _, rfl⟩, [], _, rfl, by simp⟩
  · rintro n σ ⟨k, rfl, hk, hn, rfl⟩
    by_cases hlt : k < xs.length
    · obtain ⟨x, hx, e⟩ := at_lt hlt
      simp [hlt, e]
      refine (hp x (List.mem_of_getElem? hx)).mono ?_
      rintro _ rfl
      simp [wrap_succ hlt hl]
      refine ⟨fun h => vcRet_of [] ?_ rfl, fun h => ⟨_, ?_, _, ⟨k + 1, rfl, hlt, noneTo_succ hn hx h, rfl⟩, [], _, rfl, by simp⟩⟩
      · simp [idx_hit p xs k x hx h hn]
      · omega
    · obtain rfl : k = xs.length := by omega
      simp
      refine vcRet_of [] ?_ rfl
      simp [idx_miss p xs hn]
set_option maxHeartbeats 400000 in
theorem indexFunc_1 (f : Nat) (t : Nat) (v : D) (p : Wt → Bool) (xs : List Wt) (hl : xs.length < 4294967296) (hp : ∀ x ∈ xs, Meets Try.prog f [x.pv, .ptr 1000000 0] [.box t [.d v]] (fun r => r = ⟨.b (p x), [.box t [.d v]], []⟩)) :
    Meets Try.prog 29 [.d (wl xs), .clo f [.ptr 1000000 0]] [.box t [.d v]] (fun r => r = ⟨.i (idx p xs 0), [.box t [.d v]], []⟩) := by
  refine meets tbOk mixed Try.func29 pl29 rfl rfl ?_
  simp [Try.ntmps29]
  refine vc_loop (fun n σ => ∃ k : Nat, n = xs.length - k ∧ k ≤ xs.length ∧ noneTo p xs k ∧ σ = ⟨19, [(8, .i k), (7, .i xs.length), (0, .d (wl xs)), (1, .clo f [.ptr 1000000 0])], [(1000000, .box t [.d v])]⟩) ?_ ?_
  · exact ⟨_, _, ⟨0, rfl, Nat.zero_le _, noneTo_zero _ _, rfl⟩, [], _, rfl, by simp⟩
  · rintro n σ ⟨k, rfl, hk, hn, rfl⟩
    by_cases hlt : k < xs.length
    · obtain ⟨x, hx, e⟩ := at_lt hlt
      simp [hlt, e]
      refine (hp x (List.mem_of_getElem? hx)).mono ?_
      rintro _ rfl
      simp [wrap_succ hlt hl]
      refine ⟨fun h => vcRet_of [] ?_ rfl, fun h => ⟨_, ?_, _, ⟨k + 1, rfl, hlt, noneTo_succ hn hx h, rfl⟩, [], _, rfl, by simp⟩⟩
      · simp [idx_hit p xs k x hx h hn]
      · omega
    · obtain rfl : k = xs.length := by omega
      simp
      refine vcRet_of [] ?_ rfl
      simp [idx_miss p xs hn]
theorem containsFunc_0 (f : Nat) (p : Wt → Bool) (xs : List Wt) (hl : xs.length < 4294967296) (hp : ∀ x ∈ xs, Meets Try.prog f [x.pv] [] (Ret (.b (p x)))) : Meets Try.prog 40 [.d (wl xs), .clo f []] [] (Ret (.b (xs.any p))) := by
  refine meets tbOk mixed Try.func40 pl40 rfl rfl ?_
  simp [Try.ntmps40]
  refine (indexFunc_0 f p xs hl hp).mono ?_
  rintro _ rfl
  simp
  refine vcRet_of [] ?_ rfl
  simp [← idx_any p xs 0 (by omega)]
theorem find1_m (x : Wt) (n : Int) : Meets Try.prog 53 [x.pv, .ptr 1000000 0] [.box 2 [.i n]] (fun r => r = ⟨.b (x.call == n), [.box 2 [.i n]], []⟩) := by
  refine meets tbOk mixed Try.func53 pl53 rfl rfl ?_
  simp [Try.ntmps53]
  refine vcRet_of [] ?_ rfl
  simp
  rfl
theorem find_m (xs : List Wt) (n : Int) (hl : xs.length < 4294967296) : Meets Try.prog 36 [.d (wl xs), .i n] [] (Ret (.i (place xs n))) := by
  refine meets tbOk mixed Try.func36 pl36 rfl rfl ?_
  simp [Try.ntmps36]
  refine (indexFunc_1 53 2 (.v (.int .i64 n)) (fun x => x.call == n) xs hl (fun x _ => find1_m x n)).mono ?_
  rintro _ rfl
  simp
  refine vcRet_of [] ?_ rfl
  simp [place]
set_option maxHeartbeats 1600000 in
theorem check_m (s : St) (hl : s.ws.length < 4294967296) : Meets Try.prog 22 [s.pv] [] (Ret (.i (chk s))) := by
  refine meets tbOk mixed Try.func22 pl22 rfl rfl ?_
  simp [Try.ntmps22]
  refine (room_m s.most).mono ?_
  rintro _ rfl
  cases hr : room s.most
  · simp
    refine vcRet_of [] ?_ rfl
    simp [chk, hr]
  simp
  refine (containsFunc_0 41 oddW s.ws hl (fun x _ => odd_m x)).mono ?_
  rintro _ rfl
  cases ho : s.ws.any oddW
  case true =>
    simp
    refine vcRet_of [] ?_ rfl
    simp [chk, ho]
  by_cases hm : s.most < (s.ws.length : Int)
  · simp [hm]
    refine vcRet_of [] ?_ rfl
    simp [chk, hr, ho, hm]
  simp [hm]
  refine vc_loop (fun n σ => ∃ k : Nat, n = s.ws.length - k ∧ k ≤ s.ws.length ∧ dupTo s.ws k = false ∧ σ = ⟨59, [(26, .i k), (25, .i s.ws.length), (24, .d (wl s.ws)), (3, .b (sortTo s.ws k)), (1, .ptr 1 0)], [(1, .box 24 [.i s.most, .d (wl s.ws)])]⟩) ?_ ?_
  · exact ⟨_, _, ⟨0, rfl, Nat.zero_le _, rfl, rfl⟩, [], _, rfl, by simp [sortTo]⟩
  · rintro n σ ⟨k, rfl, hk, hd, rfl⟩
    by_cases hlt : k < s.ws.length
    · obtain ⟨x, hx, e⟩ := at_lt hlt
      simp [hlt, e]
      refine ⟨hk, effCall (by simp only [← List.map_take]; exact find_m (s.ws.take k) x.call (by simp; omega)) ?_⟩
      simp [-vc_drawn]
      refine ⟨by kernel_rfl, fun hp => ?_, fun hp => ?_⟩
      · refine vcRet_of [] ?_ rfl
        have hd2 : dupTo s.ws (k + 1) = true := by rw [dupTo_succ hx]; simp; exact .inr hp
        simp [chk, hr, ho, hm, dupTo_mono hlt hd2]
      have hd2 : dupTo s.ws (k + 1) = false := by rw [dupTo_succ hx, hd]; simp; exact hp
      have hs2 := sortTo_succ hx
      cases hs : sortTo s.ws k
      · set_option maxRecDepth 4000 in simp [hs]
        refine ⟨by kernel_rfl, ?_⟩
        simp [wrap_succ hlt hl]
        refine ⟨_, ?_, _, ⟨k + 1, rfl, hlt, hd2, rfl⟩, [], _, rfl, by simp [hs2, hs]⟩
        omega
      by_cases h0 : k = 0
      · subst h0
        set_option maxRecDepth 4000 in simp [hs]
        refine ⟨by kernel_rfl, ?_⟩
        refine ⟨_, ?_, _, ⟨1, rfl, hlt, hd2, rfl⟩, [], _, rfl, by simp [hs2, hs]; rfl⟩
        omega
      have hk1 : k - 1 < s.ws.length := by omega
      obtain ⟨y, hy, ey⟩ := at_lt hk1
      have hw : IntKind.i64.wrap ((k : Int) - 1) = ((k - 1 : Nat) : Int) := by rw [IntWalk.i64_in _ (by omega)]; omega
      set_option maxRecDepth 4000 in simp [hs, h0, hw, hk1, ey]
      refine ⟨by kernel_rfl, ?_⟩
      simp [wrap_succ hlt hl]
      refine ⟨_, ?_, _, ⟨k + 1, rfl, hlt, hd2, rfl⟩, [], _, rfl, by simp [hs2, hs, h0, hy]⟩
      omega
    · obtain rfl : k = s.ws.length := by omega
      cases hs : sortTo s.ws s.ws.length
      · simp
        refine vcRet_of [] ?_ rfl
        simp [chk, hr, ho, hm, hd, hs]
      · simp
        refine vcRet_of [] ?_ rfl
        simp [chk, hr, ho, hm, hd, hs]
end Go.Proofs.Ytajkljbcfgegoaa
