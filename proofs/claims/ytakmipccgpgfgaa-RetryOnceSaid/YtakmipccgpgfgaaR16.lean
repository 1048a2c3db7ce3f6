/- Contract: the statement RetryFull. No condition. -/
import Derived.Test.YtakmipccgpgfgaaR15
namespace Go.Proofs.Ytakmipccgpgfgaa
open Go.RowKit

def fillL (N k : Nat) (a : Int) : List Int := List.replicate k a ++ List.replicate (N - k) 0
theorem fill_len {N k : Nat} (a : Int) (h : k ≤ N) : (fillL N k a).length = N := by simp [fillL]; omega
theorem fill_set {N k : Nat} (a : Int) (h : k < N) : (fillL N k a).set k a = fillL N (k + 1) a := by
  obtain ⟨q, hq⟩ : ∃ q, N - k = q + 1 := ⟨N - k - 1, by omega⟩
  have hq' : N - (k + 1) = q := by omega
  unfold fillL
  rw [hq, hq', List.set_append_right _ _ (by simp), List.length_replicate, Nat.sub_self, List.replicate_succ, List.set_cons_zero, List.replicate_succ', List.append_assoc]
  rfl
theorem fill_zero (N : Nat) (a : Int) : fillL N 0 a = List.replicate N 0 := by simp [fillL]
theorem fill_all (N : Nat) (a : Int) : fillL N N a = List.replicate N a := by simp [fillL]
theorem fill_step {N k : Nat} (a : Int) (h : k < N) : ((fillL N k a).map ics).set k [.v (.int .i64 a)] = (fillL N (k + 1) a).map ics := by
  rw [← fill_set a h, List.map_set]
  rfl
set_option maxRecDepth 20000 in
set_option maxHeartbeats 8000000 in
theorem full_m (n m at_ ratio least : Int) (hn : 0 ≤ n ∧ n ≤ 65535) (hm : 0 ≤ m ∧ m ≤ 65535) : Meets Try.prog 6 [.agg [.d (.v (.int .u16 n)), .d (.v (.int .u16 m)), .i at_], .i ratio, .i least] [] (Ret (.b true)) := by
  refine meetsH [] tbOk mixed Try.func6 pl6 rfl rfl ?_
  have aw : ∀ {K : Res → Prop}, K ⟨.b true, [], []⟩ → Meets Try.prog 11 [] [] K := fun h => awake_m.mono fun r hr => by rw [hr]; exact h
  by_cases a1 : 1000 < n
  · simp [Try.ntmps6, a1]
    refine aw ?_
    simp
    exact vcRet_of [] (by simp) rfl
  by_cases a2 : 1000 < m
  · simp [Try.ntmps6, a1, a2]
    refine aw ?_
    simp
    exact vcRet_of [] (by simp) rfl
  by_cases a3 : at_ < 0
  · simp [Try.ntmps6, a1, a2, a3]
    refine aw ?_
    simp
    exact vcRet_of [] (by simp) rfl
  by_cases a4 : 1000000000000 < at_
  · simp [Try.ntmps6, a1, a2, a3, a4]
    refine aw ?_
    simp
    exact vcRet_of [] (by simp) rfl
  obtain ⟨N, rfl⟩ : ∃ N : Nat, n = N := ⟨n.toNat, by omega⟩
  obtain ⟨M, rfl⟩ : ∃ M : Nat, m = M := ⟨m.toNat, by omega⟩
  have b1 : (8 : Int) * N ≤ 281474976710656 := by omega
  have b2 : (8 : Int) * M ≤ 281474976710656 := by omega
  have b3 : (N : Int) ≤ 4294967296 := by omega
  have b4 : (M : Int) ≤ 4294967296 := by omega
  simp [Try.ntmps6, a1, a2, a3, a4, b1, b2, b3, b4]
  refine ⟨by kernel_rfl, ?_⟩
  refine vc_loop (fun q σ => ∃ k : Nat, q = N - k ∧ k ≤ N ∧ σ = ⟨125, [(8, .i k), (7, .ptr 7 0), (3, .ptr 3 0)], [(3, .box 48 [.d (.v (.int .u16 N)), .d (.v (.int .u16 M)), .i at_]), (7, .box 36 [.i ratio, .i least, .i 1, .rw 39 N, .rw 42 M]),
    (39, .row 2 1 ((fillL N k at_).map ics) false), (42, .row 2 1 ((List.replicate M 0).map ics) false)]⟩) ?_ ?_
  · exact ⟨_, _, ⟨0, rfl, Nat.zero_le _, rfl⟩, [], _, rfl, by simp [fill_zero]⟩
  rintro q σ ⟨k, rfl, hk, rfl⟩
  by_cases hlt : k < N
  · have hfl := fill_len at_ (show k ≤ N by omega)
    have hfs := fill_step at_ hlt
    simp [hlt, hfl, wrap_succ hlt (show N < 4294967296 by omega)]
    refine ⟨_, ?_, _, ⟨k + 1, rfl, hlt, rfl⟩, [], _, rfl, by simp [hfs]⟩
    omega
  obtain rfl : k = N := by omega
  simp
  refine vc_loop (fun q σ => ∃ i : Nat, q = M - i ∧ i ≤ M ∧ σ = ⟨125, [(9, .i i), (7, .ptr 7 0), (3, .ptr 3 0)], [(3, .box 48 [.d (.v (.int .u16 k)), .d (.v (.int .u16 M)), .i at_]), (7, .box 36 [.i ratio, .i least, .i 1, .rw 39 k, .rw 42 M]),
    (39, .row 2 1 ((List.replicate k at_).map ics) false), (42, .row 2 1 ((fillL M i at_).map ics) false)]⟩) ?_ ?_
  · exact ⟨_, _, ⟨0, rfl, Nat.zero_le _, rfl⟩, [], _, rfl, by simp [fill_zero, fill_all]⟩
  rintro q σ ⟨i, rfl, hi, rfl⟩
  by_cases hlt2 : i < M
  · have hfl := fill_len at_ (show i ≤ M by omega)
    have hfs := fill_step at_ hlt2
    simp [hlt2, hfl, wrap_succ hlt2 (show M < 4294967296 by omega)]
    refine ⟨_, ?_, _, ⟨i + 1, rfl, hlt2, rfl⟩, [], _, rfl, by simp [hfs]⟩
    omega
  obtain rfl : i = M := by omega
  rw [fill_all]
  obtain ⟨b, hb⟩ : ∃ b : Bu, b = ⟨ratio, least, 1, List.replicate k at_, List.replicate i at_⟩ := ⟨_, rfl⟩
  have h1 : b.reqs.length < 4294967296 := by rw [hb]; simp; omega
  have h2 : b.rets.length < 4294967296 := by rw [hb]; simp; omega
  have q1 := request_len b at_
  have q2 := retry_len b at_
  have hl1 : b.reqs.length ≤ 1000 := by rw [hb]; simp; omega
  have hl2 : b.rets.length ≤ 1000 := by rw [hb]; simp; omega
  have hbp : b.pv = .agg [.i ratio, .i least, .i 1, .d (.sl 1 (List.replicate k (ics at_))), .d (.sl 1 (List.replicate i (ics at_)))] := by rw [hb]; simp
  have r1 := request_m b at_ h1 h2
  have r2 := refRequest_m b at_ h1 h2
  have r3 := retry_m b at_ h1 h2
  have r4 := refRetry_m b at_ h1 h2
  rw [hbp] at r1 r2 r3 r4
  simp only [ics] at r1 r2 r3 r4
  simp
  refine r1.mono ?_
  rintro _ rfl
  simp
  refine r2.mono ?_
  rintro _ rfl
  simp
  refine (same_m _ _ (by omega) (by omega)).mono ?_
  rintro _ rfl
  simp
  refine r3.mono ?_
  rintro _ rfl
  simp
  refine r4.mono ?_
  rintro _ rfl
  simp
  refine (same_m _ _ (by omega) (by omega)).mono ?_
  rintro _ rfl
  simp
  refine aw ?_
  simp
  exact vcRet_of [] (by simp) rfl
end Go.Proofs.Ytakmipccgpgfgaa
