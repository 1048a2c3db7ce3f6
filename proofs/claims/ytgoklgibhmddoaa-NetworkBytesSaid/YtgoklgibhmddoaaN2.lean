/- Contracts: network 2. No condition. -/
import Derived.Test.YtgoklgibhmddoaaN1
namespace Go.Proofs.Ytgoklgibhmddoaa
open Go.RowKit
set_option maxRecDepth 100000

set_option maxHeartbeats 2000000 in
theorem ranges_m (s : Nw) (hf : Fits s) : Meets Try.prog 68 [.ptr 1000000 0] [s.box] (fun r => r = ⟨.b (ranges s), [s.box], []⟩) := by
  obtain ⟨f1, f2, f3⟩ := hf
  refine meetsH [] tbOk mixed Try.func68 pl68 rfl rfl ?_
  simp [Try.ntmps68]
  refine (anyBad_m s.plans f1).mono ?_
  rintro _ rfl
  cases hp : s.plans.all plOk
  · simp
    exact vcRet_of [] (by simp [ranges, hp]) rfl
  simp
  refine (inL_m s.now 0 1000000000000).mono ?_
  rintro _ rfl
  cases hn : inR s.now 0 1000000000000
  · simp
    exact vcRet_of [] (by simp [ranges, hn, timeOk]) rfl
  simp
  refine (inL_m s.next 1 1000000000000000).mono ?_
  rintro _ rfl
  cases hx : inR s.next 1 1000000000000000
  · simp
    exact vcRet_of [] (by simp [ranges, hx]) rfl
  have hxb : 1 ≤ s.next ∧ s.next ≤ 1000000000000000 := by unfold inR at hx; simpa using hx
  simp
  refine vc_loop (fun m σ => ∃ k : Nat, m = s.conns.length - k ∧ k ≤ s.conns.length ∧ noneTo (fun c => !cnRanges s c) s.conns k ∧ σ = ⟨113, [(32, .i k), (31, .i s.conns.length), (0, .ptr 1000000 0)], [(1000000, s.box)]⟩) ?_ ?_
  · exact ⟨_, _, ⟨0, rfl, Nat.zero_le _, noneTo_zero _ _, rfl⟩, [], _, rfl, by simp⟩
  rintro m σ ⟨k, rfl, hk, ha, rfl⟩
  by_cases hlt : k < s.conns.length
  case neg =>
    obtain rfl : k = s.conns.length := by omega
    have hall : s.conns.all (cnRanges s) = true := noneTo_all ha fun _ => rfl
    simp
    refine vcRet_of [] ?_ rfl
    simp only [ranges, hp, timeOk, hn, hx, hall]
    simp
  obtain ⟨c, hc, e⟩ := at_lt hlt
  obtain ⟨g1, g2⟩ := f3 c (List.mem_of_getElem? hc)
  have hbad : cnRanges s c = false → ranges s = false := fun h => by
    have : s.conns.all (cnRanges s) = false := List.all_eq_false.2 ⟨c, List.mem_of_getElem? hc, by simp [h]⟩
    simp [ranges, this]
  have hw1 : IntKind.i64.wrap (s.next - 1) = s.next - 1 := IntWalk.i64_in _ (by omega)
  have hw2 : IntKind.i64.wrap ((s.plans.length : Int) - 1) = (s.plans.length : Int) - 1 := IntWalk.i64_in _ (by omega)
  have hwk := wrap_succ hlt f2
  simp [hlt, e]
  refine (ways_m c.ds).mono ?_
  rintro _ rfl
  simp [hw1]
  refine effCall (inL_m c.id 1 (s.next - 1)) ?_
  cases h0 : inR c.id 1 (s.next - 1)
  · simp
    refine ⟨by kernel_rfl, ?_⟩
    refine vcRet_of [] ?_ rfl
    rw [hbad (by simp [cnRanges, h0, timeOk, never])]
    simp
  simp [hw2]
  refine effCall (inI_m c.backend 0 ((s.plans.length : Int) - 1)) ?_
  cases h1 : inR c.backend 0 ((s.plans.length : Int) - 1)
  · simp
    refine ⟨by kernel_rfl, ?_⟩
    refine vcRet_of [] ?_ rfl
    rw [hbad (by simp [cnRanges, h1, timeOk, never])]
    simp
  simp
  refine effCall (inI_m c.status 0 3) ?_
  cases h2 : inR c.status 0 3
  · simp
    refine ⟨by kernel_rfl, ?_⟩
    refine vcRet_of [] ?_ rfl
    rw [hbad (by simp [cnRanges, h2, timeOk, never])]
    simp
  simp
  refine effCall (inL_m c.born 0 1000000000000) ?_
  cases h3 : inR c.born 0 1000000000000
  · simp
    refine ⟨by kernel_rfl, ?_⟩
    refine vcRet_of [] ?_ rfl
    rw [hbad (by simp [cnRanges, h3, timeOk, never])]
    simp
  simp
  refine effCall (inL_m c.ready 0 1000000000001) ?_
  cases h4 : inR c.ready 0 1000000000001
  · simp
    refine ⟨by kernel_rfl, ?_⟩
    refine vcRet_of [] ?_ rfl
    rw [hbad (by simp [cnRanges, h4, timeOk, never])]
    simp
  simp
  refine effCall (inL_m c.sent 0 1000000000000000) ?_
  cases h5 : inR c.sent 0 1000000000000000
  · simp
    refine ⟨by kernel_rfl, ?_⟩
    refine vcRet_of [] ?_ rfl
    rw [hbad (by simp [cnRanges, h5, timeOk, never])]
    simp
  simp
  refine effCall (rangesU_m c g1.2) ?_
  cases hu : c.up.ranges
  · simp
    refine ⟨by kernel_rfl, ?_⟩
    refine vcRet_of [] ?_ rfl
    rw [hbad (by simp [cnRanges, hu])]
    simp
  simp
  refine effCall (rangesD_m c g2.2) ?_
  cases hd : c.dn.ranges
  · simp
    refine ⟨by kernel_rfl, ?_⟩
    refine vcRet_of [] ?_ rfl
    rw [hbad (by simp [cnRanges, hd])]
    simp
  simp [hwk]
  refine ⟨by kernel_rfl, ?_⟩
  have hgood : cnRanges s c = true := by
    unfold cnRanges timeOk never
    rw [h0, h1, h2, h3, h4, h5, hu, hd]
    rfl
  exact ⟨_, by omega, _, ⟨k + 1, rfl, hlt, noneTo_succ ha hc (by simp [hgood]), rfl⟩, [], _, rfl, by simp⟩
end Go.Proofs.Ytgoklgibhmddoaa
namespace Go.Proofs.Ytgoklgibhmddoaa
open Go.RowKit
set_option maxRecDepth 100000

set_option maxHeartbeats 2000000 in
theorem cnFormed_m (c : Cn) (hu : c.up.Fits) (hd : c.dn.Fits) : Meets Try.prog 69 [.ep c.ds 0] [] (Ret (.b (cnFormed c))) := by
  refine meetsH [] tbOk mixed Try.func69 pl69 rfl rfl ?_
  simp [Try.ntmps69]
  refine (ways_m c.ds).mono ?_
  rintro _ rfl
  simp
  refine effCall (formedU_m c c.born hu.2) ?_
  cases h1 : c.up.formed 2 c.born
  · simp
    refine ⟨by kernel_rfl, ?_⟩
    exact vcRet_of [] (by simp [cnFormed, h1]) rfl
  simp
  refine effCall (formedD_m c c.born hd.2) ?_
  cases h2 : c.dn.formed (-1) c.born
  · simp
    refine ⟨by kernel_rfl, ?_⟩
    exact vcRet_of [] (by simp [cnFormed, h2]) rfl
  by_cases h3 : c.dn.d = 2 ∧ ¬ c.dn.ar = []
  · have h3' : 0 < c.dn.ar.length := List.length_pos_iff.2 h3.2
    simp [h3.1, h3']
    refine ⟨by kernel_rfl, ?_⟩
    exact vcRet_of [] (by simp [cnFormed, h3.1, h3.2]) rfl
  have fin : c.dn.d = 2 → c.dn.ar.length = 0 := fun h => by
    rcases Nat.eq_zero_or_pos c.dn.ar.length with h0 | h0
    · exact h0
    · exact absurd ⟨h, fun e => by rw [e] at h0; simp at h0⟩ h3
  by_cases h4 : c.dn.d = 2
  · have h5 : c.dn.ar = [] := List.length_eq_zero_iff.1 (fin h4)
    simp [h4, h5]
    refine effCall (bytesU_m c hu) ?_
    by_cases h6 : c.sent < (c.up.n : Int)
    · simp [h6]
      refine ⟨by kernel_rfl, ?_⟩
      exact vcRet_of [] (by simp [cnFormed, h6]) rfl
    simp [h6]
    refine ⟨by kernel_rfl, ?_⟩
    by_cases h7 : c.status = 1
    · by_cases h8 : c.up.e = 0
      · simp [h7, h8]
        exact vcRet_of [] (by simp [cnFormed, h1, h2, h5, h6, h7, h8]) rfl
      · simp [h7, h8]
        exact vcRet_of [] (by simp [cnFormed, h7, h8]) rfl
    by_cases h8 : c.status = 3
    · simp [h8]
      refine (quietD_m c hd).mono ?_
      rintro _ rfl
      simp
      exact vcRet_of [] (by simp [cnFormed, h1, h2, h5, h6, h8]) rfl
    simp [h7, h8]
    refine (quietU_m c hu).mono ?_
    rintro _ rfl
    cases h9 : c.up.quiet
    · simp
      exact vcRet_of [] (by simp [cnFormed, h7, h8, h9]) rfl
    simp
    refine (quietD_m c hd).mono ?_
    rintro _ rfl
    cases h10 : c.dn.quiet
    · simp
      exact vcRet_of [] (by simp [cnFormed, h7, h8, h10]) rfl
    simp
    exact vcRet_of [] (by simp [cnFormed, h1, h2, h5, h6, h7, h8, h9, h10]) rfl
  · simp [h4]
    refine effCall (bytesU_m c hu) ?_
    by_cases h6 : c.sent < (c.up.n : Int)
    · simp [h6]
      refine ⟨by kernel_rfl, ?_⟩
      exact vcRet_of [] (by simp [cnFormed, h6]) rfl
    simp [h6]
    refine ⟨by kernel_rfl, ?_⟩
    by_cases h7 : c.status = 1
    · by_cases h8 : c.up.e = 0
      · simp [h7, h8]
        exact vcRet_of [] (by simp [cnFormed, h1, h2, h4, h6, h7, h8]) rfl
      · simp [h7, h8]
        exact vcRet_of [] (by simp [cnFormed, h7, h8]) rfl
    by_cases h8 : c.status = 3
    · simp [h8]
      refine (quietD_m c hd).mono ?_
      rintro _ rfl
      simp
      exact vcRet_of [] (by simp [cnFormed, h1, h2, h4, h6, h8]) rfl
    simp [h7, h8]
    refine (quietU_m c hu).mono ?_
    rintro _ rfl
    cases h9 : c.up.quiet
    · simp
      exact vcRet_of [] (by simp [cnFormed, h7, h8, h9]) rfl
    simp
    refine (quietD_m c hd).mono ?_
    rintro _ rfl
    cases h10 : c.dn.quiet
    · simp
      exact vcRet_of [] (by simp [cnFormed, h7, h8, h10]) rfl
    simp
    exact vcRet_of [] (by simp [cnFormed, h1, h2, h4, h6, h7, h8, h9, h10]) rfl
end Go.Proofs.Ytgoklgibhmddoaa
namespace Go.Proofs.Ytgoklgibhmddoaa
open Go.RowKit
set_option maxRecDepth 100000

def ByTo (c : Cn) (j : Nat) : Prop := (1 ≤ j → ¬ 1048576 < c.up.n) ∧ (2 ≤ j → ¬ 1048576 < c.dn.n)
set_option maxHeartbeats 4000000 in
theorem check_m (s : Nw) (hf : Fits s) : Meets Try.prog 23 [s.pv] [] (Ret (.i (chk s))) := by
  have hf0 := hf
  obtain ⟨f1, f2, f3⟩ := hf
  refine meetsH [] tbOk mixed Try.func23 pl23 rfl rfl ?_
  by_cases h1 : (16 : Int) < s.plans.length
  · simp [Try.ntmps23, h1]
    refine vcRet_of [] ?_ rfl
    have : 16 < s.plans.length := by omega
    simp [chk, this]
  by_cases h2 : (500 : Int) < s.conns.length
  · simp [Try.ntmps23, h1, h2]
    refine vcRet_of [] ?_ rfl
    have : 500 < s.conns.length := by omega
    simp [chk, this]
  have h1n : ¬ 16 < s.plans.length := by omega
  have h2n : ¬ 500 < s.conns.length := by omega
  simp [Try.ntmps23, h1, h2]
  refine vc_loop (fun m σ => ∃ k : Nat, m = s.conns.length - k ∧ k ≤ s.conns.length ∧ noneTo longC s.conns k ∧ σ = ⟨75, [(22, .i k), (21, .i s.conns.length), (1, .ptr 1 0)], [(1, s.box)]⟩) ?_ ?_
  · exact ⟨_, _, ⟨0, rfl, Nat.zero_le _, noneTo_zero _ _, rfl⟩, [], _, rfl, by simp⟩
  rintro m σ ⟨k, rfl, hk, hn, rfl⟩
  by_cases hlt : k < s.conns.length
  · obtain ⟨c, hc, e⟩ := at_lt hlt
    obtain ⟨g1, g2⟩ := f3 c (List.mem_of_getElem? hc)
    have hbad : longC c = true → chk s = 3 := fun h => by
      have : s.conns.any longC = true := any_at hc h
      simp [chk, h1n, h2n, this]
    simp [hlt, e]
    refine (ways_m c.ds).mono ?_
    rintro _ rfl
    simp
    refine vc_loop (fun m' σ => ∃ j : Nat, m' = 9 - j ∧ j ≤ 2 ∧ ByTo c j ∧ σ = ⟨75, [(30, .i j), (29, waysW c.ds), (22, .i k), (21, .i s.conns.length), (1, .ptr 1 0)], [(1, s.box)]⟩) ?_ ?_
    · exact ⟨_, _, ⟨0, rfl, by omega, ⟨by omega, by omega⟩, rfl⟩, [], _, rfl, by simp⟩
    rintro m' σ ⟨j, rfl, hj, ⟨q1, q2⟩, rfl⟩
    have hj3 : j = 0 ∨ j = 1 ∨ j = 2 := by omega
    rcases hj3 with rfl | rfl | rfl
    · simp
      refine (bytesU_m c g1).mono ?_
      rintro _ rfl
      by_cases h5 : (1048576 : Int) < c.up.n
      · simp [h5]
        refine vcRet_of [] ?_ rfl
        have h5n : 1048576 < c.up.n := by omega
        rw [hbad (by simp [longC, h5n])]
        simp
      · simp [h5, IntWalk.i64_in]
        exact ⟨_, by omega, _, ⟨1, rfl, by omega, ⟨fun _ => by omega, by omega⟩, rfl⟩, [], _, rfl, by simp⟩
    · simp
      refine (bytesD_m c g2).mono ?_
      rintro _ rfl
      by_cases h5 : (1048576 : Int) < c.dn.n
      · simp [h5]
        refine vcRet_of [] ?_ rfl
        have h5n : 1048576 < c.dn.n := by omega
        rw [hbad (by simp [longC, h5n])]
        simp
      · simp [h5, IntWalk.i64_in]
        exact ⟨_, by omega, _, ⟨2, rfl, by omega, ⟨fun _ => q1 (by omega), fun _ => by omega⟩, rfl⟩, [], _, rfl, by simp⟩
    · simp [wrap_succ hlt f2]
      have h6 := q1 (by omega)
      have h7 := q2 (by omega)
      exact ⟨_, by omega, _, ⟨k + 1, rfl, hlt, noneTo_succ hn hc (by simp [longC, h6, h7]), rfl⟩, [], _, rfl, by simp⟩
  obtain rfl : k = s.conns.length := by omega
  have hlong := noneTo_any hn
  simp
  refine (ranges_m s hf0).mono ?_
  rintro _ rfl
  cases hr : ranges s
  · simp
    exact vcRet_of [] (by simp [chk, h1n, h2n, hlong, hr]) rfl
  simp
  refine vc_loop (fun m σ => ∃ k : Nat, m = s.conns.length - k ∧ k ≤ s.conns.length ∧ ∃ b : Int, idsTo 0 s.now s.conns = idsTo b s.now (s.conns.drop k) ∧ σ = ⟨75, [(43, .i k), (42, .i s.conns.length), (6, .i b), (1, .ptr 1 0)], [(1, s.box)]⟩) ?_ ?_
  · exact ⟨_, _, ⟨0, rfl, Nat.zero_le _, 0, rfl, rfl⟩, [], _, rfl, by simp⟩
  rintro m σ ⟨k, rfl, hk, b, hb, rfl⟩
  by_cases hlt : k < s.conns.length
  · obtain ⟨c, hc, e⟩ := at_lt hlt
    obtain ⟨g1, g2⟩ := f3 c (List.mem_of_getElem? hc)
    have hd : s.conns.drop k = c :: s.conns.drop (k + 1) := by rw [← e]; exact List.drop_eq_getElem_cons hlt
    rw [hd] at hb
    have hbad : idsTo b s.now (c :: s.conns.drop (k + 1)) = false → chk s = 6 := fun h => by simp [chk, h1n, h2n, hlong, hr, hb, h]
    by_cases a1 : c.id ≤ b
    · simp [hlt, e, a1]
      refine ⟨by kernel_rfl, ?_⟩
      refine vcRet_of [] ?_ rfl
      have : ¬ b < c.id := by omega
      rw [hbad (by simp [idsTo, this])]
      simp
    by_cases a2 : s.now < c.born
    · simp [hlt, e, a1, a2]
      refine ⟨by kernel_rfl, ?_⟩
      refine vcRet_of [] ?_ rfl
      have : ¬ c.born ≤ s.now := by omega
      rw [hbad (by simp [idsTo, this])]
      simp
    simp [hlt, e, a1, a2]
    refine effCall (cnFormed_m c g1 g2) ?_
    cases hcf : cnFormed c
    · simp
      refine ⟨by kernel_rfl, ?_⟩
      refine vcRet_of [] ?_ rfl
      rw [hbad (by simp [idsTo, hcf])]
      simp
    simp [wrap_succ hlt f2]
    refine ⟨by kernel_rfl, ?_⟩
    refine ⟨_, by omega, _, ⟨k + 1, rfl, hlt, c.id, ?_, rfl⟩, [], _, rfl, by simp⟩
    have b1 : b < c.id := by omega
    have b2 : c.born ≤ s.now := by omega
    rw [hb]
    simp [idsTo, hcf, b1, b2]
  obtain rfl : k = s.conns.length := by omega
  rw [List.drop_length] at hb
  have hb : idsTo 0 s.now s.conns = true := hb
  simp
  exact vcRet_of [] (by simp [chk, h1n, h2n, hlong, hr, hb]) rfl
def knownE (s : Nw) (b : Int) : Int := if chk s ≠ 0 then chk s else if b < 0 ∨ (s.plans.length : Int) ≤ b then 4 else 0
theorem known_m (s : Nw) (hf : Fits s) (b : Int) : Meets Try.prog 43 [.ptr 1000000 0, .i b] [s.box] (fun r => r = ⟨.i (knownE s b), [s.box], []⟩) := by
  refine meetsH [] tbOk mixed Try.func43 pl43 rfl rfl ?_
  simp [Try.ntmps43]
  refine (check_m s hf).mono ?_
  rintro _ rfl
  by_cases hc : chk s = 0
  case neg =>
    simp [hc]
    exact vcRet_of [] (by simp [knownE, hc]) rfl
  by_cases h1 : b < 0
  · simp [hc, h1]
    exact vcRet_of [] (by simp [knownE, hc, h1]) rfl
  by_cases h2 : (s.plans.length : Int) ≤ b
  · simp [hc, h1, h2]
    exact vcRet_of [] (by simp [knownE, hc, h2]) rfl
  simp [hc, h1, h2]
  exact vcRet_of [] (by simp [knownE, hc, h1, h2]) rfl
end Go.Proofs.Ytgoklgibhmddoaa
namespace Go.Proofs.Ytgoklgibhmddoaa
open Go.RowKit
set_option maxRecDepth 100000

theorem sameId_m (c : Cn) (n : Int) : Meets Try.prog 98 [.agg (c.ds.map .d), .ptr 1000000 0] [.box 2 [.i n]] (fun r => r = ⟨.b (decide (c.id = n)), [.box 2 [.i n]], []⟩) := by
  refine meetsH [] tbOk mixed Try.func98 pl98 rfl rfl ?_
  simp [Try.ntmps98]
  exact vcRet_of [] (by simp) rfl
theorem idxId_m (l : List Cn) (hl : l.length < 4294967296) (n : Int) : Meets Try.prog 97 [.d (cns l), .clo 98 [.ptr 1000000 0]] [.box 2 [.i n]] (fun r => r = ⟨.i (idx (fun c => decide (c.id = n)) l 0), [.box 2 [.i n]], []⟩) := by
  refine meetsH [] tbOk mixed Try.func97 pl97 rfl rfl ?_
  simp [Try.ntmps97]
  refine vc_loop (fun m σ => ∃ k : Nat, m = l.length - k ∧ k ≤ l.length ∧ noneTo (fun c : Cn => decide (c.id = n)) l k ∧ σ = ⟨19, [(8, .i k), (7, .i l.length), (0, .d (cns l)), (1, .clo 98 [.ptr 1000000 0])], [(1000000, .box 2 [.i n])]⟩) ?_ ?_
  · exact ⟨_, _, ⟨0, rfl, Nat.zero_le _, noneTo_zero _ _, rfl⟩, [], _, rfl, by simp⟩
  rintro m σ ⟨k, rfl, hk, hn, rfl⟩
  by_cases hlt : k < l.length
  · obtain ⟨c, hc, e⟩ := at_lt hlt
    simp [hlt, e]
    refine (sameId_m c n).mono ?_
    rintro _ rfl
    by_cases h : c.id = n
    · simp [h]
      refine vcRet_of [] ?_ rfl
      rw [idx_hit _ l k c hc (by simp [h]) hn]
      simp
    · simp [h, wrap_succ hlt hl]
      exact ⟨_, by omega, _, ⟨k + 1, rfl, hlt, noneTo_succ hn hc (by simp [h]), rfl⟩, [], _, rfl, by simp⟩
  obtain rfl : k = l.length := by omega
  simp
  refine vcRet_of [] ?_ rfl
  rw [idx_miss _ l hn]
  simp
/-- The place of a connection, and its error. -/
def findE (s : Nw) (n : Int) : Int × Int := if chk s ≠ 0 then (0, chk s) else if idx (fun c => decide (c.id = n)) s.conns 0 < 0 then (0, 4) else (idx (fun c => decide (c.id = n)) s.conns 0, 0)
theorem find_m (s : Nw) (hf : Fits s) (n : Int) : Meets Try.prog 71 [.ptr 1000000 0, .i n] [s.box] (fun r => r = ⟨.tup [.i (findE s n).1, .i (findE s n).2], [s.box], []⟩) := by
  refine meetsH [] tbOk mixed Try.func71 pl71 rfl rfl ?_
  simp [Try.ntmps71]
  refine (check_m s hf).mono ?_
  rintro _ rfl
  by_cases hc : chk s = 0
  case neg =>
    simp [hc]
    exact vcRet_of [] (by simp [findE, hc]) rfl
  simp [hc]
  refine (idxId_m s.conns hf.2.1 n).mono ?_
  rintro _ rfl
  by_cases h : idx (fun c => decide (c.id = n)) s.conns 0 < 0
  · simp [h]
    exact vcRet_of [] (by simp [findE, hc, h]) rfl
  · simp [h]
    exact vcRet_of [] (by simp [findE, hc, h]) rfl
theorem indexI_m (l : List Int) (hl : l.length < 4294967296) (n : Int) : Meets Try.prog 100 [.d (.sl 1 (l.map ics)), .i n] [] (Ret (.i (idx (fun x => decide (n = x)) l 0))) := by
  refine meetsH [] tbOk mixed Try.func100 pl100 rfl rfl ?_
  simp [Try.ntmps100]
  refine vc_loop (fun m σ => ∃ k : Nat, m = l.length - k ∧ k ≤ l.length ∧ noneTo (fun x => decide (n = x)) l k ∧ σ = ⟨19, [(8, .i k), (7, .i l.length), (0, .d (.sl 1 (l.map ics))), (1, .i n)], []⟩) ?_ ?_
  · exact ⟨_, _, ⟨0, rfl, Nat.zero_le _, noneTo_zero _ _, rfl⟩, [], _, rfl, by simp⟩
  rintro m σ ⟨k, rfl, hk, hn, rfl⟩
  by_cases hlt : k < l.length
  · obtain ⟨x, hx, e⟩ := at_lt hlt
    by_cases h : n = x
    · simp [hlt, e, h]
      refine vcRet_of [] ?_ rfl
      rw [← h, idx_hit _ l k x hx (by simp [h]) hn]
      simp
    · simp [hlt, e, h, wrap_succ hlt hl]
      exact ⟨_, by omega, _, ⟨k + 1, rfl, hlt, noneTo_succ hn hx (by simp [h]), rfl⟩, [], _, rfl, by simp⟩
  obtain rfl : k = l.length := by omega
  simp
  refine vcRet_of [] ?_ rfl
  rw [idx_miss _ l hn]
  simp
theorem contains_m (l : List Int) (hl : l.length < 4294967296) (n : Int) : Meets Try.prog 73 [.d (.sl 1 (l.map ics)), .i n] [] (Ret (.b (decide (n ∈ l)))) := by
  refine meetsH [] tbOk mixed Try.func73 pl73 rfl rfl ?_
  simp [Try.ntmps73]
  refine (indexI_m l hl n).mono ?_
  rintro _ rfl
  simp
  refine vcRet_of [] ?_ rfl
  have h := idx_any (fun x => decide (n = x)) l 0 (by omega)
  by_cases hm : n ∈ l
  · have : 0 ≤ idx (fun x => decide (n = x)) l 0 := h.2 (List.any_eq_true.2 ⟨n, hm, by simp⟩)
    simp [hm, this]
  · have : ¬ 0 ≤ idx (fun x => decide (n = x)) l 0 := fun h0 => by
      obtain ⟨x, hx, e⟩ := List.any_eq_true.1 (h.1 h0)
      simp at e
      exact hm (e ▸ hx)
    simp [hm, this]
/-- The directions, by pointers into a connection in a box of its own. -/
@[simp] def waysP (k : Nat) : PV := .agg [.ptr k 6, .ptr k 8, .ptr k 10, .ptr k 14, .ptr k 12, .i 3, .i 2, .ptr k 7, .ptr k 9, .ptr k 11, .ptr k 15, .ptr k 13, .i 4, .i (-1)]
theorem waysP_m (c : Cn) : Meets Try.prog 31 [.ptr 1000000 0] [.box 67 (c.ds.map .d)] (fun r => r = ⟨waysP 1000000, [.box 67 (c.ds.map .d)], []⟩) := by
  refine meetsH [] tbOk mixed Try.func31 pl31 rfl rfl ?_
  simp [Try.ntmps31]
  refine ⟨by kernel_rfl, ?_⟩
  refine vcRet_of [] ?_ rfl
  simp
end Go.Proofs.Ytgoklgibhmddoaa
namespace Go.Proofs.Ytgoklgibhmddoaa
open Go.RowKit
set_option maxRecDepth 100000

theorem cloneBd_m (l : List Int) (hl : l.length < 4294967296) : Meets Try.prog 46 [.d (bs l)] [] (Ret (.d (bs l))) := by
  refine meets tbOk mixed Try.func46 pl46 rfl rfl ?_
  simp [Try.ntmps46]
  refine ⟨⟨hl, vcRet_of [] (by simp [List.take_of_length_le]) rfl⟩, fun h => ?_⟩
  refine vcRet_prep [.data 2 1] [] (σ1 := _) rfl ?_ rfl
  simp [h]
theorem setPc (l : List Pc) {k : Nat} {x : Pc} (h : l[k]? = some x) : (l.map Pc.ds).set k [.v (.int .i64 x.time), .sl 1 (x.bytes.map u8s)] = l.map Pc.ds := by
  apply List.ext_getElem?
  intro i
  rw [List.getElem?_set]
  split
  · rename_i e; subst e
    obtain ⟨h1, rfl⟩ := List.getElem?_eq_some_iff.1 h
    simp [h1]
  · rfl
/-- A connection's cells, with its lists as they are said. -/
@[simp] def cnC (c : Cn) (a b d e : PV) : List PV := [.i c.id, .i c.backend, .i c.status, .i c.born, .i c.ready, .i c.sent, a, b, d, e, .i c.up.e, .i c.dn.e, .i c.up.t, .i c.dn.t, .i c.up.d, .i c.dn.d]
@[simp] def any16 : List PV := [.any, .any, .any, .any, .any, .any, .any, .any, .any, .any, .any, .any, .any, .any, .any, .any]
@[simp] def rowP (l : List Pc) : MObj := .row 119 2 (l.map Pc.ds) false
@[simp] def rowB (l : List Int) : MObj := .row 5 1 (l.map u8s) false
/-- Between the directions. -/
inductive CloI (c : Cn) : Nat → Sta → Prop
  | a : CloI c 9 ⟨52, [(8, .i 0), (7, waysP 1), (1, .ptr 1 0), (2, .ptr 2 0)], [(1, .box 67 (c.ds.map .d)), (2, .box 67 any16)]⟩
  | b : CloI c 8 ⟨52, [(8, .i 1), (7, waysP 1), (1, .ptr 1 0), (2, .ptr 2 0)], [(1, .box 67 (cnC c (.rw 500001 c.up.ps.length) (.d (pcs c.dn.ps)) (.rw 500000 c.up.ar.length) (.d (bs c.dn.ar)))), (500001, rowP c.up.ps), (500000, rowB c.up.ar), (2, .box 67 any16)]⟩
  | d : CloI c 7 ⟨52, [(8, .i 2), (7, waysP 1), (1, .ptr 1 0), (2, .ptr 2 0)], [(1, .box 67 (cnC c (.rw 500001 c.up.ps.length) (.rw 500003 c.dn.ps.length) (.rw 500000 c.up.ar.length) (.rw 500002 c.dn.ar.length))), (500001, rowP c.up.ps), (500003, rowP c.dn.ps), (500000, rowB c.up.ar), (500002, rowB c.dn.ar), (2, .box 67 any16)]⟩
set_option maxHeartbeats 4000000 in
theorem clone_m (c : Cn) (hu : c.up.Fits) (hd : c.dn.Fits) : Meets Try.prog 72 [.agg (c.ds.map .d)] [] (fun r => r = ⟨.agg (cnC c (.rw 2000000 c.up.ps.length) (.rw 2000001 c.dn.ps.length) (.rw 2000002 c.up.ar.length) (.rw 2000003 c.dn.ar.length)), [], [rowP c.up.ps, rowP c.dn.ps, rowB c.up.ar, rowB c.dn.ar]⟩) := by
  obtain ⟨u1, u2⟩ := hu
  obtain ⟨d1, d2⟩ := hd
  have u3 : c.up.ar.length < 4294967296 := by have : fly c.up.ps + c.up.ar.length < 4294967296 := u1; omega
  have d3 : c.dn.ar.length < 4294967296 := by have : fly c.dn.ps + c.dn.ar.length < 4294967296 := d1; omega
  have ub : ∀ p ∈ c.up.ps, p.bytes.length < 4294967296 := fun p hp => by have := fly_mem hp; have : fly c.up.ps + c.up.ar.length < 4294967296 := u1; omega
  have db : ∀ p ∈ c.dn.ps, p.bytes.length < 4294967296 := fun p hp => by have := fly_mem hp; have : fly c.dn.ps + c.dn.ar.length < 4294967296 := d1; omega
  refine meetsH [] tbOk mixed Try.func72 pl72 rfl rfl ?_
  simp [Try.ntmps72]
  refine (waysP_m c).mono ?_
  rintro _ rfl
  simp
  refine vc_loop (CloI c) ?_ ?_
  · exact ⟨_, _, .a, [], _, rfl, by simp⟩
  rintro m σ (_ | _ | _)
  · simp
    refine effCallN (cloneB_m c.up.ar u3) ?_
    simp
    refine effCallN (clonePc_m c.up.ps u2) ?_
    simp
    refine ⟨by kernel_rfl, ?_⟩
    refine vc_loop (fun m' σ => ∃ j : Nat, m' = c.up.ps.length - j ∧ j ≤ c.up.ps.length ∧ σ = ⟨52, [(32, .i j), (31, .i c.up.ps.length), (8, .i 0), (7, waysP 1), (4, .ptr 4 0), (1, .ptr 1 0), (2, .ptr 2 0)],
      [(1, .box 67 (cnC c (.rw 24 c.up.ps.length) (.d (pcs c.dn.ps)) (.rw 19 c.up.ar.length) (.d (bs c.dn.ar)))), (4, .box 87 [.ptr 1 6, .ptr 1 8, .ptr 1 10, .ptr 1 14, .ptr 1 12, .i 3, .i 2]), (24, rowP c.up.ps), (19, rowB c.up.ar), (2, .box 67 any16)]⟩) ?_ ?_
    · exact ⟨_, _, ⟨0, rfl, Nat.zero_le _, rfl⟩, [], _, rfl, by simp⟩
    rintro m' σ ⟨j, rfl, hj, rfl⟩
    by_cases hlt : j < c.up.ps.length
    · obtain ⟨p, hp, e⟩ := at_lt hlt
      simp [hlt, e]
      refine (cloneBd_m p.bytes (ub p (List.mem_of_getElem? hp))).mono ?_
      rintro _ rfl
      simp [hlt, setPc c.up.ps hp, e, wrap_succ hlt u2]
      exact ⟨_, by omega, _, ⟨j + 1, rfl, hlt, rfl⟩, [], _, rfl, by simp⟩
    obtain rfl : j = c.up.ps.length := by omega
    simp [IntWalk.i64_in]
    exact ⟨8, by omega, _, .b, [.rename 24 500001, .rename 19 500000], _, rfl, by simp⟩
  · simp
    refine effCallN (cloneB_m c.dn.ar d3) ?_
    simp
    refine effCallN (clonePc_m c.dn.ps d2) ?_
    simp
    refine ⟨by kernel_rfl, ?_⟩
    refine vc_loop (fun m' σ => ∃ j : Nat, m' = c.dn.ps.length - j ∧ j ≤ c.dn.ps.length ∧ σ = ⟨52, [(32, .i j), (31, .i c.dn.ps.length), (8, .i 1), (7, waysP 1), (4, .ptr 4 0), (1, .ptr 1 0), (2, .ptr 2 0)],
      [(1, .box 67 (cnC c (.rw 500001 c.up.ps.length) (.rw 24 c.dn.ps.length) (.rw 500000 c.up.ar.length) (.rw 19 c.dn.ar.length))), (4, .box 87 [.ptr 1 7, .ptr 1 9, .ptr 1 11, .ptr 1 15, .ptr 1 13, .i 4, .i (-1)]), (24, rowP c.dn.ps), (19, rowB c.dn.ar), (500001, rowP c.up.ps), (500000, rowB c.up.ar), (2, .box 67 any16)]⟩) ?_ ?_
    · exact ⟨_, _, ⟨0, rfl, Nat.zero_le _, rfl⟩, [], _, rfl, by simp⟩
    rintro m' σ ⟨j, rfl, hj, rfl⟩
    by_cases hlt : j < c.dn.ps.length
    · obtain ⟨p, hp, e⟩ := at_lt hlt
      simp [hlt, e]
      refine (cloneBd_m p.bytes (db p (List.mem_of_getElem? hp))).mono ?_
      rintro _ rfl
      simp [hlt, setPc c.dn.ps hp, e, wrap_succ hlt d2]
      exact ⟨_, by omega, _, ⟨j + 1, rfl, hlt, rfl⟩, [], _, rfl, by simp⟩
    obtain rfl : j = c.dn.ps.length := by omega
    simp [IntWalk.i64_in]
    exact ⟨7, by omega, _, .d, [.rename 24 500003, .rename 19 500002], _, rfl, by simp⟩
  · simp
    refine vcRet_of [500001, 500003, 500000, 500002] ?_ rfl
    simp [List.idxOf_cons]
end Go.Proofs.Ytgoklgibhmddoaa
namespace Go.Proofs.Ytgoklgibhmddoaa
open Go.RowKit
set_option maxRecDepth 100000

theorem upTo_succ (k : Nat) : ∀ a, (decide (a < k) || decide (a = k)) = decide (a < k + 1) := fun a => by
  rw [Bool.eq_iff_iff]; simp; omega
theorem setCn (l : List Cn) {k : Nat} {c : Cn} (h : l[k]? = some c) : (l.map Cn.ds).set k [.v (.int .i64 c.id), .v (.int .i64 c.backend), .v (.int .i64 c.status), .v (.int .i64 c.born), .v (.int .i64 c.ready), .v (.int .i64 c.sent),
    .sl 2 (c.up.ps.map Pc.ds), .sl 2 (c.dn.ps.map Pc.ds), .sl 1 (c.up.ar.map u8s), .sl 1 (c.dn.ar.map u8s), .v (.int .i64 c.up.e), .v (.int .i64 c.dn.e), .v (.int .i64 c.up.t), .v (.int .i64 c.dn.t), .v (.int .i64 c.up.d), .v (.int .i64 c.dn.d)] = l.map Cn.ds := by
  apply List.ext_getElem?
  intro i
  rw [List.getElem?_set]
  split
  · rename_i e; subst e
    obtain ⟨h1, rfl⟩ := List.getElem?_eq_some_iff.1 h
    simp [h1]
    rfl
  · rfl
@[simp] def nestD (l : List Cn) (k : Nat) : MObj := .nest 67 16 (l.map Cn.ds) (fun _ => false) [] none
set_option maxHeartbeats 4000000 in
theorem copiedD_m (s : Nw) (hf : Fits s) : Meets Try.prog 36 [s.pv] [] (fun r => r = ⟨.agg [.i s.now, .i s.next, .rw 2000000 s.plans.length, .rw 2000001 s.conns.length], [], [.row 54 3 (s.plans.map Pl.ds) false, nestD s.conns s.conns.length]⟩) := by
  obtain ⟨f1, f2, f3⟩ := hf
  refine meetsP [(13, [.nest 10 []]), (18, [.focus 10 16 []]), (27, [.seenN 10 6, .seenN 10 7, .seenN 10 8, .seenN 10 9, .close 10])] tbOk mixed Try.func36 pl36 rfl rfl ?_
  simp [Try.ntmps36]
  refine effCallN (clonePl_m s.plans f1) ?_
  simp
  refine effCallN (cloneCn_m s.conns f2) ?_
  simp [Prep.run]
  refine ⟨by kernel_rfl, ?_⟩
  refine vc_loop (fun m σ => ∃ k : Nat, m = s.conns.length - k ∧ k ≤ s.conns.length ∧ σ = ⟨29, [(16, .i k), (15, .i s.conns.length), (14, .rw 10 s.conns.length), (1, .ptr 1 0), (2, .ptr 2 0)], [(2, .box 25 [.any, .any, .any, .any]), (1, .box 25 [.i s.now, .i s.next, .rw 7 s.plans.length, .rw 10 s.conns.length]), (10, nestD s.conns k), (7, .row 54 3 (s.plans.map Pl.ds) false)]⟩) ?_ ?_
  · exact ⟨_, _, ⟨0, rfl, Nat.zero_le _, rfl⟩, [], _, rfl, by simp⟩
  rintro m σ ⟨k, rfl, hk, rfl⟩
  by_cases hlt : k < s.conns.length
  · obtain ⟨c, hc, e⟩ := at_lt hlt
    obtain ⟨g1, g2⟩ := f3 c (List.mem_of_getElem? hc)
    simp [hlt, e, Prep.run]
    refine effCallN (clone_m c g1 g2) ?_
    simp [Prep.run, hlt, List.take_of_length_le, setCn s.conns hc, wrap_succ hlt f2]
    refine ⟨by kernel_rfl, ?_⟩
    exact ⟨_, by omega, _, ⟨k + 1, rfl, hlt, rfl⟩, [], _, rfl, by simp⟩
  obtain rfl : k = s.conns.length := by omega
  simp
  refine vcRet_of [7, 10] ?_ rfl
  simp
  rfl
@[simp] def nestU (l : List Cn) (k : Nat) : MObj := .nest 67 16 (l.map Cn.ds) (fun a => decide (a < k)) [(6, 119)] none
set_option maxHeartbeats 4000000 in
theorem copiedU_m (s : Nw) (hf : Fits s) : Meets Try.prog 36 [s.pv] [] (fun r => r = ⟨.agg [.i s.now, .i s.next, .rw 2000000 s.plans.length, .rw 2000001 s.conns.length], [], [.row 54 3 (s.plans.map Pl.ds) false, nestU s.conns s.conns.length]⟩) := by
  obtain ⟨f1, f2, f3⟩ := hf
  refine meetsP [(13, [.nest 10 [(6, 119)]]), (18, [.focus 10 16 []]), (27, [.seenN 10 7, .seenN 10 8, .seenN 10 9, .shut 10])] tbOk mixed Try.func36 pl36 rfl rfl ?_
  simp [Try.ntmps36]
  refine effCallN (clonePl_m s.plans f1) ?_
  simp
  refine effCallN (cloneCn_m s.conns f2) ?_
  simp [Prep.run]
  refine ⟨by kernel_rfl, ?_⟩
  refine vc_loop (fun m σ => ∃ k : Nat, m = s.conns.length - k ∧ k ≤ s.conns.length ∧ σ = ⟨29, [(16, .i k), (15, .i s.conns.length), (14, .rw 10 s.conns.length), (1, .ptr 1 0), (2, .ptr 2 0)], [(2, .box 25 [.any, .any, .any, .any]), (1, .box 25 [.i s.now, .i s.next, .rw 7 s.plans.length, .rw 10 s.conns.length]), (10, nestU s.conns k), (7, .row 54 3 (s.plans.map Pl.ds) false)]⟩) ?_ ?_
  · exact ⟨_, _, ⟨0, rfl, Nat.zero_le _, rfl⟩, [], _, rfl, by simp⟩
  rintro m σ ⟨k, rfl, hk, rfl⟩
  by_cases hlt : k < s.conns.length
  · obtain ⟨c, hc, e⟩ := at_lt hlt
    obtain ⟨g1, g2⟩ := f3 c (List.mem_of_getElem? hc)
    simp [hlt, e, Prep.run]
    refine effCallN (clone_m c g1 g2) ?_
    simp [Prep.run, hlt, List.take_of_length_le, setCn s.conns hc, wrap_succ hlt f2]
    refine ⟨by kernel_rfl, ?_⟩
    exact ⟨_, by omega, _, ⟨k + 1, rfl, hlt, rfl⟩, [], _, rfl, by simp [upTo_succ]⟩
  obtain rfl : k = s.conns.length := by omega
  simp
  refine vcRet_of [7, 10] ?_ rfl
  simp
  rfl
@[simp] def nestP (l : List Cn) (k : Nat) : MObj := .nest 67 16 (l.map Cn.ds) (fun a => decide (a < k)) [(7, 119)] none
set_option maxHeartbeats 4000000 in
theorem copiedP_m (s : Nw) (hf : Fits s) : Meets Try.prog 36 [s.pv] [] (fun r => r = ⟨.agg [.i s.now, .i s.next, .rw 2000000 s.plans.length, .rw 2000001 s.conns.length], [], [.row 54 3 (s.plans.map Pl.ds) false, nestP s.conns s.conns.length]⟩) := by
  obtain ⟨f1, f2, f3⟩ := hf
  refine meetsP [(13, [.nest 10 [(7, 119)]]), (18, [.focus 10 16 []]), (27, [.seenN 10 6, .seenN 10 8, .seenN 10 9, .shut 10])] tbOk mixed Try.func36 pl36 rfl rfl ?_
  simp [Try.ntmps36]
  refine effCallN (clonePl_m s.plans f1) ?_
  simp
  refine effCallN (cloneCn_m s.conns f2) ?_
  simp [Prep.run]
  refine ⟨by kernel_rfl, ?_⟩
  refine vc_loop (fun m σ => ∃ k : Nat, m = s.conns.length - k ∧ k ≤ s.conns.length ∧ σ = ⟨29, [(16, .i k), (15, .i s.conns.length), (14, .rw 10 s.conns.length), (1, .ptr 1 0), (2, .ptr 2 0)], [(2, .box 25 [.any, .any, .any, .any]), (1, .box 25 [.i s.now, .i s.next, .rw 7 s.plans.length, .rw 10 s.conns.length]), (10, nestP s.conns k), (7, .row 54 3 (s.plans.map Pl.ds) false)]⟩) ?_ ?_
  · exact ⟨_, _, ⟨0, rfl, Nat.zero_le _, rfl⟩, [], _, rfl, by simp⟩
  rintro m σ ⟨k, rfl, hk, rfl⟩
  by_cases hlt : k < s.conns.length
  · obtain ⟨c, hc, e⟩ := at_lt hlt
    obtain ⟨g1, g2⟩ := f3 c (List.mem_of_getElem? hc)
    simp [hlt, e, Prep.run]
    refine effCallN (clone_m c g1 g2) ?_
    simp [Prep.run, hlt, List.take_of_length_le, setCn s.conns hc, wrap_succ hlt f2]
    refine ⟨by kernel_rfl, ?_⟩
    exact ⟨_, by omega, _, ⟨k + 1, rfl, hlt, rfl⟩, [], _, rfl, by simp [upTo_succ]⟩
  obtain rfl : k = s.conns.length := by omega
  simp
  refine vcRet_of [7, 10] ?_ rfl
  simp
  rfl
@[simp] def nestT (l : List Cn) (k : Nat) : MObj := .nest 67 16 (l.map Cn.ds) (fun a => decide (a < k)) [(8, 5), (9, 5)] none
set_option maxHeartbeats 4000000 in
theorem copiedT_m (s : Nw) (hf : Fits s) : Meets Try.prog 36 [s.pv] [] (fun r => r = ⟨.agg [.i s.now, .i s.next, .rw 2000000 s.plans.length, .rw 2000001 s.conns.length], [], [.row 54 3 (s.plans.map Pl.ds) false, nestT s.conns s.conns.length]⟩) := by
  obtain ⟨f1, f2, f3⟩ := hf
  refine meetsP [(13, [.nest 10 [(8, 5), (9, 5)]]), (18, [.focus 10 16 []]), (27, [.seenN 10 6, .seenN 10 7, .shut 10])] tbOk mixed Try.func36 pl36 rfl rfl ?_
  simp [Try.ntmps36]
  refine effCallN (clonePl_m s.plans f1) ?_
  simp
  refine effCallN (cloneCn_m s.conns f2) ?_
  simp [Prep.run]
  refine ⟨by kernel_rfl, ?_⟩
  refine vc_loop (fun m σ => ∃ k : Nat, m = s.conns.length - k ∧ k ≤ s.conns.length ∧ σ = ⟨29, [(16, .i k), (15, .i s.conns.length), (14, .rw 10 s.conns.length), (1, .ptr 1 0), (2, .ptr 2 0)], [(2, .box 25 [.any, .any, .any, .any]), (1, .box 25 [.i s.now, .i s.next, .rw 7 s.plans.length, .rw 10 s.conns.length]), (10, nestT s.conns k), (7, .row 54 3 (s.plans.map Pl.ds) false)]⟩) ?_ ?_
  · exact ⟨_, _, ⟨0, rfl, Nat.zero_le _, rfl⟩, [], _, rfl, by simp⟩
  rintro m σ ⟨k, rfl, hk, rfl⟩
  by_cases hlt : k < s.conns.length
  · obtain ⟨c, hc, e⟩ := at_lt hlt
    obtain ⟨g1, g2⟩ := f3 c (List.mem_of_getElem? hc)
    simp [hlt, e, Prep.run]
    refine effCallN (clone_m c g1 g2) ?_
    simp [Prep.run, hlt, List.take_of_length_le, setCn s.conns hc, wrap_succ hlt f2]
    refine ⟨by kernel_rfl, ?_⟩
    exact ⟨_, by omega, _, ⟨k + 1, rfl, hlt, rfl⟩, [], _, rfl, by simp [upTo_succ]⟩
  obtain rfl : k = s.conns.length := by omega
  simp
  refine vcRet_of [7, 10] ?_ rfl
  simp
  rfl
end Go.Proofs.Ytgoklgibhmddoaa
