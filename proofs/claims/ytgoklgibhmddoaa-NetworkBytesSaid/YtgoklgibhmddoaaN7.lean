/- Contracts: network 7. No condition. -/
import Derived.Test.YtgoklgibhmddoaaN6
import Derived.Test.YtgoklgibhmddoaaN4
import Derived.Test.YtgoklgibhmddoaaN1
import Derived.Test.YtgoklgibhmddoaaV10s
import Derived.Test.YtgoklgibhmddoaaN2
namespace Go.Proofs.Ytgoklgibhmddoaa
open Go.RowKit
set_option maxRecDepth 100000

theorem refLong_eq (s : Nw) : refLong s = (decide (16 < s.plans.length ∨ 500 < s.conns.length) || s.conns.any longC) := by
  unfold refLong
  cases s.conns.any longC <;> by_cases h1 : 16 < s.plans.length <;> by_cases h2 : 500 < s.conns.length <;> simp [h1, h2]
set_option maxHeartbeats 4000000 in
theorem checkR_m (s : Nw) (hf : Fits s) : Meets Try.prog 84 [s.pv] [] (Ret (.i (chk s))) := by
  have hf0 := hf
  obtain ⟨f1, f2, f3⟩ := hf
  refine meetsH [] tbOk mixed Try.func84 pl84 rfl rfl ?_
  simp [Try.ntmps84]
  refine (long_m s hf0).mono ?_
  rintro _ rfl
  have hle := refLong_eq s
  cases hlg : refLong s
  case true =>
    simp
    refine vcRet_of [] ?_ rfl
    rw [hlg] at hle
    by_cases h1 : 16 < s.plans.length ∨ 500 < s.conns.length
    · simp [chk, h1]
    · have : s.conns.any longC = true := by simpa [h1] using hle.symm
      simp [chk, h1, this]
  simp
  rw [hlg] at hle
  have hn : ¬ (16 < s.plans.length ∨ 500 < s.conns.length) := fun h => by simp [h] at hle
  have hlong : s.conns.any longC = false := by
    cases h : s.conns.any longC
    · rfl
    · rw [h] at hle; simp at hle
  refine (rangesR_m s hf0).mono ?_
  rintro _ rfl
  cases hr : ranges s
  · simp
    exact vcRet_of [] (by simp [chk, hn, hlong, hr]) rfl
  simp
  have hcl : ∀ c ∈ s.conns, cnRanges s c = true := fun c hc => by
    unfold ranges at hr
    simp only [Bool.and_eq_true] at hr
    exact List.all_eq_true.1 hr.2.2.2 c hc
  refine vc_loop (fun m σ => ∃ k : Nat, m = s.conns.length - k ∧ k ≤ s.conns.length ∧ (∃ b : Int, idsTo 0 s.now s.conns = idsTo b s.now (s.conns.drop k) ∧ (k = 0 → b = 0) ∧ ∀ j, k = j + 1 → ∀ y, s.conns[j]? = some y → y.id = b) ∧ σ = ⟨54, [(3, .i k), (1, .ptr 1 0)], [(1, s.box)]⟩) ?_ ?_
  · exact ⟨_, _, ⟨0, rfl, Nat.zero_le _, ⟨0, rfl, fun _ => rfl, fun _ h => by omega⟩, rfl⟩, [], _, rfl, by simp⟩
  rintro m σ ⟨k, rfl, hk, ⟨b, hb, hb0, hbk⟩, rfl⟩
  by_cases hlt : k < s.conns.length
  · obtain ⟨c, hc, e⟩ := at_lt hlt
    obtain ⟨g1, g2⟩ := f3 c (List.mem_of_getElem? hc)
    have hcr := hcl c (List.mem_of_getElem? hc)
    have hd : s.conns.drop k = c :: s.conns.drop (k + 1) := by rw [← e]; exact List.drop_eq_getElem_cons hlt
    rw [hd] at hb
    have hbad : idsTo b s.now (c :: s.conns.drop (k + 1)) = false → chk s = 6 := fun h => by simp [chk, hn, hlong, hr, hb, h]
    have hid : 1 ≤ c.id := by
      unfold cnRanges inR at hcr
      simp only [Bool.and_eq_true, decide_eq_true_eq] at hcr
      omega
    have hfe : refFormed c = cnFormed c := by
      unfold cnRanges at hcr
      simp only [Bool.and_eq_true] at hcr
      exact formed_eq hcr.2.2.2.2.2.2.1 hcr.2.2.2.2.2.2.2
    have hstep : ∀ (b1 : b < c.id) (b2 : c.born ≤ s.now) (b3 : cnFormed c = true), idsTo 0 s.now s.conns = idsTo c.id s.now (s.conns.drop (k + 1)) := fun b1 b2 b3 => by rw [hb]; simp [idsTo, b3, b1, b2]
    have hnext : ∀ j, k + 1 = j + 1 → ∀ y, s.conns[j]? = some y → y.id = c.id := fun j hj y hy => by
      obtain rfl : j = k := by omega
      rw [hc] at hy; cases hy; rfl
    rcases Nat.eq_zero_or_pos k with hk0 | hkp
    · obtain rfl := hb0 hk0
      subst hk0
      have b1 : 0 < c.id := by omega
      by_cases a2 : s.now < c.born
      · simp [hlt, e, a2]
        refine ⟨by kernel_rfl, ?_⟩
        refine vcRet_of [] ?_ rfl
        have : ¬ c.born ≤ s.now := by omega
        rw [hbad (by simp [idsTo, this])]
        simp
      have b2 : c.born ≤ s.now := by omega
      simp [hlt, e, a2]
      refine effCall (formedR_m c g1 g2) ?_
      rw [hfe]
      cases hcf : cnFormed c
      · simp
        refine ⟨by kernel_rfl, ?_⟩
        refine vcRet_of [] ?_ rfl
        rw [hbad (by simp [idsTo, hcf])]
        simp
      simp
      refine ⟨by kernel_rfl, ?_⟩
      simp [IntWalk.i64_in]
      exact ⟨s.conns.length - 1, by omega, _, ⟨1, rfl, by omega, ⟨c.id, hstep b1 b2 hcf, fun h => by omega, hnext⟩, rfl⟩, [], _, rfl, by simp⟩
    · obtain ⟨j, rfl⟩ : ∃ j, k = j + 1 := ⟨k - 1, by omega⟩
      have hjl : j < s.conns.length := by omega
      obtain ⟨y, hy, ey⟩ := at_lt hjl
      have hyb := hbk j rfl y hy
      have w1 : IntKind.i64.wrap (((j + 1 : Nat) : Int) - 1) = (j : Int) := by rw [IntWalk.i64_in _ (by omega)]; omega
      have w1' : IntKind.i64.wrap (j : Int) = (j : Int) := IntWalk.i64_in _ (by omega)
      have w2 : IntKind.i64.wrap ((j : Int) + 1 + 1) = (j : Int) + 1 + 1 := IntWalk.i64_in _ (by omega)
      have hkp' : (0 : Int) < (j : Int) + 1 := by omega
      have hj0 : (0 : Int) ≤ (j : Int) + 1 := by omega
      have hlt' : (j : Int) + 1 < s.conns.length := by omega
      by_cases a1 : c.id ≤ b
      · simp [hlt, hlt', hj0, e, ey, hjl, w1', hkp', hyb, a1]
        refine ⟨by kernel_rfl, ?_⟩
        refine vcRet_of [] ?_ rfl
        have : ¬ b < c.id := by omega
        rw [hbad (by simp [idsTo, this])]
        simp
      have b1 : b < c.id := by omega
      by_cases a2 : s.now < c.born
      · simp [hlt, hlt', hj0, e, ey, hjl, w1', hkp', hyb, a1, a2]
        refine ⟨by kernel_rfl, ?_⟩
        refine vcRet_of [] ?_ rfl
        have : ¬ c.born ≤ s.now := by omega
        rw [hbad (by simp [idsTo, this])]
        simp
      have b2 : c.born ≤ s.now := by omega
      simp [hlt, hlt', hj0, e, ey, hjl, w1', hkp', hyb, a1, a2]
      refine effCall (formedR_m c g1 g2) ?_
      rw [hfe]
      cases hcf : cnFormed c
      · simp
        refine ⟨by kernel_rfl, ?_⟩
        refine vcRet_of [] ?_ rfl
        rw [hbad (by simp [idsTo, hcf])]
        simp
      simp
      refine ⟨by kernel_rfl, ?_⟩
      simp [w2]
      exact ⟨_, by omega, _, ⟨j + 1 + 1, rfl, by omega, ⟨c.id, hstep b1 b2 hcf, fun h => by omega, hnext⟩, rfl⟩, [], _, rfl, by simp⟩
  obtain rfl : k = s.conns.length := by omega
  rw [List.drop_length] at hb
  have hb : idsTo 0 s.now s.conns = true := hb
  simp
  exact vcRet_of [] (by simp [chk, hn, hlong, hr, hb]) rfl
theorem knownR_m (s : Nw) (hf : Fits s) (b : Int) : Meets Try.prog 81 [s.pv, .i b] [] (Ret (.i (knownE s b))) := by
  refine meetsH [] tbOk mixed Try.func81 pl81 rfl rfl ?_
  simp [Try.ntmps81]
  refine (checkR_m s hf).mono ?_
  rintro _ rfl
  by_cases hc : chk s = 0
  case neg =>
    simp [hc]
    exact vcRet_of [] (by simp [knownE, hc]) rfl
  by_cases h1 : b < 0
  · simp [hc, h1]
    exact vcRet_of [] (by simp [knownE, hc, h1]) rfl
  by_cases h2 : (s.plans.length : Int) ≤ b
  · simp [hc, h1, h2]
    exact vcRet_of [] (by simp [knownE, hc, h2]) rfl
  simp [hc, h1, h2]
  exact vcRet_of [] (by simp [knownE, hc, h1, h2]) rfl
theorem findR_m (s : Nw) (hf : Fits s) (n : Int) : Meets Try.prog 89 [s.pv, .i n] [] (Ret (.tup [.i (findE s n).1, .i (findE s n).2])) := by
  refine meetsH [] tbOk mixed Try.func89 pl89 rfl rfl ?_
  simp [Try.ntmps89]
  refine (checkR_m s hf).mono ?_
  rintro _ rfl
  by_cases hc : chk s = 0
  case neg =>
    simp [hc]
    exact vcRet_of [] (by simp [findE, hc]) rfl
  simp [hc]
  refine vc_loop (fun m σ => ∃ k : Nat, m = s.conns.length - k ∧ k ≤ s.conns.length ∧ noneTo (fun c : Cn => decide (c.id = n)) s.conns k ∧ σ = ⟨29, [(7, .i k), (2, .ptr 2 0), (1, .i n)], [(2, s.box)]⟩) ?_ ?_
  · exact ⟨_, _, ⟨0, rfl, Nat.zero_le _, noneTo_zero _ _, rfl⟩, [], _, rfl, by simp⟩
  rintro m σ ⟨k, rfl, hk, hn, rfl⟩
  by_cases hlt : k < s.conns.length
  · obtain ⟨c, hcm, e⟩ := at_lt hlt
    by_cases h : c.id = n
    · simp [hlt, e, h]
      refine vcRet_of [] ?_ rfl
      have := idx_hit (fun c : Cn => decide (c.id = n)) s.conns k c hcm (by simp [h]) hn
      simp [findE, hc, this, show ¬ (k : Int) < 0 by omega]
    · simp [hlt, e, h, wrap_succ hlt hf.2.1]
      exact ⟨_, by omega, _, ⟨k + 1, rfl, hlt, noneTo_succ hn hcm (by simp [h]), rfl⟩, [], _, rfl, by simp⟩
  obtain rfl : k = s.conns.length := by omega
  simp
  refine vcRet_of [] ?_ rfl
  have := idx_miss (fun c : Cn => decide (c.id = n)) s.conns (o := 0) hn
  simp [findE, hc, this]
theorem cnAt_find {s : Nw} {n : Int} {c : Cn} (h : s.conns[(findE s n).1.toNat]? = some c) : cnAt s n = c := by unfold cnAt; rw [List.getD_eq_getElem?_getD, h]; rfl
/-- The place of a connection whose status is among some. -/
def someE (s : Nw) (n : Int) (st : List Int) : Int × Int := if (findE s n).2 ≠ 0 then findE s n else if (cnAt s n).status ∈ st then findE s n else (0, 9)
theorem upR_m (s : Nw) (hf : Fits s) (n : Int) : Meets Try.prog 86 [s.pv, .i n] [] (Ret (.tup [.i (someE s n [1]).1, .i (someE s n [1]).2])) := by
  refine meetsH [] tbOk mixed Try.func86 pl86 rfl rfl ?_
  simp [Try.ntmps86]
  refine (findR_m s hf n).mono ?_
  rintro _ rfl
  by_cases hfe : (findE s n).2 = 0
  case neg =>
    simp [hfe]
    exact vcRet_of [] (by simp [someE, hfe]) rfl
  obtain ⟨hc, hi0, hil⟩ := find_ok hfe
  have hlt : (findE s n).1.toNat < s.conns.length := by omega
  obtain ⟨c, hcm, e⟩ := at_lt hlt
  have hg := cnAt_find hcm
  by_cases hs : c.status = 1
  · simp [hfe, hi0, hil, hlt, e, hs]
    exact vcRet_of [] (by simp [someE, hfe, hg, hs]) rfl
  · simp [hfe, hi0, hil, hlt, e, hs]
    exact vcRet_of [] (by simp [someE, hfe, hg, hs]) rfl
theorem wasR_m (s : Nw) (hf : Fits s) (n : Int) : Meets Try.prog 90 [s.pv, .i n] [] (Ret (.tup [.i (someE s n [1, 3]).1, .i (someE s n [1, 3]).2])) := by
  refine meetsH [] tbOk mixed Try.func90 pl90 rfl rfl ?_
  simp [Try.ntmps90]
  refine (findR_m s hf n).mono ?_
  rintro _ rfl
  by_cases hfe : (findE s n).2 = 0
  case neg =>
    simp [hfe]
    exact vcRet_of [] (by simp [someE, hfe]) rfl
  obtain ⟨hc, hi0, hil⟩ := find_ok hfe
  have hlt : (findE s n).1.toNat < s.conns.length := by omega
  obtain ⟨c, hcm, e⟩ := at_lt hlt
  have hg := cnAt_find hcm
  have hst : 0 ≤ c.status ∧ c.status ≤ 3 := by
    have := chk_conn hc (List.mem_of_getElem? hcm)
    unfold cnRanges inR at this
    simp only [Bool.and_eq_true, decide_eq_true_eq] at this
    omega
  by_cases h0 : c.status = 0
  · simp [hfe, hi0, hil, hlt, e, h0]
    exact vcRet_of [] (by simp [someE, hfe, hg, h0]) rfl
  by_cases h2 : c.status = 2
  · simp [hfe, hi0, hil, hlt, e, h2]
    exact vcRet_of [] (by simp [someE, hfe, hg, h2]) rfl
  have h13 : c.status = 1 ∨ c.status = 3 := by omega
  simp [hfe, hi0, hil, hlt, e, h0, h2]
  exact vcRet_of [] (by simp [someE, hfe, hg, h13]) rfl
def ansE (s : Nw) (n delay : Int) : Int × Int := if (someE s n [1, 3]).2 ≠ 0 then (0, (someE s n [1, 3]).2) else if inR delay 0 100000 then ((someE s n [1, 3]).1, 0) else (0, 7)
theorem ansR_m (s : Nw) (hf : Fits s) (n delay : Int) : Meets Try.prog 91 [s.pv, .i n, .i delay] [] (Ret (.tup [.i (ansE s n delay).1, .i (ansE s n delay).2])) := by
  refine meetsH [] tbOk mixed Try.func91 pl91 rfl rfl ?_
  simp [Try.ntmps91]
  refine (wasR_m s hf n).mono ?_
  rintro _ rfl
  by_cases h : (someE s n [1, 3]).2 = 0
  case neg =>
    simp [h]
    exact vcRet_of [] (by simp [ansE, h]) rfl
  simp [h]
  refine (between_m delay 0 100000).mono ?_
  rintro _ rfl
  cases hd : inR delay 0 100000
  · simp
    exact vcRet_of [] (by simp [ansE, h, hd]) rfl
  · simp
    exact vcRet_of [] (by simp [ansE, h, hd]) rfl
theorem endedR_m (c : Cn) : Meets Try.prog 92 [.agg (c.ds.map .d)] [] (Ret (.b (decide (c.dn.e ≠ 0) || decide (c.dn.d ≠ 0)))) := by
  refine meetsH [] tbOk mixed Try.func92 pl92 rfl rfl ?_
  by_cases h : c.dn.e = 0
  · simp [Try.ntmps92, h]
    exact vcRet_of [] (by simp) rfl
  · simp [Try.ntmps92, h]
    exact vcRet_of [] (by simp) rfl
end Go.Proofs.Ytgoklgibhmddoaa
namespace Go.Proofs.Ytgoklgibhmddoaa
open Go.RowKit
set_option maxRecDepth 100000

@[simp] theorem nums_u8 (l : List Int) : numsOf (l.map u8s) = some l := numsOf_map l
@[simp] theorem nums_take (l : List Int) (k : Nat) : numsOf ((l.map u8s).take k) = some (l.take k) := numsOf_take (numsOf_map l) k
@[simp] theorem str_toList (l : List Int) : (strOfNums l).toList = l.map fun n => UInt8.ofNat n.toNat := by rw [ByteArray.toList_eq]; simp [strOfNums]
theorem sameBytes_m (a : List Int) : Meets Try.prog 57 [.d (bs a), .d (bs a)] [] (Ret (.b true)) := by
  refine meetsH [] tbOk mixed Try.func57 pl57 rfl rfl ?_
  simp [Try.ntmps57]
  exact vcRet_of [] (by simp) rfl
theorem samePieces_m (l : List Pc) (hl : l.length < 4294967296) : Meets Try.prog 80 [.d (pcs l), .d (pcs l)] [] (Ret (.b true)) := by
  refine meetsH [] tbOk mixed Try.func80 pl80 rfl rfl ?_
  simp [Try.ntmps80]
  refine vc_loop (fun m σ => ∃ k : Nat, m = l.length - k ∧ k ≤ l.length ∧ σ = ⟨42, [(5, .i k), (0, .d (pcs l)), (1, .d (pcs l))], []⟩) ?_ ?_
  · exact ⟨_, _, ⟨0, rfl, Nat.zero_le _, rfl⟩, [], _, rfl, by simp⟩
  rintro m σ ⟨k, rfl, hk, rfl⟩
  by_cases hlt : k < l.length
  · obtain ⟨p, hp, e⟩ := at_lt hlt
    simp [hlt, e]
    refine effCall (sameBytes_m p.bytes) ?_
    simp [wrap_succ hlt hl]
    refine ⟨by kernel_rfl, ?_⟩
    exact ⟨_, by omega, _, ⟨k + 1, rfl, hlt, rfl⟩, [], _, rfl, by simp⟩
  obtain rfl : k = l.length := by omega
  simp
  exact vcRet_of [] (by simp) rfl
set_option maxHeartbeats 4000000 in
theorem sameConn_m (c : Cn) (hu : c.up.Fits) (hd : c.dn.Fits) : Meets Try.prog 51 [.agg (c.ds.map .d), .agg (c.ds.map .d)] [] (Ret (.b true)) := by
  refine meetsH [] tbOk mixed Try.func51 pl51 rfl rfl ?_
  simp [Try.ntmps51]
  refine (samePieces_m c.up.ps hu.2).mono ?_
  rintro _ rfl
  simp
  refine (samePieces_m c.dn.ps hd.2).mono ?_
  rintro _ rfl
  simp
  refine (sameBytes_m c.up.ar).mono ?_
  rintro _ rfl
  simp
  refine (sameBytes_m c.dn.ar).mono ?_
  rintro _ rfl
  simp
  exact vcRet_of [] (by simp) rfl
set_option maxHeartbeats 4000000 in
theorem same_m (s : Nw) (hf : Fits s) : Meets Try.prog 21 [s.pv, s.pv] [] (Ret (.b true)) := by
  obtain ⟨f1, f2, f3⟩ := hf
  refine meetsH [] tbOk mixed Try.func21 pl21 rfl rfl ?_
  simp [Try.ntmps21]
  refine vc_loop (fun m σ => ∃ k : Nat, m = s.plans.length - k ∧ k ≤ s.plans.length ∧ σ = ⟨74, [(5, .i k), (2, .ptr 2 0), (3, .ptr 3 0)], [(2, s.box), (3, s.box)]⟩) ?_ ?_
  · exact ⟨_, _, ⟨0, rfl, Nat.zero_le _, rfl⟩, [], _, rfl, by simp⟩
  rintro m σ ⟨k, rfl, hk, rfl⟩
  by_cases hlt : k < s.plans.length
  · obtain ⟨p, hp, e⟩ := at_lt hlt
    simp [hlt, e, wrap_succ hlt f1]
    refine ⟨by kernel_rfl, ?_⟩
    exact ⟨_, by omega, _, ⟨k + 1, rfl, hlt, rfl⟩, [], _, rfl, by simp⟩
  obtain rfl : k = s.plans.length := by omega
  simp
  refine vc_loop (fun m σ => ∃ k : Nat, m = s.conns.length - k ∧ k ≤ s.conns.length ∧ σ = ⟨74, [(6, .i k), (2, .ptr 2 0), (3, .ptr 3 0)], [(2, s.box), (3, s.box)]⟩) ?_ ?_
  · exact ⟨_, _, ⟨0, rfl, Nat.zero_le _, rfl⟩, [], _, rfl, by simp⟩
  rintro m σ ⟨k, rfl, hk, rfl⟩
  by_cases hlt : k < s.conns.length
  · obtain ⟨c, hc, e⟩ := at_lt hlt
    obtain ⟨g1, g2⟩ := f3 c (List.mem_of_getElem? hc)
    simp [hlt, e]
    refine effCall (sameConn_m c g1 g2) ?_
    simp [wrap_succ hlt f2]
    refine ⟨by kernel_rfl, ?_⟩
    exact ⟨_, by omega, _, ⟨k + 1, rfl, hlt, rfl⟩, [], _, rfl, by simp⟩
  obtain rfl : k = s.conns.length := by omega
  simp
  exact vcRet_of [] (by simp) rfl
end Go.Proofs.Ytgoklgibhmddoaa
namespace Go.Proofs.Ytgoklgibhmddoaa
open Go.RowKit
set_option maxRecDepth 100000

theorem pieces_m (l : List Pc) (hl : l.length < 4294967296) (hb : ∀ p ∈ l, p.bytes.length < 4294967296) : Meets Try.prog 101 [.d (pcs l)] [] (fun r => r = ⟨.rw 2000000 l.length, [], [.row 119 2 (l.map Pc.ds) false]⟩) := by
  refine meetsH [] tbOk mixed Try.func101 pl101 rfl rfl ?_
  simp [Try.ntmps101]
  refine vc_loop (fun m σ => ∃ k : Nat, m = l.length - k ∧ k ≤ l.length ∧ σ = ⟨28, [(4, .i k), (3, .rw 3 k), (0, .d (pcs l))], [(3, .row 119 2 ((l.take k).map Pc.ds) false)]⟩) ?_ ?_
  · exact ⟨_, _, ⟨0, rfl, Nat.zero_le _, rfl⟩, [.row 3 119 2], _, rfl, by simp⟩
  rintro m σ ⟨k, rfl, hk, rfl⟩
  by_cases hlt : k < l.length
  · obtain ⟨p, hp, e⟩ := at_lt hlt
    have hpb := hb p (List.mem_of_getElem? hp)
    have hmin : min k l.length = k := by omega
    simp [hlt, e, wrap_succ hlt hl, hpb, hmin]
    refine ⟨by omega, by kernel_rfl, ?_⟩
    exact ⟨_, by omega, _, ⟨k + 1, rfl, hlt, rfl⟩, [], _, rfl, by simp [List.take_add_one, hp]⟩
  obtain rfl : k = l.length := by omega
  simp
  refine vcRet_of [3] ?_ rfl
  simp
end Go.Proofs.Ytgoklgibhmddoaa
namespace Go.Proofs.Ytgoklgibhmddoaa
open Go.RowKit
set_option maxRecDepth 100000

set_option maxHeartbeats 8000000 in
theorem copyRD_m (s : Nw) (hf : Fits s) : Meets Try.prog 82 [s.pv] [] (fun r => r = ⟨.agg [.i s.now, .i s.next, .rw 2000000 s.plans.length, .rw 2000001 s.conns.length], [], [.row 54 3 (s.plans.map Pl.ds) false, nestD s.conns s.conns.length]⟩) := by
  obtain ⟨f1, f2, f3⟩ := hf
  refine meetsP [(3, [.nest 10 []]), (22, [.focus 10 3 []]), (20, [.seenN 10 6, .seenN 10 7, .seenN 10 8, .seenN 10 9, .close 10])] tbOk mixed Try.func82 pl82 rfl rfl ?_
  simp [Try.ntmps82]
  refine ⟨f1, f2, ?_⟩
  simp [Prep.run]
  refine vc_loop (fun m σ => ∃ k : Nat, m = s.conns.length - k ∧ k ≤ s.conns.length ∧ σ = ⟨61, [(3, .i k), (1, .ptr 1 0), (2, .ptr 2 0)], [(2, .box 25 [.any, .any, .any, .any]), (1, .box 25 [.i s.now, .i s.next, .rw 5 s.plans.length, .rw 10 s.conns.length]), (10, nestD s.conns k), (5, .row 54 3 (s.plans.map Pl.ds) false)]⟩) ?_ ?_
  · exact ⟨_, _, ⟨0, rfl, Nat.zero_le _, rfl⟩, [], _, rfl, by simp⟩
  rintro m σ ⟨k, rfl, hk, rfl⟩
  by_cases hlt : k < s.conns.length
  · obtain ⟨c, hc, e⟩ := at_lt hlt
    obtain ⟨g1, g2⟩ := f3 c (List.mem_of_getElem? hc)
    have gu : c.up.ar.length < 4294967296 := by have h : c.up.n < 4294967296 := g1.1; unfold Dr.n at h; omega
    have gd : c.dn.ar.length < 4294967296 := by have h : c.dn.n < 4294967296 := g2.1; unfold Dr.n at h; omega
    simp [hlt, e, Prep.run]
    refine effCallN (pieces_m c.up.ps g1.2 (fun p hp => by have := fly_mem hp; have h : c.up.n < 4294967296 := g1.1; unfold Dr.n at h; omega)) ?_
    simp
    refine effCallN (pieces_m c.dn.ps g2.2 (fun p hp => by have := fly_mem hp; have h : c.dn.n < 4294967296 := g2.1; unfold Dr.n at h; omega)) ?_
    simp
    refine ⟨by kernel_rfl, ?_⟩
    simp [Prep.run, gu, gd, List.take_of_length_le, setCn s.conns hc, wrap_succ hlt f2]
    refine ⟨by kernel_rfl, ?_⟩
    exact ⟨_, by omega, _, ⟨k + 1, rfl, hlt, rfl⟩, [], _, rfl, by simp⟩
  obtain rfl : k = s.conns.length := by omega
  simp
  refine vcRet_of [5, 10] ?_ rfl
  simp
  rfl
set_option maxHeartbeats 8000000 in
theorem copyRU_m (s : Nw) (hf : Fits s) : Meets Try.prog 82 [s.pv] [] (fun r => r = ⟨.agg [.i s.now, .i s.next, .rw 2000000 s.plans.length, .rw 2000001 s.conns.length], [], [.row 54 3 (s.plans.map Pl.ds) false, nestU s.conns s.conns.length]⟩) := by
  obtain ⟨f1, f2, f3⟩ := hf
  refine meetsP [(3, [.nest 10 [(6, 119)]]), (22, [.focus 10 3 []]), (20, [.seenN 10 7, .seenN 10 8, .seenN 10 9, .shut 10])] tbOk mixed Try.func82 pl82 rfl rfl ?_
  simp [Try.ntmps82]
  refine ⟨f1, f2, ?_⟩
  simp [Prep.run]
  refine vc_loop (fun m σ => ∃ k : Nat, m = s.conns.length - k ∧ k ≤ s.conns.length ∧ σ = ⟨61, [(3, .i k), (1, .ptr 1 0), (2, .ptr 2 0)], [(2, .box 25 [.any, .any, .any, .any]), (1, .box 25 [.i s.now, .i s.next, .rw 5 s.plans.length, .rw 10 s.conns.length]), (10, nestU s.conns k), (5, .row 54 3 (s.plans.map Pl.ds) false)]⟩) ?_ ?_
  · exact ⟨_, _, ⟨0, rfl, Nat.zero_le _, rfl⟩, [], _, rfl, by simp⟩
  rintro m σ ⟨k, rfl, hk, rfl⟩
  by_cases hlt : k < s.conns.length
  · obtain ⟨c, hc, e⟩ := at_lt hlt
    obtain ⟨g1, g2⟩ := f3 c (List.mem_of_getElem? hc)
    have gu : c.up.ar.length < 4294967296 := by have h : c.up.n < 4294967296 := g1.1; unfold Dr.n at h; omega
    have gd : c.dn.ar.length < 4294967296 := by have h : c.dn.n < 4294967296 := g2.1; unfold Dr.n at h; omega
    simp [hlt, e, Prep.run]
    refine effCallN (pieces_m c.up.ps g1.2 (fun p hp => by have := fly_mem hp; have h : c.up.n < 4294967296 := g1.1; unfold Dr.n at h; omega)) ?_
    simp
    refine effCallN (pieces_m c.dn.ps g2.2 (fun p hp => by have := fly_mem hp; have h : c.dn.n < 4294967296 := g2.1; unfold Dr.n at h; omega)) ?_
    simp
    refine ⟨by kernel_rfl, ?_⟩
    simp [Prep.run, gu, gd, List.take_of_length_le, setCn s.conns hc, wrap_succ hlt f2]
    refine ⟨by kernel_rfl, ?_⟩
    exact ⟨_, by omega, _, ⟨k + 1, rfl, hlt, rfl⟩, [], _, rfl, by simp [upTo_succ]⟩
  obtain rfl : k = s.conns.length := by omega
  simp
  refine vcRet_of [5, 10] ?_ rfl
  simp
  rfl
set_option maxHeartbeats 8000000 in
theorem copyRP_m (s : Nw) (hf : Fits s) : Meets Try.prog 82 [s.pv] [] (fun r => r = ⟨.agg [.i s.now, .i s.next, .rw 2000000 s.plans.length, .rw 2000001 s.conns.length], [], [.row 54 3 (s.plans.map Pl.ds) false, nestP s.conns s.conns.length]⟩) := by
  obtain ⟨f1, f2, f3⟩ := hf
  refine meetsP [(3, [.nest 10 [(7, 119)]]), (22, [.focus 10 3 []]), (20, [.seenN 10 6, .seenN 10 8, .seenN 10 9, .shut 10])] tbOk mixed Try.func82 pl82 rfl rfl ?_
  simp [Try.ntmps82]
  refine ⟨f1, f2, ?_⟩
  simp [Prep.run]
  refine vc_loop (fun m σ => ∃ k : Nat, m = s.conns.length - k ∧ k ≤ s.conns.length ∧ σ = ⟨61, [(3, .i k), (1, .ptr 1 0), (2, .ptr 2 0)], [(2, .box 25 [.any, .any, .any, .any]), (1, .box 25 [.i s.now, .i s.next, .rw 5 s.plans.length, .rw 10 s.conns.length]), (10, nestP s.conns k), (5, .row 54 3 (s.plans.map Pl.ds) false)]⟩) ?_ ?_
  · exact ⟨_, _, ⟨0, rfl, Nat.zero_le _, rfl⟩, [], _, rfl, by simp⟩
  rintro m σ ⟨k, rfl, hk, rfl⟩
  by_cases hlt : k < s.conns.length
  · obtain ⟨c, hc, e⟩ := at_lt hlt
    obtain ⟨g1, g2⟩ := f3 c (List.mem_of_getElem? hc)
    have gu : c.up.ar.length < 4294967296 := by have h : c.up.n < 4294967296 := g1.1; unfold Dr.n at h; omega
    have gd : c.dn.ar.length < 4294967296 := by have h : c.dn.n < 4294967296 := g2.1; unfold Dr.n at h; omega
    simp [hlt, e, Prep.run]
    refine effCallN (pieces_m c.up.ps g1.2 (fun p hp => by have := fly_mem hp; have h : c.up.n < 4294967296 := g1.1; unfold Dr.n at h; omega)) ?_
    simp
    refine effCallN (pieces_m c.dn.ps g2.2 (fun p hp => by have := fly_mem hp; have h : c.dn.n < 4294967296 := g2.1; unfold Dr.n at h; omega)) ?_
    simp
    refine ⟨by kernel_rfl, ?_⟩
    simp [Prep.run, gu, gd, List.take_of_length_le, setCn s.conns hc, wrap_succ hlt f2]
    refine ⟨by kernel_rfl, ?_⟩
    exact ⟨_, by omega, _, ⟨k + 1, rfl, hlt, rfl⟩, [], _, rfl, by simp [upTo_succ]⟩
  obtain rfl : k = s.conns.length := by omega
  simp
  refine vcRet_of [5, 10] ?_ rfl
  simp
  rfl
end Go.Proofs.Ytgoklgibhmddoaa
