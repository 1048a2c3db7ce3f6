/- Contracts: network 6. No condition. -/
import Derived.Test.YtgoklgibhmddoaaN1
namespace Go.Proofs.Ytgoklgibhmddoaa
open Go.RowKit
set_option maxRecDepth 100000

theorem between_m (n a b : Int) : Meets Try.prog 79 [.i n, .i a, .i b] [] (Ret (.b (inR n a b))) := by
  refine meetsH [] tbOk mixed Try.func79 pl79 rfl rfl ?_
  by_cases h1 : a ≤ n
  · by_cases h2 : n ≤ b
    · simp [Try.ntmps79, h1, h2]
      exact vcRet_of [] (by simp [inR, h1, h2]) rfl
    · simp [Try.ntmps79, h1, h2]
      exact vcRet_of [] (by simp [inR, h1, h2]) rfl
  · simp [Try.ntmps79, h1]
    exact vcRet_of [] (by simp [inR, h1]) rfl
theorem plan_m (p : Pl) : Meets Try.prog 50 [p.pv] [] (Ret (.b (plOk p))) := by
  refine meetsH [] tbOk mixed Try.func50 pl50 rfl rfl ?_
  simp [Try.ntmps50]
  refine (between_m p.fail 0 2).mono ?_
  rintro _ rfl
  cases h1 : inR p.fail 0 2
  · simp
    exact vcRet_of [] (by simp [plOk, h1]) rfl
  simp
  refine (between_m p.delay 0 100000).mono ?_
  rintro _ rfl
  cases h2 : inR p.delay 0 100000
  · simp
    exact vcRet_of [] (by simp [plOk, h2]) rfl
  simp
  refine (between_m p.window 1 65536).mono ?_
  rintro _ rfl
  simp
  exact vcRet_of [] (by simp [plOk, h1, h2]) rfl
theorem endR_m (n : Int) : Meets Try.prog 106 [.i n] [] (Ret (.b (inR n 0 2))) := by
  refine meetsH [] tbOk mixed Try.func106 pl106 rfl rfl ?_
  by_cases h1 : 0 ≤ n
  · by_cases h2 : n ≤ 2
    · simp [Try.ntmps106, h1, h2]
      exact vcRet_of [] (by simp [inR, h1, h2]) rfl
    · simp [Try.ntmps106, h1, h2]
      exact vcRet_of [] (by simp [inR, h1, h2]) rfl
  · simp [Try.ntmps106, h1]
    exact vcRet_of [] (by simp [inR, h1]) rfl
theorem bytesR_m (l : List Pc) (hl : l.length < 4294967296) (hf : fly l < 4294967296) : Meets Try.prog 87 [.d (pcs l)] [] (Ret (.i (fly l))) := by
  refine meetsH [] tbOk mixed Try.func87 pl87 rfl rfl ?_
  simp [Try.ntmps87]
  refine vc_loop (fun m σ => ∃ k : Nat, m = l.length - k ∧ k ≤ l.length ∧ σ = ⟨20, [(4, .i k), (3, .i (fly (l.take k))), (0, .d (pcs l))], []⟩) ?_ ?_
  · exact ⟨_, _, ⟨0, rfl, Nat.zero_le _, rfl⟩, [], _, rfl, by simp [fly]⟩
  rintro m σ ⟨k, rfl, hk, rfl⟩
  by_cases hlt : k < l.length
  · obtain ⟨p, hp, e⟩ := at_lt hlt
    have h1 := fly_take hp
    have h2 := fly_le l (k + 1)
    have w1 : IntKind.i64.wrap ((fly (l.take k) : Int) + p.bytes.length) = ((fly (l.take (k + 1)) : Nat) : Int) := by rw [IntWalk.i64_in _ (by omega)]; omega
    simp [hlt, e, w1, wrap_succ hlt hl]
    exact ⟨_, by omega, _, ⟨k + 1, rfl, hlt, rfl⟩, [], _, rfl, by simp⟩
  obtain rfl : k = l.length := by omega
  simp
  exact vcRet_of [] (by simp) rfl
theorem later_m (now by_ : Int) (hn : -1000000000000000000 < now + by_ ∧ now + by_ < 1000000000000000000) : Meets Try.prog 83 [.i now, .i by_] [] (Ret (.i (min (now + by_) 1000000000000))) := by
  refine meetsH [] tbOk mixed Try.func83 pl83 rfl rfl ?_
  have hw : IntKind.i64.wrap (now + by_) = now + by_ := IntWalk.i64_in _ (by omega)
  simp [Try.ntmps83, hw]
  exact vcRet_of [] (by simp) rfl
theorem lastL {l : List Pc} {k : Nat} {p : Pc} (h : l[k]? = some p) (hk : k + 1 = l.length) : l.getLast? = some p := by
  rw [List.getLast?_eq_getElem?, show l.length - 1 = k by omega, h]
theorem lastR_m (d : Dr) (hl : d.ps.length < 4294967296) (now by_ : Int) (hn : -1000000000000000000 < now + by_ ∧ now + by_ < 1000000000000000000) : Meets Try.prog 88 [.d (pcs d.ps), .i now, .i by_] [] (Ret (.i (d.last now by_))) := by
  refine meetsH [] tbOk mixed Try.func88 pl88 rfl rfl ?_
  simp [Try.ntmps88]
  refine (later_m now by_ hn).mono ?_
  rintro _ rfl
  by_cases h0 : d.ps.length = 0
  · have h0' : d.ps = [] := List.length_eq_zero_iff.1 h0
    simp [h0']
    exact vcRet_of [] (by simp [Dr.last, h0']) rfl
  · have hp0 : 0 < d.ps.length := by omega
    have hlt : d.ps.length - 1 < d.ps.length := by omega
    obtain ⟨p, hp, e⟩ := at_lt hlt
    have hgl := lastL hp (by omega)
    have hwn : IntKind.i64.wrap ((d.ps.length : Int) - 1) = ((d.ps.length - 1 : Nat) : Int) := by rw [IntWalk.i64_in _ (by omega)]; omega
    simp [hp0, hwn, hlt, e]
    exact vcRet_of [] (by simp [Dr.last, hgl]) rfl
theorem times_m (l : List Pc) (hl : l.length < 4294967296) : Meets Try.prog 105 [.d (pcs l)] [] (Ret (.b (l.all fun p => timeOk p.time))) := by
  refine meetsH [] tbOk mixed Try.func105 pl105 rfl rfl ?_
  simp [Try.ntmps105]
  refine vc_loop (fun m σ => ∃ k : Nat, m = l.length - k ∧ k ≤ l.length ∧ noneTo (fun p : Pc => !timeOk p.time) l k ∧ σ = ⟨17, [(3, .i k), (0, .d (pcs l))], []⟩) ?_ ?_
  · exact ⟨_, _, ⟨0, rfl, Nat.zero_le _, noneTo_zero _ _, rfl⟩, [], _, rfl, by simp⟩
  rintro m σ ⟨k, rfl, hk, hn, rfl⟩
  by_cases hlt : k < l.length
  · obtain ⟨p, hp, e⟩ := at_lt hlt
    simp [hlt, e]
    refine (between_m p.time 0 1000000000000).mono ?_
    rintro _ rfl
    cases h : inR p.time 0 1000000000000
    · simp
      have : (l.all fun p => timeOk p.time) = false := all_at hp (by simp [timeOk, h])
      rw [this]
      exact vcRet_of [] (by simp) rfl
    · simp [wrap_succ hlt hl]
      exact ⟨_, by omega, _, ⟨k + 1, rfl, hlt, noneTo_succ hn hp (by simp [timeOk, h]), rfl⟩, [], _, rfl, by simp⟩
  obtain rfl : k = l.length := by omega
  have : (l.all fun p => timeOk p.time) = true := noneTo_all hn fun x => rfl
  rw [this]
  simp
  exact vcRet_of [] (by simp) rfl
/-- A direction, as the reference looks at it. -/
def refWay (d : Dr) (born : Int) : Bool :=
  ordTo born d.ps && (!((decide (d.e = 0) && decide (d.t ≠ 0)) || (decide (d.e ≠ 0) && decide (d.t < lastOf born d.ps))) && (decide (d.d = 0) || (decide (d.ps.length = 0) && decide (d.e = 0))))
set_option maxHeartbeats 4000000 in
theorem way_m (d : Dr) (hl : d.ps.length < 4294967296) (born : Int) : Meets Try.prog 107 [.d (pcs d.ps), .i d.e, .i d.t, .i d.d, .i born] [] (Ret (.b (refWay d born))) := by
  refine meetsH [] tbOk mixed Try.func107 pl107 rfl rfl ?_
  simp [Try.ntmps107]
  refine vc_loop (fun m σ => ∃ k : Nat, m = d.ps.length - k ∧ k ≤ d.ps.length ∧ ∃ b : Int, ordTo born d.ps = ordTo b (d.ps.drop k) ∧ lastOf born d.ps = lastOf b (d.ps.drop k) ∧ σ = ⟨67, [(12, .i k), (11, .i b), (0, .d (pcs d.ps)), (1, .i d.e), (2, .i d.t), (3, .i d.d)], []⟩) ?_ ?_
  · exact ⟨_, _, ⟨0, rfl, Nat.zero_le _, born, rfl, rfl, rfl⟩, [], _, rfl, by simp⟩
  rintro m σ ⟨k, rfl, hk, b, hb, hb2, rfl⟩
  by_cases hlt : k < d.ps.length
  · obtain ⟨p, hp, e⟩ := at_lt hlt
    have hd : d.ps.drop k = p :: d.ps.drop (k + 1) := by rw [← e]; exact List.drop_eq_getElem_cons hlt
    rw [hd] at hb hb2
    by_cases h0 : p.bytes.length = 0
    · have h0' : p.bytes = [] := List.length_eq_zero_iff.1 h0
      simp [hlt, e, h0']
      refine vcRet_of [] ?_ rfl
      simp [refWay, hb, ordTo, h0']
    by_cases h1 : p.time < b
    · simp [hlt, e, h0, h1]
      refine vcRet_of [] ?_ rfl
      have : ¬ b ≤ p.time := by omega
      simp [refWay, hb, ordTo, this]
    simp [hlt, e, h0, h1, wrap_succ hlt hl]
    refine ⟨_, by omega, _, ⟨k + 1, rfl, hlt, p.time, ?_, ?_, rfl⟩, [], _, rfl, by simp⟩
    · have a1 : 0 < p.bytes.length := by omega
      have a2 : b ≤ p.time := by omega
      rw [hb]; simp [ordTo, a1, a2]
    · rw [hb2]; rfl
  obtain rfl : k = d.ps.length := by omega
  rw [List.drop_length] at hb hb2
  have hb : ordTo born d.ps = true := hb
  have hb2 : lastOf born d.ps = b := hb2
  by_cases he : d.e = 0
  · by_cases ht : d.t = 0
    · by_cases hd : d.d = 0
      · simp [he, ht, hd]
        refine vcRet_of [] ?_ rfl
        simp [refWay, hb, he, ht, hd]
      · by_cases hp0 : d.ps = []
        · simp [he, ht, hd, hp0]
          refine vcRet_of [] ?_ rfl
          simp [refWay, he, ht, hd, hp0, ordTo]
        · simp [he, ht, hd, hp0]
          refine vcRet_of [] ?_ rfl
          simp [refWay, he, ht, hd, hp0]
    · simp [he, ht]
      refine vcRet_of [] ?_ rfl
      simp [refWay, he, ht]
  · by_cases ht : d.t < b
    · simp [he, ht]
      refine vcRet_of [] ?_ rfl
      simp [refWay, hb2, he, ht]
    · by_cases hd : d.d = 0
      · simp [he, ht, hd]
        refine vcRet_of [] ?_ rfl
        simp [refWay, hb, hb2, he, ht, hd]
      · by_cases hp0 : d.ps.length = 0
        · have hp0' : d.ps = [] := List.length_eq_zero_iff.1 hp0
          simp [he, ht, hd, hp0']
          refine vcRet_of [] ?_ rfl
          simp [refWay, he, hd]
        · simp [he, ht, hd, hp0]
          refine vcRet_of [] ?_ rfl
          simp [refWay, he, hd]
end Go.Proofs.Ytgoklgibhmddoaa
namespace Go.Proofs.Ytgoklgibhmddoaa
open Go.RowKit
set_option maxRecDepth 100000

theorem fits_fly {d : Dr} (h : d.Fits) : fly d.ps < 4294967296 := by have : fly d.ps + d.ar.length < 4294967296 := h.1; omega
theorem rng_b1 {s : Nw} {c : Cn} (h : inR c.born 0 1000000000000 = false) : cnRanges s c = false := by
  unfold cnRanges Dr.ranges timeOk never
  simp only [h, Bool.and_false, Bool.false_and]
theorem rng_b2 {s : Nw} {c : Cn} (h : inR c.ready 0 1000000000001 = false) : cnRanges s c = false := by
  unfold cnRanges Dr.ranges timeOk never
  simp only [h, Bool.and_false, Bool.false_and]
theorem rng_b3 {s : Nw} {c : Cn} (h : inR c.sent 0 1000000000000000 = false) : cnRanges s c = false := by
  unfold cnRanges Dr.ranges timeOk never
  simp only [h, Bool.and_false, Bool.false_and]
theorem rng_b4 {s : Nw} {c : Cn} (h : inR c.up.t 0 1000000000000 = false) : cnRanges s c = false := by
  unfold cnRanges Dr.ranges timeOk never
  simp only [h, Bool.and_false, Bool.false_and]
theorem rng_b5 {s : Nw} {c : Cn} (h : inR c.dn.t 0 1000000000000 = false) : cnRanges s c = false := by
  unfold cnRanges Dr.ranges timeOk never
  simp only [h, Bool.and_false]
theorem rng_b6 {s : Nw} {c : Cn} (h : (c.up.ps.all fun p => timeOk p.time) = false) : cnRanges s c = false := by
  unfold cnRanges Dr.ranges timeOk never
  unfold timeOk at h
  simp only [h, Bool.and_false, Bool.false_and]
theorem rng_b7 {s : Nw} {c : Cn} (h : (c.dn.ps.all fun p => timeOk p.time) = false) : cnRanges s c = false := by
  unfold cnRanges Dr.ranges timeOk never
  unfold timeOk at h
  simp only [h, Bool.and_false, Bool.false_and]
theorem rng_b8 {s : Nw} {c : Cn} (h : inR c.up.e 0 2 = false) : cnRanges s c = false := by
  unfold cnRanges Dr.ranges timeOk never
  simp only [h, Bool.and_false, Bool.false_and]
theorem rng_b9 {s : Nw} {c : Cn} (h : inR c.dn.e 0 2 = false) : cnRanges s c = false := by
  unfold cnRanges Dr.ranges timeOk never
  simp only [h, Bool.and_false, Bool.false_and]
theorem rng_b10 {s : Nw} {c : Cn} (h : inR c.up.d 0 2 = false) : cnRanges s c = false := by
  unfold cnRanges Dr.ranges timeOk never
  simp only [h, Bool.and_false, Bool.false_and]
theorem rng_b11 {s : Nw} {c : Cn} (h : inR c.dn.d 0 2 = false) : cnRanges s c = false := by
  unfold cnRanges Dr.ranges timeOk never
  simp only [h, Bool.and_false, Bool.false_and]
def refLong (s : Nw) : Bool := s.conns.any longC || (decide (16 < s.plans.length) || decide (500 < s.conns.length))
set_option maxHeartbeats 2000000 in
theorem long_m (s : Nw) (hf : Fits s) : Meets Try.prog 102 [s.pv] [] (Ret (.b (refLong s))) := by
  obtain ⟨f1, f2, f3⟩ := hf
  refine meetsH [] tbOk mixed Try.func102 pl102 rfl rfl ?_
  simp [Try.ntmps102]
  refine vc_loop (fun m σ => ∃ k : Nat, m = s.conns.length - k ∧ k ≤ s.conns.length ∧ noneTo longC s.conns k ∧ σ = ⟨45, [(3, .i k), (1, .ptr 1 0)], [(1, s.box)]⟩) ?_ ?_
  · exact ⟨_, _, ⟨0, rfl, Nat.zero_le _, noneTo_zero _ _, rfl⟩, [], _, rfl, by simp⟩
  rintro m σ ⟨k, rfl, hk, hn, rfl⟩
  by_cases hlt : k < s.conns.length
  · obtain ⟨c, hc, e⟩ := at_lt hlt
    obtain ⟨g1, g2⟩ := f3 c (List.mem_of_getElem? hc)
    have w1 : IntKind.i64.wrap ((fly c.up.ps : Int) + c.up.ar.length) = ((c.up.n : Nat) : Int) := by have : c.up.n < 4294967296 := g1.1; rw [IntWalk.i64_in _ (by unfold Dr.n at this; omega)]; unfold Dr.n; omega
    have w2 : IntKind.i64.wrap ((fly c.dn.ps : Int) + c.dn.ar.length) = ((c.dn.n : Nat) : Int) := by have : c.dn.n < 4294967296 := g2.1; rw [IntWalk.i64_in _ (by unfold Dr.n at this; omega)]; unfold Dr.n; omega
    have hbad : longC c = true → refLong s = true := fun h => by
      have : s.conns.any longC = true := any_at hc h
      simp [refLong, this]
    simp [hlt, e]
    refine effCall (bytesR_m c.up.ps g1.2 (fits_fly g1)) ?_
    by_cases h1 : (1048576 : Int) < c.up.n
    · simp [w1, h1]
      refine ⟨by kernel_rfl, ?_⟩
      refine vcRet_of [] ?_ rfl
      have h1n : 1048576 < c.up.n := by omega
      rw [hbad (by simp [longC, h1n])]
      simp
    simp [w1, h1]
    refine effCall (bytesR_m c.dn.ps g2.2 (fits_fly g2)) ?_
    by_cases h2 : (1048576 : Int) < c.dn.n
    · simp [w2, h2]
      refine ⟨by kernel_rfl, ?_⟩
      refine vcRet_of [] ?_ rfl
      have h2n : 1048576 < c.dn.n := by omega
      rw [hbad (by simp [longC, h2n])]
      simp
    simp [w2, h2, wrap_succ hlt f2]
    refine ⟨by kernel_rfl, ?_⟩
    have h1n : ¬ 1048576 < c.up.n := by omega
    have h2n : ¬ 1048576 < c.dn.n := by omega
    exact ⟨_, by omega, _, ⟨k + 1, rfl, hlt, noneTo_succ hn hc (by simp [longC, h1n, h2n]), rfl⟩, [], _, rfl, by simp⟩
  obtain rfl : k = s.conns.length := by omega
  have hl := noneTo_any hn
  by_cases h1 : (16 : Int) < s.plans.length
  · simp [h1]
    refine vcRet_of [] ?_ rfl
    have : 16 < s.plans.length := by omega
    simp [refLong, this]
  · simp [h1]
    refine vcRet_of [] ?_ rfl
    have h1n : ¬ 16 < s.plans.length := by omega
    by_cases h2 : (500 : Int) < s.conns.length
    · have : 500 < s.conns.length := by omega
      simp [refLong, this, h2]
    · have : ¬ 500 < s.conns.length := by omega
      simp [refLong, this, h2, hl, h1n]
set_option maxHeartbeats 8000000 in
theorem rangesR_m (s : Nw) (hf : Fits s) : Meets Try.prog 103 [s.pv] [] (Ret (.b (ranges s))) := by
  obtain ⟨f1, f2, f3⟩ := hf
  refine meetsH [] tbOk mixed Try.func103 pl103 rfl rfl ?_
  simp [Try.ntmps103]
  refine vc_loop (fun m σ => ∃ k : Nat, m = s.plans.length - k ∧ k ≤ s.plans.length ∧ noneTo (fun p => !plOk p) s.plans k ∧ σ = ⟨134, [(3, .i k), (1, .ptr 1 0)], [(1, s.box)]⟩) ?_ ?_
  · exact ⟨_, _, ⟨0, rfl, Nat.zero_le _, noneTo_zero _ _, rfl⟩, [], _, rfl, by simp⟩
  rintro m σ ⟨k, rfl, hk, hn, rfl⟩
  by_cases hlt : k < s.plans.length
  · obtain ⟨p, hp, e⟩ := at_lt hlt
    simp [hlt, e]
    refine (plan_m p).mono ?_
    rintro _ rfl
    cases h : plOk p
    · simp
      have : s.plans.all plOk = false := all_at hp h
      exact vcRet_of [] (by simp [ranges, this]) rfl
    · simp [wrap_succ hlt f1]
      exact ⟨_, by omega, _, ⟨k + 1, rfl, hlt, noneTo_succ hn hp (by simp [h]), rfl⟩, [], _, rfl, by simp⟩
  obtain rfl : k = s.plans.length := by omega
  have hpl : s.plans.all plOk = true := noneTo_all hn fun x => rfl
  simp
  refine (between_m s.now 0 1000000000000).mono ?_
  rintro _ rfl
  cases hnow : inR s.now 0 1000000000000
  · simp
    exact vcRet_of [] (by simp [ranges, timeOk, hnow]) rfl
  simp
  refine (between_m s.next 1 1000000000000000).mono ?_
  rintro _ rfl
  cases hnx : inR s.next 1 1000000000000000
  · simp
    exact vcRet_of [] (by simp [ranges, hnx]) rfl
  have hnx2 : 1 ≤ s.next ∧ s.next ≤ 1000000000000000 := by unfold inR at hnx; simpa using hnx
  have wn : IntKind.i64.wrap (s.next - 1) = s.next - 1 := IntWalk.i64_in _ (by omega)
  simp
  refine vc_loop (fun m σ => ∃ k : Nat, m = s.conns.length - k ∧ k ≤ s.conns.length ∧ noneTo (fun c => !cnRanges s c) s.conns k ∧ σ = ⟨134, [(4, .i k), (1, .ptr 1 0)], [(1, s.box)]⟩) ?_ ?_
  · exact ⟨_, _, ⟨0, rfl, Nat.zero_le _, noneTo_zero _ _, rfl⟩, [], _, rfl, by simp⟩
  rintro m σ ⟨k, rfl, hk, hn, rfl⟩
  by_cases hlt : k < s.conns.length
  · obtain ⟨c, hc, e⟩ := at_lt hlt
    obtain ⟨g1, g2⟩ := f3 c (List.mem_of_getElem? hc)
    have hbad : cnRanges s c = false → ranges s = false := fun h => by
      have : s.conns.all (cnRanges s) = false := all_at hc h
      simp [ranges, this]
    simp [hlt, e, wn]
    refine (between_m c.id 1 (s.next - 1)).mono ?_
    rintro _ rfl
    cases a1 : inR c.id 1 (s.next - 1)
    · simp
      rw [hbad (by simp [cnRanges, a1])]
      exact vcRet_of [] (by simp) rfl
    by_cases a2 : c.backend < 0
    · simp [a2]
      rw [hbad (by have : ¬ 0 ≤ c.backend := by omega
                   simp [cnRanges, inR, this])]
      exact vcRet_of [] (by simp) rfl
    by_cases a3 : (s.plans.length : Int) ≤ c.backend
    · simp [a2, a3]
      rw [hbad (by have : ¬ c.backend ≤ s.plans.length - 1 := by omega
                   simp [cnRanges, inR, this])]
      exact vcRet_of [] (by simp) rfl
    by_cases a4 : c.status < 0
    · simp [a2, a3, a4]
      rw [hbad (by have : ¬ 0 ≤ c.status := by omega
                   simp [cnRanges, inR, this])]
      exact vcRet_of [] (by simp) rfl
    by_cases a5 : 3 < c.status
    · simp [a2, a3, a4, a5]
      rw [hbad (by have : ¬ c.status ≤ 3 := by omega
                   simp [cnRanges, inR, this])]
      exact vcRet_of [] (by simp) rfl
    have a23 : inR c.backend 0 (s.plans.length - 1) = true := by
      have h1 : 0 ≤ c.backend := by omega
      have h2 : c.backend ≤ (s.plans.length : Int) - 1 := by omega
      simp [inR, h1, h2]
    have a45 : inR c.status 0 3 = true := by
      have h1 : 0 ≤ c.status := by omega
      have h2 : c.status ≤ 3 := by omega
      simp [inR, h1, h2]
    simp [a2, a3, a4, a5]
    refine (between_m c.born 0 1000000000000).mono ?_
    rintro _ rfl
    cases b1 : inR c.born 0 1000000000000
    · simp
      rw [hbad (by exact rng_b1 b1)]
      exact vcRet_of [] (by simp) rfl
    simp
    refine (between_m c.ready 0 1000000000001).mono ?_
    rintro _ rfl
    cases b2 : inR c.ready 0 1000000000001
    · simp
      rw [hbad (by exact rng_b2 b2)]
      exact vcRet_of [] (by simp) rfl
    simp
    refine (between_m c.sent 0 1000000000000000).mono ?_
    rintro _ rfl
    cases b3 : inR c.sent 0 1000000000000000
    · simp
      rw [hbad (by exact rng_b3 b3)]
      exact vcRet_of [] (by simp) rfl
    simp
    refine (between_m c.up.t 0 1000000000000).mono ?_
    rintro _ rfl
    cases b4 : inR c.up.t 0 1000000000000
    · simp
      rw [hbad (by exact rng_b4 b4)]
      exact vcRet_of [] (by simp) rfl
    simp
    refine (between_m c.dn.t 0 1000000000000).mono ?_
    rintro _ rfl
    cases b5 : inR c.dn.t 0 1000000000000
    · simp
      rw [hbad (by exact rng_b5 b5)]
      exact vcRet_of [] (by simp) rfl
    simp
    refine (times_m c.up.ps g1.2).mono ?_
    rintro _ rfl
    cases b6 : (c.up.ps.all fun p => timeOk p.time)
    · simp
      rw [hbad (by exact rng_b6 b6)]
      exact vcRet_of [] (by simp) rfl
    simp
    refine (times_m c.dn.ps g2.2).mono ?_
    rintro _ rfl
    cases b7 : (c.dn.ps.all fun p => timeOk p.time)
    · simp
      rw [hbad (by exact rng_b7 b7)]
      exact vcRet_of [] (by simp) rfl
    simp
    refine (endR_m c.up.e).mono ?_
    rintro _ rfl
    cases b8 : inR c.up.e 0 2
    · simp
      rw [hbad (by exact rng_b8 b8)]
      exact vcRet_of [] (by simp) rfl
    simp
    refine (endR_m c.dn.e).mono ?_
    rintro _ rfl
    cases b9 : inR c.dn.e 0 2
    · simp
      rw [hbad (by exact rng_b9 b9)]
      exact vcRet_of [] (by simp) rfl
    simp
    refine (endR_m c.up.d).mono ?_
    rintro _ rfl
    cases b10 : inR c.up.d 0 2
    · simp
      rw [hbad (by exact rng_b10 b10)]
      exact vcRet_of [] (by simp) rfl
    simp
    refine (endR_m c.dn.d).mono ?_
    rintro _ rfl
    cases b11 : inR c.dn.d 0 2
    · simp
      rw [hbad (by exact rng_b11 b11)]
      exact vcRet_of [] (by simp) rfl
    have hok : cnRanges s c = true := by
      unfold timeOk at b6 b7
      unfold cnRanges Dr.ranges timeOk never
      simp only [a1, a23, a45, b1, b2, b3, b4, b5, b6, b7, b8, b9, b10, b11, Bool.and_self]
    simp [wrap_succ hlt f2]
    exact ⟨_, by omega, _, ⟨k + 1, rfl, hlt, noneTo_succ hn hc (by rw [hok]; rfl), rfl⟩, [], _, rfl, by simp⟩
  obtain rfl : k = s.conns.length := by omega
  have hcl : s.conns.all (cnRanges s) = true := noneTo_all hn fun x => rfl
  simp
  exact vcRet_of [] (by simp [ranges, timeOk, hpl, hnow, hnx, hcl]) rfl
end Go.Proofs.Ytgoklgibhmddoaa
namespace Go.Proofs.Ytgoklgibhmddoaa
open Go.RowKit
set_option maxRecDepth 100000

/-- A connection, as the reference looks at it. -/
def refFormed (c : Cn) : Bool :=
  refWay c.up c.born && (refWay c.dn c.born && (!(decide (c.up.e = 2) || (decide (c.up.d = 2) || ((decide (c.dn.d = 2) && decide (0 < c.dn.ar.length)) || decide (c.sent < c.up.n)))) &&
  if c.status = 1 then !(decide (c.up.e ≠ 0) || decide (c.up.d ≠ 0)) else if c.status = 3 then c.dn.quiet else c.up.quiet && (c.dn.quiet && decide (c.sent = 0))))
theorem way_up {d : Dr} (h : d.ranges = true) (born : Int) : d.formed 2 born = (refWay d born && (!decide (d.e = 2) && !decide (d.d = 2))) := by
  unfold Dr.ranges timeOk inR at h
  simp only [Bool.and_eq_true, decide_eq_true_eq] at h
  unfold Dr.formed refWay
  by_cases he : d.e = 0
  · by_cases ht : d.t = 0
    · by_cases hd : d.d = 2 <;> by_cases ho : ordTo born d.ps = true <;> simp [he, ht, hd, ho]
    · have h1 : ¬ d.t < 0 := by omega
      simp [he, ht]
  · by_cases ht : d.t < lastOf born d.ps
    · simp [he, ht]
    · by_cases h2 : d.e = 2 <;> by_cases hd : d.d = 2 <;> by_cases ho : ordTo born d.ps = true <;> simp [he, ht, h2, hd, ho]
theorem way_dn {d : Dr} (h : d.ranges = true) (born : Int) : d.formed (-1) born = refWay d born := by
  unfold Dr.ranges timeOk inR at h
  simp only [Bool.and_eq_true, decide_eq_true_eq] at h
  have e1 : ¬ d.e = -1 := by omega
  have e2 : ¬ d.d = -1 := by omega
  unfold Dr.formed refWay
  by_cases he : d.e = 0
  · by_cases ht : d.t = 0
    · simp [he, ht, e2]
    · simp [he, ht]
  · by_cases ht : d.t < lastOf born d.ps
    · simp [he, ht]
    · simp [he, ht, e1, e2]
theorem formed_eq {c : Cn} (h1 : c.up.ranges = true) (h2 : c.dn.ranges = true) : refFormed c = cnFormed c := by
  unfold refFormed cnFormed
  rw [way_up h1, way_dn h2]
  by_cases e1 : c.up.e = 2
  · simp [e1]
  · by_cases e2 : c.up.d = 2
    · simp [e2]
    · cases refWay c.up c.born
      · simp
      · cases refWay c.dn c.born
        · simp
        · by_cases e3 : c.sent < c.up.n <;> by_cases e4 : c.dn.d = 2 <;> by_cases e5 : 0 < c.dn.ar.length <;> simp [e1, e2, e3, e4, e5]
theorem quiet_eq (d : Dr) : d.quiet = (decide (d.ps.length = 0) && (decide (d.ar.length = 0) && (decide (d.e = 0) && decide (d.d = 0)))) := by
  unfold Dr.quiet Dr.n
  cases hps : d.ps with
  | nil => simp [fly]
  | cons p r => simp
def upB (c : Cn) : Bool := decide (0 < c.up.ps.length) || decide (0 < c.up.ar.length)
def endsB (c : Cn) : Bool := decide (c.up.e ≠ 0) || decide (c.up.d ≠ 0)
def downB (c : Cn) : Bool := decide (0 < c.dn.ps.length) || (decide (0 < c.dn.ar.length) || (decide (c.dn.e ≠ 0) || decide (c.dn.d ≠ 0)))
def oddB (c : Cn) : Bool := decide (c.up.e = 2) || (decide (c.up.d = 2) || ((decide (c.dn.d = 2) && decide (0 < c.dn.ar.length)) || decide (c.sent < c.up.n)))
theorem quiet_dn (c : Cn) : c.dn.quiet = !downB c := by
  rw [quiet_eq]
  unfold downB
  by_cases h1 : c.dn.ps.length = 0 <;> by_cases h2 : c.dn.ar.length = 0 <;> by_cases h3 : c.dn.e = 0 <;> by_cases h4 : c.dn.d = 0 <;> simp [h1, h2, h3, h4, Nat.pos_iff_ne_zero]
theorem quiet_up (c : Cn) : c.up.quiet = (!upB c && !endsB c) := by
  rw [quiet_eq]
  unfold upB endsB
  by_cases h1 : c.up.ps.length = 0 <;> by_cases h2 : c.up.ar.length = 0 <;> by_cases h3 : c.up.e = 0 <;> by_cases h4 : c.up.d = 0 <;> simp [h1, h2, h3, h4, Nat.pos_iff_ne_zero]
theorem refFormed_eq (c : Cn) : refFormed c = (refWay c.up c.born && (refWay c.dn c.born && (!oddB c && if c.status = 1 then !endsB c else if c.status = 3 then !downB c else (!upB c && (!endsB c && (!downB c && decide (c.sent = 0))))))) := by
  unfold refFormed
  rw [quiet_dn, quiet_up]
  unfold oddB endsB
  cases upB c <;> simp
@[simp] def cBox (c : Cn) : MObj := .box 67 (c.ds.map .d)
set_option maxHeartbeats 8000000 in
theorem formedR_m (c : Cn) (hu : c.up.Fits) (hd : c.dn.Fits) : Meets Try.prog 104 [.agg (c.ds.map .d)] [] (Ret (.b (refFormed c))) := by
  have w1 : IntKind.i64.wrap ((fly c.up.ps : Int) + c.up.ar.length) = ((c.up.n : Nat) : Int) := by have : c.up.n < 4294967296 := hu.1; rw [IntWalk.i64_in _ (by unfold Dr.n at this; omega)]; unfold Dr.n; omega
  rw [refFormed_eq]
  refine meetsP [(63, [.only [1] [1]]), (73, [.only [1, 3] [1]]), (81, [.only [1, 3, 4] [1]]), (101, [.only [1, 3, 4, 5] [1]])] tbOk mixed Try.func104 pl104 rfl rfl ?_
  simp [Try.ntmps104, -vc_seq]
  rw [vc_seq]
  simp [-vc_seq]
  rw [vc_seq, vc_seq]
  simp [-vc_seq]
  refine (way_m c.up hu.2 c.born).mono ?_
  rintro _ rfl
  cases h1 : refWay c.up c.born
  · simp
    exact vcRet_of [] (by simp) rfl
  simp [-vc_seq]
  refine (way_m c.dn hd.2 c.born).mono ?_
  rintro _ rfl
  cases h2 : refWay c.dn c.born
  · simp
    exact vcRet_of [] (by simp) rfl
  simp [-vc_seq]
  refine vc_cut (fun σ' => oddB c = false ∧ Prep.run σ' (.only [1] [1]) = some ⟨126, [(1, .ptr 1 0)], [(1, cBox c)]⟩) ?_ ?_
  case refine_2 =>
    intro T' hT
    by_cases e1 : c.up.e = 2
    · simp [e1]
      refine ⟨by kernel_rfl, ?_⟩
      exact vcRet_of [] (by simp [oddB, e1]) rfl
    by_cases e2 : c.up.d = 2
    · simp [e1, e2]
      refine ⟨by kernel_rfl, ?_⟩
      exact vcRet_of [] (by simp [oddB, e2]) rfl
    by_cases e3 : c.dn.d = 2
    · by_cases e5 : 0 < c.dn.ar.length
      · simp [e1, e2, e3, e5]
        refine ⟨by kernel_rfl, ?_⟩
        exact vcRet_of [] (by simp [oddB, e3, e5]) rfl
      · simp [e1, e2, e3, e5]
        refine effCall (bytesR_m c.up.ps hu.2 (fits_fly hu)) ?_
        by_cases e4 : c.sent < c.up.n
        · simp [w1, e4]
          refine ⟨by kernel_rfl, ?_⟩
          exact vcRet_of [] (by simp [oddB, e4]) rfl
        · simp [w1, e4]
          refine ⟨by kernel_rfl, ?_⟩
          exact hT _ ⟨by simp [oddB, e1, e2, e5, e4], by simp [Prep.run, e3]⟩
    · simp [e1, e2, e3]
      refine effCall (bytesR_m c.up.ps hu.2 (fits_fly hu)) ?_
      by_cases e4 : c.sent < c.up.n
      · simp [w1, e4]
        refine ⟨by kernel_rfl, ?_⟩
        exact vcRet_of [] (by simp [oddB, e4]) rfl
      · simp [w1, e4]
        refine ⟨by kernel_rfl, ?_⟩
        exact hT _ ⟨by simp [oddB, e1, e2, e3, e4], by simp [Prep.run]⟩
  rintro σ' ⟨ho, h⟩
  refine vc_cut (fun σ' => Prep.run σ' (.only [1, 3] [1]) = some ⟨126, [(1, .ptr 1 0), (3, .b (upB c))], [(1, cBox c)]⟩) ?_ ?_
  case refine_2 =>
    intro T' hT
    by_cases p1 : 0 < c.up.ps.length
    · simp [h, p1]
      exact hT _ (by simp [Prep.run, upB, p1])
    · by_cases p2 : 0 < c.up.ar.length
      · simp [h, p1, p2]
        exact hT _ (by simp [Prep.run, upB, p2])
      · simp [h, p1, p2]
        exact hT _ (by simp [Prep.run, upB, p1, p2])
  clear h
  clear σ'
  rintro σ' h
  refine vc_cut (fun σ' => Prep.run σ' (.only [1, 3, 4] [1]) = some ⟨126, [(1, .ptr 1 0), (3, .b (upB c)), (4, .b (endsB c))], [(1, cBox c)]⟩) ?_ ?_
  case refine_2 =>
    intro T' hT
    by_cases p1 : c.up.e = 0
    · by_cases p2 : c.up.d = 0
      · simp [h, p1, p2]
        exact hT _ (by simp [Prep.run, endsB, p1, p2])
      · simp [h, p1, p2]
        exact hT _ (by simp [Prep.run, endsB, p1, p2])
    · simp [h, p1]
      exact hT _ (by simp [Prep.run, endsB, p1])
  clear h
  clear σ'
  rintro σ' h
  refine vc_cut (fun σ' => Prep.run σ' (.only [1, 3, 4, 5] [1]) = some ⟨126, [(1, .ptr 1 0), (3, .b (upB c)), (4, .b (endsB c)), (5, .b (downB c))], [(1, cBox c)]⟩) ?_ ?_
  case refine_2 =>
    intro T' hT
    by_cases p1 : 0 < c.dn.ps.length
    · simp [h, p1]
      exact hT _ (by simp [Prep.run, downB, p1])
    by_cases p2 : 0 < c.dn.ar.length
    · simp [h, p1, p2]
      exact hT _ (by simp [Prep.run, downB, p2])
    by_cases p3 : c.dn.e = 0
    · by_cases p4 : c.dn.d = 0
      · simp [h, p1, p2, p3, p4]
        exact hT _ (by simp [Prep.run, downB, p1, p2, p3, p4])
      · simp [h, p1, p2, p3, p4]
        exact hT _ (by simp [Prep.run, downB, p3, p4])
    · simp [h, p1, p2, p3]
      exact hT _ (by simp [Prep.run, downB, p3])
  clear h
  clear σ'
  rintro σ' h
  by_cases s1 : c.status = 1
  · simp [h, s1]
    exact vcRet_of [] (by simp [ho]) rfl
  by_cases s3 : c.status = 3
  · simp [h, s3]
    exact vcRet_of [] (by simp [ho]) rfl
  cases hup : upB c
  case true =>
    simp [h, s1, s3, hup]
    exact vcRet_of [] (by simp) rfl
  cases hen : endsB c
  case true =>
    simp [h, s1, s3, hup, hen]
    exact vcRet_of [] (by simp) rfl
  cases hdo : downB c
  case true =>
    simp [h, s1, s3, hup, hen, hdo]
    exact vcRet_of [] (by simp) rfl
  by_cases hz : c.sent = 0
  · simp [h, s1, s3, hup, hen, hdo, hz]
    exact vcRet_of [] (by simp [ho]) rfl
  · simp [h, s1, s3, hup, hen, hdo, hz]
    exact vcRet_of [] (by simp) rfl
end Go.Proofs.Ytgoklgibhmddoaa
