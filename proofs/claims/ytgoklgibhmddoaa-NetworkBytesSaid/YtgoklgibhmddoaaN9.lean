/- Contracts: network 9. No condition. -/
import Derived.Test.YtgoklgibhmddoaaN8
import Derived.Test.YtgoklgibhmddoaaN4
namespace Go.Proofs.Ytgoklgibhmddoaa
open Go.RowKit
set_option maxRecDepth 100000

theorem some_ok {s : Nw} {n : Int} {st : List Int} (h : (someE s n st).2 = 0) : (findE s n).2 = 0 ∧ (cnAt s n).status ∈ st ∧ someE s n st = findE s n := by
  unfold someE at h ⊢
  split at h
  · contradiction
  · rename_i h1
    split at h
    · rename_i h2
      rw [if_neg h1, if_pos h2]
      exact ⟨by simpa using h1, h2, rfl⟩
    · cases h
theorem some_err {s : Nw} {n : Int} {st : List Int} (h : (someE s n st).2 ≠ 0) (F : Cn → Pl → Int × Cn) : changeS s n st F = (s, (someE s n st).2) := by
  unfold someE at h ⊢
  split at h
  · rename_i h1
    rw [if_pos h1]
    unfold changeS
    rw [if_pos h1]
  · rename_i h1
    have h1' : (findE s n).2 = 0 := by simpa using h1
    split at h
    · contradiction
    · rename_i h2
      rw [if_neg h1, if_neg h2, changeS_down h1' h2]
set_option maxHeartbeats 4000000 in
theorem readR_m (s : Nw) (hf : Fits s) (n most : Int) : Meets Try.prog 56 [s.pv, .i n, .i most] [] (Ret (.tup [(readS s n most).1.pv, .d (bs (readS s n most).2.1), .i (readS s n most).2.2])) := by
  refine meetsP [(55, [.focus 10054 9 []]), (66, [.seenN 10054 9, .close 10054, .unnest 10054])] tbOk mixed Try.func56 pl56 rfl rfl ?_
  simp [Try.ntmps56]
  refine (upR_m s hf n).mono ?_
  rintro _ rfl
  by_cases hse : (someE s n [1]).2 = 0
  case neg =>
    simp [hse]
    refine vcRet_of [] ?_ rfl
    unfold readS
    rw [some_err hse]
    simp [hse]
  obtain ⟨hfe, hst, he⟩ := some_ok hse
  obtain ⟨c, p, A⟩ := at_of hf hfe
  rw [A.cn] at hst
  have gd : c.dn.ar.length < 4294967296 := by have h : c.dn.n < 4294967296 := A.dnF.1; unfold Dr.n at h; omega
  have bad : ∀ e, (readF most c).1 = e → e ≠ 0 → readS s n most = (s, [], e) := fun e h1 h2 => by
    unfold readS
    rw [changeS_err hfe (by rw [A.cn]; exact hst) (by rw [A.cn]; simp only [h1]; exact h2), A.cn]
    simp [h1, h2]
  rw [he]
  by_cases h1 : most < 1
  · simp [hfe, h1]
    refine vcRet_of [] ?_ rfl
    rw [bad 7 (by simp [readF, h1]) (by decide)]
    simp
  by_cases h2 : c.dn.ar.length = 0
  · have h2' : c.dn.ar = [] := List.length_eq_zero_iff.1 h2
    by_cases h3 : c.dn.d = 1
    · simp [hfe, h1, A.i0, A.il, A.lt, A.el, h2', h3]
      refine vcRet_of [] ?_ rfl
      rw [bad 121 (by simp [readF, h1, h2', h3]) (by decide)]
      simp
    by_cases h4 : c.dn.d = 2
    · simp [hfe, h1, A.i0, A.il, A.lt, A.el, h2', h4]
      refine vcRet_of [] ?_ rfl
      rw [bad 120 (by simp [readF, h1, h2', h4]) (by decide)]
      simp
    · simp [hfe, h1, A.i0, A.il, A.lt, A.el, h2', h3, h4]
      refine vcRet_of [] ?_ rfl
      rw [bad 10 (by simp [readF, h1, h2', h3, h4]) (by decide)]
      simp
  · have hpos : 0 < c.dn.ar.length := by omega
    have hk0 : 0 ≤ min most (c.dn.ar.length : Int) := by omega
    have hk1 : min most (c.dn.ar.length : Int) ≤ c.dn.ar.length := by omega
    have hr : readF most c = (0, c.dn.ar.take (min most c.dn.ar.length).toNat, { c with dn := { c.dn with ar := c.dn.ar.drop (min most c.dn.ar.length).toNat } }) := by simp [readF, h1, hpos]
    have hcs : readS s n most = (⟨s.now, s.next, s.plans, s.conns.set (findE s n).1.toNat { c with dn := { c.dn with ar := c.dn.ar.drop (min most c.dn.ar.length).toNat } }⟩, c.dn.ar.take (min most c.dn.ar.length).toNat, 0) := by
      unfold readS
      rw [changeS_ok hfe (by rw [A.cn]; exact hst) (by rw [A.cn]; simp only [hr]), A.cn]
      simp only [hr]
      rfl
    rw [hcs]
    have hm := (List.mem_singleton.1 hst)
    simp [hfe, h1, A.i0, A.il, A.lt, A.el, h2]
    refine (copyRD_m s hf).mono ?_
    rintro _ rfl
    simp [A.i0, A.il, A.lt, A.el, Prep.run, hk0, hk1]
    refine ⟨idx2 (by simp) (by simp), ?_⟩
    refine ⟨by omega, by kernel_rfl, by omega, by kernel_rfl, ?_⟩
    refine vcRet_of [] ?_ rfl
    simp [List.take_of_length_le, cn_explicit ⟨_, _, _, _, _, _, _, _⟩]
    exact ⟨by omega, by rw [List.take_take, Nat.min_self]⟩
theorem takeF_ok (c : Cn) (p : Pl) : ((fun (c : Cn) (_ : Pl) => ((0 : Int), takeF c)) c p).1 = 0 := rfl
set_option maxHeartbeats 4000000 in
theorem takeR_m (s : Nw) (hf : Fits s) (n : Int) : Meets Try.prog 59 [s.pv, .i n] [] (Ret (.tup [(takeS s n).1.pv, .d (bs (takeS s n).2.1), .i (takeS s n).2.2.1, .i (takeS s n).2.2.2])) := by
  refine meetsP [(24, [.focus 10023 8 []]), (35, [.close 10023, .unnest 10023, .soft 10023 8 1])] tbOk mixed Try.func59 pl59 rfl rfl ?_
  simp [Try.ntmps59]
  refine (wasR_m s hf n).mono ?_
  rintro _ rfl
  by_cases hse : (someE s n [1, 3]).2 = 0
  case neg =>
    simp [hse]
    refine vcRet_of [] ?_ rfl
    unfold takeS
    rw [some_err hse]
    simp [hse]
  obtain ⟨hfe, hst, he⟩ := some_ok hse
  obtain ⟨c, p, A⟩ := at_of hf hfe
  rw [A.cn] at hst
  have hcs : takeS s n = (⟨s.now, s.next, s.plans, s.conns.set (findE s n).1.toNat (takeF c)⟩, c.up.ar, c.up.d, 0) := by
    unfold takeS
    rw [changeS_ok hfe (by rw [A.cn]; exact hst) rfl, A.cn]
    rfl
  rw [he, hcs]
  simp [hfe]
  refine (copyRD_m s hf).mono ?_
  rintro _ rfl
  simp [A.i0, A.il, A.lt, A.el, Prep.run]
  refine ⟨idx2 (by simp) (by simp), ?_⟩
  refine ⟨by kernel_rfl, ?_⟩
  refine vcRet_of [] ?_ rfl
  simp [List.take_of_length_le, cn_explicit (takeF c)]
  simp [takeF]
theorem ans_ok {s : Nw} {n delay : Int} (h : (ansE s n delay).2 = 0) : (findE s n).2 = 0 ∧ (cnAt s n).status ∈ [1, 3] ∧ inR delay 0 100000 = true ∧ ansE s n delay = ((findE s n).1, 0) := by
  unfold ansE at h ⊢
  split at h
  · contradiction
  · rename_i h1
    obtain ⟨a, b, e⟩ := some_ok (by simpa using h1)
    split at h
    · rename_i h2
      rw [if_neg h1, if_pos h2, e]
      exact ⟨a, b, h2, rfl⟩
    · cases h
theorem ans_err {s : Nw} {n delay : Int} (h : (ansE s n delay).2 ≠ 0) (how many : Int) (G : Cn → Pl → Cn) : changeS s n [1, 3] (fun c p => ansF delay how many G c p) = (s, (ansE s n delay).2) := by
  unfold ansE at h ⊢
  split at h
  · rename_i h1
    rw [if_pos h1, some_err h1]
  · rename_i h1
    have h1' : (someE s n [1, 3]).2 = 0 := by simpa using h1
    obtain ⟨a, b, e⟩ := some_ok h1'
    split at h
    · contradiction
    · rename_i h2
      rw [if_neg h1, if_neg h2]
      have h3 : inR delay 0 100000 = false := by simpa using h2
      have h4 : ansF delay how many G (cnAt s n) (plAt s n) = (7, cnAt s n) := by simp [ansF, h3]
      rw [changeS_err a b (by rw [h4]; show (7 : Int) ≠ 0; decide), h4]
set_option maxHeartbeats 4000000 in
theorem finishR_m (s : Nw) (hf : Fits s) (n how delay : Int) : Meets Try.prog 61 [s.pv, .i n, .i how, .i delay] [] (Ret (.tup [(finS s n how delay).1.pv, .i (finS s n how delay).2])) := by
  refine meetsP [(42, [.focus 10041 10 []]), (70, [.close 10041, .unnest 10041])] tbOk mixed Try.func61 pl61 rfl rfl ?_
  simp [Try.ntmps61]
  refine (ansR_m s hf n delay).mono ?_
  rintro _ rfl
  by_cases hse : (ansE s n delay).2 = 0
  case neg =>
    simp [hse]
    refine vcRet_of [] ?_ rfl
    unfold finS finF
    rw [ans_err hse]
    simp
  obtain ⟨hfe, hst, hde, he⟩ := ans_ok hse
  obtain ⟨c, p, A⟩ := at_of hf hfe
  rw [A.cn] at hst
  have hd2 : 0 ≤ delay ∧ delay ≤ 100000 := by unfold inR at hde; simpa using hde
  have hn1 := A.now
  have hd1 := A.del
  have hup := A.dnN
  have bad : ∀ e, (finF s.now delay how c p).1 = e → e ≠ 0 → finS s n how delay = (s, e) := fun e h1 h2 => by
    unfold finS
    rw [changeS_err hfe (by rw [A.cn]; exact hst) (by rw [A.cn, A.pl]; simp only [h1]; exact h2), A.cn, A.pl, h1]
  by_cases hh : how ≠ 1 ∧ how ≠ 2
  · simp [he, hh.1, hh.2]
    refine vcRet_of [] ?_ rfl
    rw [bad 2 (by simp [finF, ansF, hde, hh]) (by decide)]
    simp
  have hok : how = 1 ∨ how = 2 := by omega
  by_cases e1 : c.dn.e = 0
  case neg =>
    rcases hok with rfl | rfl
    all_goals
      simp [he, A.i0, A.il, A.lt, A.el]
      refine (endedR_m c).mono ?_
      rintro _ rfl
      simp [e1]
      refine vcRet_of [] ?_ rfl
      rw [bad 9 (by simp [finF, ansF, hde, e1]) (by decide)]
      simp
  by_cases e2 : c.dn.d = 0
  case neg =>
    rcases hok with rfl | rfl
    all_goals
      simp [he, A.i0, A.il, A.lt, A.el]
      refine (endedR_m c).mono ?_
      rintro _ rfl
      simp [e1, e2]
      refine vcRet_of [] ?_ rfl
      rw [bad 9 (by simp [finF, ansF, hde, e1, e2]) (by decide)]
      simp
  have hcs : finS s n how delay = (⟨s.now, s.next, s.plans, s.conns.set (findE s n).1.toNat (if c.status = 1 then finC s.now (p.delay + delay) how c else c)⟩, 0) := by
    have hr : finF s.now delay how c p = (0, if c.status = 1 then finC s.now (p.delay + delay) how c else c) := by
      have h3 : ¬ (1048576 : Int) < c.dn.n := by omega
      by_cases hs1 : c.status = 1 <;> simp [finF, ansF, hde, hh, e1, e2, h3, hs1]
    unfold finS
    rw [changeS_ok hfe (by rw [A.cn]; exact hst) (by rw [A.cn, A.pl, hr]), A.cn, A.pl, hr]
  have w1 : IntKind.i64.wrap (p.delay + delay) = p.delay + delay := IntWalk.i64_in _ (by omega)
  rw [hcs]
  rcases hok with rfl | rfl
  all_goals
    simp [he, A.i0, A.il, A.lt, A.el]
    refine (endedR_m c).mono ?_
    rintro _ rfl
    simp [e1, e2]
    refine (copyRD_m s hf).mono ?_
    rintro _ rfl
    by_cases s1 : c.status = 1
    · simp [A.lt, A.el, Prep.run, s1]
      refine ⟨idx2 (by simp) (by simp), ?_⟩
      simp [A.b0, A.bl, A.blt, A.bel, w1]
      refine effCall (lastR_m c.dn A.dnF.2 s.now (p.delay + delay) (by omega)) ?_
      simp [Prep.run, A.i0, A.il]
      refine ⟨by kernel_rfl, ?_⟩
      refine vcRet_of [] ?_ rfl
      simp [List.take_of_length_le, cn_explicit (finC _ _ _ _)]
      simp [finC, s1]
    · simp [A.lt, A.el, Prep.run, s1, setCn s.conns A.get]
      refine ⟨idx2 (by simp) (by simp), ?_⟩
      refine vcRet_of [] ?_ rfl
      simp [List.take_of_length_le, cn_explicit c, setCn s.conns A.get]
end Go.Proofs.Ytgoklgibhmddoaa
namespace Go.Proofs.Ytgoklgibhmddoaa
open Go.RowKit
set_option maxRecDepth 100000

set_option maxHeartbeats 4000000 in
theorem putR_m (s : Nw) (hf : Fits s) (n : Int) (b : List Int) (hb : b.length < 4294967296) (delay : Int) : Meets Try.prog 60 [s.pv, .i n, .d (bs b), .i delay] [] (Ret (.tup [(putS s n b delay).1.pv, .i (putS s n b delay).2])) := by
  refine meetsP [(47, [.focus 10046 10 [(7, 900000)]]), (86, [.seenN 10046 7, .close 10046, .unnest 10046])] tbOk mixed Try.func60 pl60 rfl rfl ?_
  simp [Try.ntmps60]
  refine (ansR_m s hf n delay).mono ?_
  rintro _ rfl
  by_cases hse : (ansE s n delay).2 = 0
  case neg =>
    simp [hse]
    refine vcRet_of [] ?_ rfl
    unfold putS putF
    rw [ans_err hse]
    simp
  obtain ⟨hfe, hst, hde, he⟩ := ans_ok hse
  obtain ⟨c, p, A⟩ := at_of hf hfe
  rw [A.cn] at hst
  have hd2 : 0 ≤ delay ∧ delay ≤ 100000 := by unfold inR at hde; simpa using hde
  have hn1 := A.now
  have hd1 := A.del
  have hup := A.dnN
  have hdl := A.dnL
  have bad : ∀ e, (putF s.now delay b c p).1 = e → e ≠ 0 → putS s n b delay = (s, e) := fun e h1 h2 => by
    unfold putS
    rw [changeS_err hfe (by rw [A.cn]; exact hst) (by rw [A.cn, A.pl]; simp only [h1]; exact h2), A.cn, A.pl, h1]
  by_cases e1 : c.dn.e = 0
  case neg =>
    simp [he, A.i0, A.il, A.lt, A.el]
    refine (endedR_m c).mono ?_
    rintro _ rfl
    simp [e1]
    refine vcRet_of [] ?_ rfl
    rw [bad 9 (by simp [putF, ansF, hde, e1]) (by decide)]
    simp
  by_cases e2 : c.dn.d = 0
  case neg =>
    simp [he, A.i0, A.il, A.lt, A.el]
    refine (endedR_m c).mono ?_
    rintro _ rfl
    simp [e1, e2]
    refine vcRet_of [] ?_ rfl
    rw [bad 9 (by simp [putF, ansF, hde, e1, e2]) (by decide)]
    simp
  have w1 : IntKind.i64.wrap ((fly c.dn.ps : Int) + c.dn.ar.length) = ((c.dn.n : Nat) : Int) := by rw [IntWalk.i64_in _ (by unfold Dr.n at hup; omega)]; unfold Dr.n; omega
  have w2 : IntKind.i64.wrap (((c.dn.n : Nat) : Int) + b.length) = (c.dn.n : Int) + b.length := IntWalk.i64_in _ (by omega)
  have w3 : IntKind.i64.wrap (p.delay + delay) = p.delay + delay := IntWalk.i64_in _ (by omega)
  simp [he, A.i0, A.il, A.lt, A.el]
  refine (endedR_m c).mono ?_
  rintro _ rfl
  simp [e1, e2]
  refine effCall (bytesR_m c.dn.ps A.dnF.2 (fits_fly A.dnF)) ?_
  by_cases e3 : (1048576 : Int) < c.dn.n + b.length
  · simp [w1, w2, e3]
    refine ⟨by kernel_rfl, ?_⟩
    refine vcRet_of [] ?_ rfl
    rw [bad 3 (by simp [putF, ansF, hde, e1, e2, e3]) (by decide)]
    simp
  have hcs : putS s n b delay = (⟨s.now, s.next, s.plans, s.conns.set (findE s n).1.toNat (if c.status = 1 then putC s.now (p.delay + delay) b c else c)⟩, 0) := by
    have hr : putF s.now delay b c p = (0, if c.status = 1 then putC s.now (p.delay + delay) b c else c) := by
      by_cases hs1 : c.status = 1 <;> simp [putF, ansF, hde, e1, e2, e3, hs1]
    unfold putS
    rw [changeS_ok hfe (by rw [A.cn]; exact hst) (by rw [A.cn, A.pl, hr]), A.cn, A.pl, hr]
  rw [hcs]
  simp [w1, w2, e3]
  refine ⟨by kernel_rfl, ?_⟩
  refine (copyRP_m s hf).mono ?_
  rintro _ rfl
  by_cases s1 : c.status = 1
  · by_cases b0 : 0 < b.length
    · simp [A.i0, A.il, A.lt, A.el, cn_explicit c, Prep.run, s1, b0]
      refine ⟨idx2 (by simp) (by simp), ?_⟩
      simp [A.b0, A.bl, A.blt, A.bel, w3]
      refine effCall (lastR_m c.dn A.dnF.2 s.now (p.delay + delay) (by omega)) ?_
      simp [Prep.run, hb, A.i0, A.il]
      refine ⟨by omega, by kernel_rfl, ?_⟩
      refine vcRet_of [] ?_ rfl
      simp [List.take_of_length_le, cn_explicit (putC _ _ _ _)]
      simp [putC, s1, b0, dnSend]
    · simp [A.lt, A.el, cn_explicit c, Prep.run, s1, b0]
      refine ⟨idx2 (by simp) (by simp), ?_⟩
      refine vcRet_of [] ?_ rfl
      simp [List.take_of_length_le, cn_explicit (putC _ _ _ _)]
      simp [putC, s1, b0]
  · simp [A.lt, A.el, cn_explicit c, Prep.run, s1]
    refine ⟨idx2 (by simp) (by simp), ?_⟩
    refine vcRet_of [] ?_ rfl
    simp [List.take_of_length_le]
set_option maxHeartbeats 4000000 in
theorem writeR_m (s : Nw) (hf : Fits s) (n : Int) (b : List Int) (hb : b.length < 4294967296) : Meets Try.prog 55 [s.pv, .i n, .d (bs b)] [] (Ret (.tup [(writeS s n b).1.pv, .i (writeS s n b).2.1, .i (writeS s n b).2.2])) := by
  refine meetsP [(79, [.focus 10078 9 [(6, 900000)]]), (121, [.seenN 10078 6, .close 10078, .unnest 10078])] tbOk mixed Try.func55 pl55 rfl rfl ?_
  simp [Try.ntmps55]
  refine (upR_m s hf n).mono ?_
  rintro _ rfl
  by_cases hse : (someE s n [1]).2 = 0
  case neg =>
    simp [hse]
    refine vcRet_of [] ?_ rfl
    unfold writeS
    rw [some_err hse]
    simp [hse]
  obtain ⟨hfe, hst, he⟩ := some_ok hse
  obtain ⟨c, p, A⟩ := at_of hf hfe
  rw [A.cn] at hst
  have hs1 := List.mem_singleton.1 hst
  have hn1 := A.now
  have hd1 := A.del
  have hw1 := A.win
  have hsn := A.sent
  have hup := A.upN
  have hul := A.upL
  have hfly : fly c.up.ps ≤ c.up.n := by unfold Dr.n; omega
  have bad : ∀ e, (writeF s.now b c p).1 = e → e ≠ 0 → writeS s n b = (s, 0, e) := fun e h1 h2 => by
    unfold writeS
    rw [changeS_err hfe (by rw [A.cn]; exact hst) (by rw [A.cn, A.pl]; simp only [h1]; exact h2), A.cn, A.pl]
    simp [h1, h2]
  have w0 : IntKind.i64.wrap (p.window - fly c.up.ps) = p.window - fly c.up.ps := IntWalk.i64_in _ (by omega)
  have w1 : IntKind.i64.wrap ((fly c.up.ps : Int) + c.up.ar.length) = ((c.up.n : Nat) : Int) := by rw [IntWalk.i64_in _ (by unfold Dr.n at hup; omega)]; unfold Dr.n; omega
  have hroom : roomW c p = max (p.window - fly c.up.ps) 0 := rfl
  have hmany : manyW b c p = min (roomW c p) b.length := rfl
  have hM0 : 0 ≤ manyW b c p := by rw [hmany, hroom]; omega
  have hMb : manyW b c p ≤ b.length := by rw [hmany]; omega
  have hM1 : manyW b c p ≤ 65536 := by rw [hmany, hroom]; omega
  have w2 : IntKind.i64.wrap (((c.up.n : Nat) : Int) + manyW b c p) = (c.up.n : Int) + manyW b c p := IntWalk.i64_in _ (by omega)
  have w3 : IntKind.i64.wrap (c.sent + manyW b c p) = c.sent + manyW b c p := IntWalk.i64_in _ (by omega)
  rw [he]
  simp [hfe, A.i0, A.il, A.lt, A.el, A.b0, A.bl, A.blt, A.bel]
  refine effCall (bytesR_m c.up.ps A.upF.2 (fits_fly A.upF)) ?_
  by_cases e1 : c.dn.d = 2
  · simp [w0, ← hroom, ← hmany, e1]
    refine ⟨by kernel_rfl, ?_⟩
    refine vcRet_of [] ?_ rfl
    rw [bad 120 (by simp [writeF, e1]) (by decide)]
    simp
  by_cases e2 : roomW c p = 0 ∧ 0 < b.length
  · simp [w0, ← hroom, e1, e2.1, e2.2]
    refine ⟨by kernel_rfl, ?_⟩
    refine vcRet_of [] ?_ rfl
    rw [bad 10 (by simp [writeF, e1, e2.1, e2.2]) (by decide)]
    simp
  by_cases b0 : 0 < b.length
  · have hr0 : ¬ roomW c p = 0 := fun h => e2 ⟨h, b0⟩
    have hM2 : 0 < manyW b c p := by
      have : 0 ≤ roomW c p := by rw [hroom]; omega
      rw [hmany]; omega
    have hgo : ∀ (h3 : ¬ (1048576 < c.up.n + manyW b c p)) (h4 : ¬ (1000000000000000 < c.sent + manyW b c p)), writeS s n b = (⟨s.now, s.next, s.plans, s.conns.set (findE s n).1.toNat { c with sent := c.sent + manyW b c p, up := upSend s.now b c p }⟩, manyW b c p, 0) := fun h3 h4 => by
      have hr : writeF s.now b c p = (0, manyW b c p, { c with sent := c.sent + manyW b c p, up := upSend s.now b c p }) := by
        unfold writeF
        rw [if_neg e1, if_neg e2, if_neg (by omega), if_pos b0]
      unfold writeS
      rw [changeS_ok hfe (by rw [A.cn]; exact hst) (by rw [A.cn, A.pl, hr]), A.cn, A.pl, hr]
      rfl
    have hlong : ∀ (h3 : 1048576 < c.up.n + manyW b c p ∨ 1000000000000000 < c.sent + manyW b c p), writeS s n b = (s, 0, 3) := fun h3 => bad 3 (by unfold writeF; rw [if_neg e1, if_neg e2, if_pos h3]) (by decide)
    have hups : (upSend s.now b c p).ps.length = c.up.ps.length + 1 := by simp [upSend]
    generalize hW : writeS s n b = W at hgo hlong
    simp only [upSend] at hgo
    clear hW bad
    have hbM : (manyW b c p).toNat ≤ b.length := by omega
    simp [w0, ← hroom, ← hmany, e1, b0, hr0]
    generalize manyW b c p = M at hM0 hMb hM1 w2 w3 hmany hM2 hgo hlong hbM ⊢
    clear hmany
    refine ⟨by kernel_rfl, ?_⟩
    refine effCall (bytesR_m c.up.ps A.upF.2 (fits_fly A.upF)) ?_
    by_cases e3 : 1048576 < c.up.n + M
    · simp [w1, w2, e3]
      refine ⟨by kernel_rfl, ?_⟩
      refine vcRet_of [] ?_ rfl
      rw [hlong (.inl e3)]
      simp
    by_cases e4 : 1000000000000000 < c.sent + M
    · simp [w1, w2, w3, e3, e4]
      refine ⟨by kernel_rfl, ?_⟩
      refine vcRet_of [] ?_ rfl
      rw [hlong (.inr e4)]
      simp
    rw [hgo e3 e4]
    simp [w1, w2, w3, e3, e4]
    refine ⟨by kernel_rfl, ?_⟩
    refine (copyRU_m s hf).mono ?_
    rintro _ rfl
    simp [A.i0, A.il, A.lt, A.el, cn_explicit c, Prep.run, hM2]
    refine ⟨idx2 (by simp) (by simp), ?_⟩
    simp [A.b0, A.bl, A.blt, A.bel]
    refine effCall (lastR_m c.up A.upF.2 s.now p.delay (by omega)) ?_
    have hbM2 : min M.toNat b.length = M.toNat := by omega
    have hbM3 : M.toNat < 4294967296 := by omega
    simp [Prep.run, hM0, hMb, hbM2, hbM3, w3]
    refine ⟨by omega, by kernel_rfl, ?_⟩
    refine vcRet_of [] ?_ rfl
    simp [List.take_of_length_le, cn_explicit ⟨_, _, _, _, _, _, _, _⟩]
  have b0' : b = [] := List.length_eq_zero_iff.1 (by omega)
  subst b0'
  have hm0 : manyW [] c p = 0 := by rw [hmany, hroom]; simp; omega
  rw [hm0] at hmany w2 w3
  have hgo : ∀ (h3 : ¬ (1048576 < (c.up.n : Int))) (h4 : ¬ (1000000000000000 < c.sent)), writeS s n [] = (⟨s.now, s.next, s.plans, s.conns.set (findE s n).1.toNat c⟩, 0, 0) := fun h3 h4 => by
    have hr : writeF s.now [] c p = (0, 0, c) := by
      unfold writeF
      rw [if_neg e1, if_neg e2, hm0, if_neg (by omega), if_neg (by simp)]
      simp
    unfold writeS
    rw [changeS_ok hfe (by rw [A.cn]; exact hst) (by rw [A.cn, A.pl, hr]), A.cn, A.pl, hr]
    rfl
  have hmr : min (roomW c p) 0 = 0 := by rw [hroom]; omega
  rw [Int.add_zero] at w2 w3
  simp [w0, ← hroom, e1, hmr]
  refine ⟨by kernel_rfl, ?_⟩
  refine effCall (bytesR_m c.up.ps A.upF.2 (fits_fly A.upF)) ?_
  have e3 : ¬ (1048576 < (c.up.n : Int)) := by omega
  have e4 : ¬ (1000000000000000 < c.sent) := by omega
  rw [hgo e3 e4]
  simp [w1, w2, w3, e3, e4]
  refine ⟨by kernel_rfl, ?_⟩
  refine (copyRU_m s hf).mono ?_
  rintro _ rfl
  simp [A.lt, A.el, cn_explicit c, Prep.run]
  refine ⟨idx2 (by simp) (by simp), ?_⟩
  refine vcRet_of [] ?_ rfl
  simp [List.take_of_length_le]
end Go.Proofs.Ytgoklgibhmddoaa
