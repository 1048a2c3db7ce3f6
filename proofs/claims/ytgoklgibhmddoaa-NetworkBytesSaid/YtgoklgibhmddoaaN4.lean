/- Contracts: network 4. No condition. -/
import Derived.Test.YtgoklgibhmddoaaN3
namespace Go.Proofs.Ytgoklgibhmddoaa
open Go.RowKit
set_option maxRecDepth 100000

def cnAt (s : Nw) (n : Int) : Cn := s.conns.getD (findE s n).1.toNat default
def plAt (s : Nw) (n : Int) : Pl := s.plans.getD (cnAt s n).backend.toNat default
theorem readF_err {most : Int} {c : Cn} (h : (readF most c).1 ≠ 0) : readF most c = ((readF most c).1, [], c) := by
  unfold readF at h ⊢
  by_cases h1 : most < 1
  · simp [h1]
  · by_cases h2 : 0 < c.dn.ar.length
    · simp [h1, h2] at h
    · by_cases h3 : c.dn.d = 1
      · simp [h1, h2, h3]
      · by_cases h4 : c.dn.d = 2 <;> simp [h1, h2, h3, h4]
theorem writeF_err {now : Int} {b : List Int} {c : Cn} {p : Pl} (h : (writeF now b c p).1 ≠ 0) : writeF now b c p = ((writeF now b c p).1, 0, c) := by
  unfold writeF at h ⊢
  split
  · rfl
  · split
    · rfl
    · split
      · rfl
      · rename_i h1 h2 h3; rw [if_neg h1, if_neg h2, if_neg h3] at h; exact absurd rfl h
theorem ansF_err {delay how many : Int} {G : Cn → Pl → Cn} {c : Cn} {p : Pl} (h : (ansF delay how many G c p).1 ≠ 0) : ansF delay how many G c p = ((ansF delay how many G c p).1, c) := by
  unfold ansF at h ⊢
  split
  · rfl
  · split
    · rfl
    · split
      · rfl
      · split
        · rfl
        · split
          · rename_i h1 h2 h3 h4 h5; rw [if_neg h1, if_neg h2, if_neg h3, if_neg h4, if_pos h5] at h; exact absurd rfl h
          · rfl
theorem ord_len : ∀ {l : List Pc} {b : Int}, ordTo b l = true → l.length ≤ fly l
  | [], _, _ => Nat.le_refl _
  | p :: l, b, h => by
    simp only [ordTo, Bool.and_eq_true, decide_eq_true_eq] at h
    have := ord_len h.2.2
    simp only [List.length_cons, fly]
    omega
theorem ids_formed : ∀ {l : List Cn} {b now : Int}, idsTo b now l = true → ∀ c ∈ l, cnFormed c = true
  | [], _, _, _, c, hc => by cases hc
  | d :: l, b, now, h, c, hc => by
    simp only [idsTo, Bool.and_eq_true] at h
    rcases List.mem_cons.1 hc with rfl | hc
    · exact h.2.2.1
    · exact ids_formed h.2.2.2 c hc
theorem formed_len {c : Cn} (h : cnFormed c = true) : c.up.ps.length ≤ c.up.n ∧ c.dn.ps.length ≤ c.dn.n := by
  unfold cnFormed Dr.formed at h
  simp only [Bool.and_eq_true] at h
  have h1 := ord_len h.1.1
  have h2 := ord_len h.2.1.1
  unfold Dr.n
  omega
theorem writeF_none {now : Int} {b : List Int} {c : Cn} {p : Pl} (h : b.length = 0) : (writeF now b c p).2.2.up.ps = c.up.ps := by
  unfold writeF
  split
  · rfl
  · split
    · rfl
    · split
      · rfl
      · rw [if_neg (by omega)]
theorem putF_none {now delay : Int} {b : List Int} {c : Cn} {p : Pl} (h : c.status ≠ 1 ∨ b.length = 0) : (putF now delay b c p).2.dn.ps = c.dn.ps := by
  unfold putF ansF
  split
  · rfl
  · split
    · rfl
    · split
      · rfl
      · split
        · rfl
        · split
          · rename_i h5
            rcases h with h | h
            · exact absurd h5 h
            · show (putC now (p.delay + delay) b c).dn.ps = c.dn.ps
              simp [putC, show ¬ 0 < b.length by omega]
          · rfl
theorem changeS_down {s : Nw} {n : Int} {st : List Int} {F : Cn → Pl → Int × Cn} (h1 : (findE s n).2 = 0) (h2 : (cnAt s n).status ∉ st) : changeS s n st F = (s, 9) := by
  unfold changeS
  rw [if_neg (by simp [h1])]
  exact if_pos h2
theorem changeS_err {s : Nw} {n : Int} {st : List Int} {F : Cn → Pl → Int × Cn} (h1 : (findE s n).2 = 0) (h2 : (cnAt s n).status ∈ st) (h3 : (F (cnAt s n) (plAt s n)).1 ≠ 0) : changeS s n st F = (s, (F (cnAt s n) (plAt s n)).1) := by
  unfold changeS
  rw [if_neg (by simp [h1])]
  exact (if_neg (fun h => h h2)).trans (if_pos h3)
theorem changeS_ok {s : Nw} {n : Int} {st : List Int} {F : Cn → Pl → Int × Cn} (h1 : (findE s n).2 = 0) (h2 : (cnAt s n).status ∈ st) (h3 : (F (cnAt s n) (plAt s n)).1 = 0) : changeS s n st F = (⟨s.now, s.next, s.plans, s.conns.set (findE s n).1.toNat (F (cnAt s n) (plAt s n)).2⟩, 0) := by
  unfold changeS
  rw [if_neg (by simp [h1])]
  exact (if_neg (fun h => h h2)).trans (if_neg (fun h => h h3))
set_option maxHeartbeats 4000000 in
theorem changeTake_m (s : Nw) (hf : Fits s) (n : Int) :
    Meets Try.prog 29 [s.pv, .i n, .d (.sl 1 ([1, 3].map ics)), .clo 38 [.ptr 1000000 0, .ptr 1000001 0]] [.box 31 [nilv], .box 3 [.i 0]] (fun r => r = ⟨.tup [(changeS s n [1, 3] (fun c _ => (0, takeF c))).1.pv, .i (changeS s n [1, 3] (fun c _ => (0, takeF c))).2], (if (changeS s n [1, 3] (fun c _ => (0, takeF c))).2 = 0 then [.box 31 [.d (bs (cnAt s n).up.ar)], .box 3 [.i (cnAt s n).up.d]] else [.box 31 [nilv], .box 3 [.i 0]]), []⟩) := by
  refine meetsP [(42, [.focus 10037 10 []]), (53, [.close 10037, .unnest 10037, .soft 10037 8 1])] tbOk mixed Try.func29 pl29 rfl rfl ?_
  simp [Try.ntmps29]
  refine (find_m s hf n).mono ?_
  rintro _ rfl
  by_cases hfe : (findE s n).2 = 0
  case neg =>
    have hcs : changeS s n [1, 3] (fun c _ => (0, takeF c)) = (s, (findE s n).2) := by unfold changeS; rw [if_pos hfe]
    rw [hcs]
    simp [hfe]
    refine vcRet_of [] ?_ rfl
    simp
  obtain ⟨hc, hi0, hil⟩ := find_ok hfe
  have hlt : (findE s n).1.toNat < s.conns.length := by omega
  obtain ⟨c, hcm, e⟩ := at_lt hlt
  have hg : cnAt s n = c := by unfold cnAt; rw [List.getD_eq_getElem?_getD, hcm]; rfl
  have hcr := chk_conn hc (List.mem_of_getElem? hcm)
  have hb : (0 ≤ c.backend ∧ c.backend < s.plans.length) ∧ (0 ≤ c.sent ∧ c.sent ≤ 1000000000000000) := by
    unfold cnRanges inR at hcr
    simp only [Bool.and_eq_true, decide_eq_true_eq] at hcr
    omega
  obtain ⟨hb, hsent⟩ := hb
  have hblt : c.backend.toNat < s.plans.length := by omega
  obtain ⟨p, hpm, ep⟩ := at_lt hblt
  have hpg : plAt s n = p := by unfold plAt; rw [hg, List.getD_eq_getElem?_getD, hpm]; rfl
  have hpd := chk_plan hc (List.mem_of_getElem? hpm)
  have hnow := chk_now hc
  obtain ⟨g1, g2⟩ := hf.2.2 c (List.mem_of_getElem? hcm)
  have hln := List.any_eq_false.1 (chk_zero hc).2.2.1 c (List.mem_of_getElem? hcm)
  have hln : c.up.n ≤ 1048576 ∧ c.dn.n ≤ 1048576 := by
    unfold longC at hln
    simp at hln
    omega
  have hfl := formed_len (ids_formed (chk_zero hc).2.2.2.2 c (List.mem_of_getElem? hcm))
  simp [hfe, hi0, hil, hlt, e]
  have hcon := contains_m [1, 3] (by simp) c.status
  simp only [List.map, ics] at hcon
  refine hcon.mono ?_
  rintro _ rfl
  by_cases hs : c.status ∈ [1, 3]
  case neg =>
    rw [changeS_down hfe (by rw [hg]; exact hs)]
    simp [hs]
    refine vcRet_of [] ?_ rfl
    simp
  simp [hs]
  refine (copiedD_m s hf).mono ?_
  rintro _ rfl
  simp [Prep.run, hlt, e, cn_explicit c, hblt, ep, hb.1, hb.2, hi0, hil, List.idxOf_cons]
  refine ⟨fun i hi => by have : i = 0 ∨ i = 1 := by omega
                         rcases this with rfl | rfl <;> simp, ?_⟩
  refine effCallN (take1_m _ _ _ c p) ?_
  by_cases hr : ((fun c _ => (0, takeF c)) c p).1 = 0
  case neg =>
    exact (hr rfl).elim
  · rw [changeS_ok hfe (by rw [hg]; exact hs) (by first | exact hr | rfl | (simp only [hg, hpg]; exact hr))]
    simp only [hg]
    simp [Prep.run]
    refine ⟨by kernel_rfl, ?_⟩
    refine vcRet_of [] ?_ rfl
    have t1 : (takeF c).up.ps = c.up.ps := rfl
    have t2 : (takeF c).dn = c.dn := rfl
    have t3 : (takeF c).up.ar = [] := rfl
    simp [List.take_of_length_le, cn_explicit (takeF c), t1, t2, t3]
set_option maxHeartbeats 4000000 in
theorem changeRead_m (s : Nw) (hf : Fits s) (n : Int) (most : Int) :
    Meets Try.prog 29 [s.pv, .i n, .d (.sl 1 ([1].map ics)), .clo 45 [.ptr 1000000 0, .ptr 1000001 0]] [.box 3 [.i most], .box 31 [nilv]] (fun r => r = ⟨.tup [(changeS s n [1] (fun c _ => ((readF most c).1, (readF most c).2.2))).1.pv, .i (changeS s n [1] (fun c _ => ((readF most c).1, (readF most c).2.2))).2], [.box 3 [.i most], .box 31 [if (changeS s n [1] (fun c _ => ((readF most c).1, (readF most c).2.2))).2 = 0 then .d (bs (readF most (cnAt s n)).2.1) else nilv]], []⟩) := by
  refine meetsP [(42, [.focus 10037 10 []]), (53, [.close 10037, .unnest 10037])] tbOk mixed Try.func29 pl29 rfl rfl ?_
  simp [Try.ntmps29]
  refine (find_m s hf n).mono ?_
  rintro _ rfl
  by_cases hfe : (findE s n).2 = 0
  case neg =>
    have hcs : changeS s n [1] (fun c _ => ((readF most c).1, (readF most c).2.2)) = (s, (findE s n).2) := by unfold changeS; rw [if_pos hfe]
    rw [hcs]
    simp [hfe]
    refine vcRet_of [] ?_ rfl
    simp
  obtain ⟨hc, hi0, hil⟩ := find_ok hfe
  have hlt : (findE s n).1.toNat < s.conns.length := by omega
  obtain ⟨c, hcm, e⟩ := at_lt hlt
  have hg : cnAt s n = c := by unfold cnAt; rw [List.getD_eq_getElem?_getD, hcm]; rfl
  have hcr := chk_conn hc (List.mem_of_getElem? hcm)
  have hb : (0 ≤ c.backend ∧ c.backend < s.plans.length) ∧ (0 ≤ c.sent ∧ c.sent ≤ 1000000000000000) := by
    unfold cnRanges inR at hcr
    simp only [Bool.and_eq_true, decide_eq_true_eq] at hcr
    omega
  obtain ⟨hb, hsent⟩ := hb
  have hblt : c.backend.toNat < s.plans.length := by omega
  obtain ⟨p, hpm, ep⟩ := at_lt hblt
  have hpg : plAt s n = p := by unfold plAt; rw [hg, List.getD_eq_getElem?_getD, hpm]; rfl
  have hpd := chk_plan hc (List.mem_of_getElem? hpm)
  have hnow := chk_now hc
  obtain ⟨g1, g2⟩ := hf.2.2 c (List.mem_of_getElem? hcm)
  have hln := List.any_eq_false.1 (chk_zero hc).2.2.1 c (List.mem_of_getElem? hcm)
  have hln : c.up.n ≤ 1048576 ∧ c.dn.n ≤ 1048576 := by
    unfold longC at hln
    simp at hln
    omega
  have hfl := formed_len (ids_formed (chk_zero hc).2.2.2.2 c (List.mem_of_getElem? hcm))
  simp [hfe, hi0, hil, hlt, e]
  have hcon := contains_m [1] (by simp) c.status
  simp only [List.map, ics] at hcon
  refine hcon.mono ?_
  rintro _ rfl
  by_cases hs : c.status ∈ [1]
  case neg =>
    rw [changeS_down hfe (by rw [hg]; exact hs)]
    simp [hs]
    refine vcRet_of [] ?_ rfl
    simp
  simp [hs]
  refine (copiedD_m s hf).mono ?_
  rintro _ rfl
  simp [Prep.run, hlt, e, cn_explicit c, hblt, ep, hb.1, hb.2, hi0, hil, List.idxOf_cons]
  refine ⟨fun i hi => by have : i = 0 ∨ i = 1 := by omega
                         rcases this with rfl | rfl <;> simp, ?_⟩
  refine effCallN (read1_m _ _ _ c p most (by have : fly c.dn.ps + c.dn.ar.length < 4294967296 := g2.1; omega)) ?_
  by_cases hr : ((fun c _ => ((readF most c).1, (readF most c).2.2)) c p).1 = 0
  case neg =>
    rw [changeS_err hfe (by rw [hg]; exact hs) (by simp only [hg]; exact hr)]
    simp only [hg]
    have hr : (readF most c).1 ≠ 0 := hr
    rw [readF_err hr]
    generalize (readF most c).1 = er at hr
    simp [Prep.run, hr]
    refine ⟨by kernel_rfl, ?_⟩
    refine vcRet_of [] ?_ rfl
    simp [List.take_of_length_le]
  · rw [changeS_ok hfe (by rw [hg]; exact hs) (by first | exact hr | rfl | (simp only [hg]; exact hr))]
    simp only [hg]
    have hr : (readF most c).1 = 0 := hr
    simp [Prep.run, hr]
    refine ⟨by kernel_rfl, ?_⟩
    refine vcRet_of [] ?_ rfl
    simp [List.take_of_length_le, cn_explicit ((readF most c).2.2)]
set_option maxHeartbeats 4000000 in
theorem changeWrite_m (s : Nw) (hf : Fits s) (n : Int) (b : List Int) (hbl : b.length < 4294967296) :
    Meets Try.prog 29 [s.pv, .i n, .d (.sl 1 ([1].map ics)), .clo 30 [.ptr 1000000 0, .ptr 1000001 0, .ptr 1000002 0]] [.box 31 [.d (bs b)], s.box, .box 3 [.i 0]] (fun r => r = ⟨.tup [(changeS s n [1] (fun c p => ((writeF s.now b c p).1, (writeF s.now b c p).2.2))).1.pv, .i (changeS s n [1] (fun c p => ((writeF s.now b c p).1, (writeF s.now b c p).2.2))).2], [.box 31 [.d (bs b)], s.box, .box 3 [.i (if (changeS s n [1] (fun c p => ((writeF s.now b c p).1, (writeF s.now b c p).2.2))).2 = 0 then (writeF s.now b (cnAt s n) (plAt s n)).2.1 else 0)]], []⟩) := by
  refine meetsP [(42, [.focus 10037 10 [(6, 900000)]]), (53, [.seenN 10037 6, .close 10037, .unnest 10037])] tbOk mixed Try.func29 pl29 rfl rfl ?_
  simp [Try.ntmps29]
  refine (find_m s hf n).mono ?_
  rintro _ rfl
  by_cases hfe : (findE s n).2 = 0
  case neg =>
    have hcs : changeS s n [1] (fun c p => ((writeF s.now b c p).1, (writeF s.now b c p).2.2)) = (s, (findE s n).2) := by unfold changeS; rw [if_pos hfe]
    rw [hcs]
    simp [hfe]
    refine vcRet_of [] ?_ rfl
    simp
  obtain ⟨hc, hi0, hil⟩ := find_ok hfe
  have hlt : (findE s n).1.toNat < s.conns.length := by omega
  obtain ⟨c, hcm, e⟩ := at_lt hlt
  have hg : cnAt s n = c := by unfold cnAt; rw [List.getD_eq_getElem?_getD, hcm]; rfl
  have hcr := chk_conn hc (List.mem_of_getElem? hcm)
  have hb : (0 ≤ c.backend ∧ c.backend < s.plans.length) ∧ (0 ≤ c.sent ∧ c.sent ≤ 1000000000000000) := by
    unfold cnRanges inR at hcr
    simp only [Bool.and_eq_true, decide_eq_true_eq] at hcr
    omega
  obtain ⟨hb, hsent⟩ := hb
  have hblt : c.backend.toNat < s.plans.length := by omega
  obtain ⟨p, hpm, ep⟩ := at_lt hblt
  have hpg : plAt s n = p := by unfold plAt; rw [hg, List.getD_eq_getElem?_getD, hpm]; rfl
  have hpd := chk_plan hc (List.mem_of_getElem? hpm)
  have hnow := chk_now hc
  obtain ⟨g1, g2⟩ := hf.2.2 c (List.mem_of_getElem? hcm)
  have hln := List.any_eq_false.1 (chk_zero hc).2.2.1 c (List.mem_of_getElem? hcm)
  have hln : c.up.n ≤ 1048576 ∧ c.dn.n ≤ 1048576 := by
    unfold longC at hln
    simp at hln
    omega
  have hfl := formed_len (ids_formed (chk_zero hc).2.2.2.2 c (List.mem_of_getElem? hcm))
  simp [hfe, hi0, hil, hlt, e]
  have hcon := contains_m [1] (by simp) c.status
  simp only [List.map, ics] at hcon
  refine hcon.mono ?_
  rintro _ rfl
  by_cases hs : c.status ∈ [1]
  case neg =>
    rw [changeS_down hfe (by rw [hg]; exact hs)]
    simp [hs]
    refine vcRet_of [] ?_ rfl
    simp
  simp [hs]
  refine (copiedU_m s hf).mono ?_
  rintro _ rfl
  simp [Prep.run, hlt, e, cn_explicit c, hblt, ep, hb.1, hb.2, hi0, hil, List.idxOf_cons]
  refine ⟨fun i hi => by have : i = 0 ∨ i = 1 := by omega
                         rcases this with rfl | rfl <;> simp, ?_⟩
  refine effCallN (write1_m _ _ _ c p s b hbl g1 (by omega) hpd.2.2 hsent (by omega)) ?_
  by_cases hr : ((fun c p => ((writeF s.now b c p).1, (writeF s.now b c p).2.2)) c p).1 = 0
  case neg =>
    rw [changeS_err hfe (by rw [hg]; exact hs) (by simp only [hg, hpg]; exact hr)]
    simp only [hg, hpg]
    have hr : (writeF s.now b c p).1 ≠ 0 := hr
    rw [writeF_err hr]
    generalize (writeF s.now b c p).1 = er at hr
    simp [Prep.run, hr]
    refine ⟨by kernel_rfl, ?_⟩
    refine vcRet_of [] ?_ rfl
    simp [List.take_of_length_le]
  · rw [changeS_ok hfe (by rw [hg]; exact hs) (by first | exact hr | rfl | (simp only [hg, hpg]; exact hr))]
    simp only [hg, hpg]
    have hr : (writeF s.now b c p).1 = 0 := hr
    by_cases hb0 : 0 < b.length
    · simp [Prep.run, hr, hb0]
      refine ⟨by kernel_rfl, ?_⟩
      refine vcRet_of [] ?_ rfl
      simp [List.take_of_length_le, cn_explicit ((writeF s.now b c p).2.2)]
    · have hps := writeF_none (now := s.now) (c := c) (p := p) (show b.length = 0 by omega)
      simp [Prep.run, hr, hb0, hps]
      refine ⟨by kernel_rfl, ?_⟩
      refine vcRet_of [] ?_ rfl
      simp [List.take_of_length_le, cn_explicit ((writeF s.now b c p).2.2), hps]
set_option maxHeartbeats 4000000 in
theorem changePut_m (s : Nw) (hf : Fits s) (n : Int) (b : List Int) (hbl : b.length < 4294967296) (delay : Int) :
    Meets Try.prog 29 [s.pv, .i n, .d (.sl 1 ([1, 3].map ics)), .clo 76 [.ptr 1000000 0, .ptr 1000001 0, .ptr 1000002 0, .ptr 1000003 0]] [.box 2 [.i delay], .box 28 [.i 0], .box 3 [.i b.length], .box 98 [.clo 42 [.ptr 1000004 0, .ptr 1000005 0]], s.box, .box 31 [.d (bs b)]] (fun r => r = ⟨.tup [(changeS s n [1, 3] (fun c p => putF s.now delay b c p)).1.pv, .i (changeS s n [1, 3] (fun c p => putF s.now delay b c p)).2], [.box 2 [.i delay], .box 28 [.i 0], .box 3 [.i b.length], .box 98 [.clo 42 [.ptr 1000004 0, .ptr 1000005 0]], s.box, .box 31 [.d (bs b)]], []⟩) := by
  refine meetsP [(42, [.focus 10037 10 [(7, 900000)]]), (53, [.seenN 10037 7, .close 10037, .unnest 10037])] tbOk mixed Try.func29 pl29 rfl rfl ?_
  simp [Try.ntmps29]
  refine (find_m s hf n).mono ?_
  rintro _ rfl
  by_cases hfe : (findE s n).2 = 0
  case neg =>
    have hcs : changeS s n [1, 3] (fun c p => putF s.now delay b c p) = (s, (findE s n).2) := by unfold changeS; rw [if_pos hfe]
    rw [hcs]
    simp [hfe]
    refine vcRet_of [] ?_ rfl
    simp
  obtain ⟨hc, hi0, hil⟩ := find_ok hfe
  have hlt : (findE s n).1.toNat < s.conns.length := by omega
  obtain ⟨c, hcm, e⟩ := at_lt hlt
  have hg : cnAt s n = c := by unfold cnAt; rw [List.getD_eq_getElem?_getD, hcm]; rfl
  have hcr := chk_conn hc (List.mem_of_getElem? hcm)
  have hb : (0 ≤ c.backend ∧ c.backend < s.plans.length) ∧ (0 ≤ c.sent ∧ c.sent ≤ 1000000000000000) := by
    unfold cnRanges inR at hcr
    simp only [Bool.and_eq_true, decide_eq_true_eq] at hcr
    omega
  obtain ⟨hb, hsent⟩ := hb
  have hblt : c.backend.toNat < s.plans.length := by omega
  obtain ⟨p, hpm, ep⟩ := at_lt hblt
  have hpg : plAt s n = p := by unfold plAt; rw [hg, List.getD_eq_getElem?_getD, hpm]; rfl
  have hpd := chk_plan hc (List.mem_of_getElem? hpm)
  have hnow := chk_now hc
  obtain ⟨g1, g2⟩ := hf.2.2 c (List.mem_of_getElem? hcm)
  have hln := List.any_eq_false.1 (chk_zero hc).2.2.1 c (List.mem_of_getElem? hcm)
  have hln : c.up.n ≤ 1048576 ∧ c.dn.n ≤ 1048576 := by
    unfold longC at hln
    simp at hln
    omega
  have hfl := formed_len (ids_formed (chk_zero hc).2.2.2.2 c (List.mem_of_getElem? hcm))
  simp [hfe, hi0, hil, hlt, e]
  have hcon := contains_m [1, 3] (by simp) c.status
  simp only [List.map, ics] at hcon
  refine hcon.mono ?_
  rintro _ rfl
  by_cases hs : c.status ∈ [1, 3]
  case neg =>
    rw [changeS_down hfe (by rw [hg]; exact hs)]
    simp [hs]
    refine vcRet_of [] ?_ rfl
    simp
  simp [hs]
  refine (copiedP_m s hf).mono ?_
  rintro _ rfl
  simp [Prep.run, hlt, e, cn_explicit c, hblt, ep, hb.1, hb.2, hi0, hil, List.idxOf_cons]
  refine ⟨fun i hi => by have : i = 0 ∨ i = 1 := by omega
                         rcases this with rfl | rfl <;> simp, ?_⟩
  refine effCallN (ansPut_m _ _ _ c p s b delay hbl g2 (by omega) ⟨hpd.1, hpd.2.1⟩ ⟨hnow.1, hnow.2.1⟩) ?_
  by_cases hr : ((fun c p => putF s.now delay b c p) c p).1 = 0
  case neg =>
    rw [changeS_err hfe (by rw [hg]; exact hs) (by simp only [hg, hpg]; exact hr)]
    simp only [hg, hpg]
    have hr : (putF s.now delay b c p).1 ≠ 0 := hr
    have he : putF s.now delay b c p = ((putF s.now delay b c p).1, c) := ansF_err hr
    rw [he]
    generalize (putF s.now delay b c p).1 = er at hr
    simp [Prep.run, hr]
    refine ⟨by kernel_rfl, ?_⟩
    refine vcRet_of [] ?_ rfl
    simp [List.take_of_length_le]
  · rw [changeS_ok hfe (by rw [hg]; exact hs) (by first | exact hr | rfl | (simp only [hg, hpg]; exact hr))]
    simp only [hg, hpg]
    have hr : (putF s.now delay b c p).1 = 0 := hr
    by_cases hb0 : c.status = 1 ∧ 0 < b.length
    · have hb1 := hb0.1
      have hb2 := hb0.2
      simp [Prep.run, hr, hb1, hb2]
      refine ⟨by kernel_rfl, ?_⟩
      refine vcRet_of [] ?_ rfl
      simp [List.take_of_length_le, cn_explicit ((putF s.now delay b c p).2)]
    · have hps := putF_none (now := s.now) (delay := delay) (b := b) (c := c) (p := p) (by omega)
      simp [Prep.run, hr, hb0, hps]
      refine ⟨by kernel_rfl, ?_⟩
      refine vcRet_of [] ?_ rfl
      simp [List.take_of_length_le, cn_explicit ((putF s.now delay b c p).2), hps]
set_option maxHeartbeats 4000000 in
theorem changeFin_m (s : Nw) (hf : Fits s) (n : Int) (delay how er0 : Int) (he0 : er0 = if how ≠ 1 ∧ how ≠ 2 then 2 else 0) :
    Meets Try.prog 29 [s.pv, .i n, .d (.sl 1 ([1, 3].map ics)), .clo 76 [.ptr 1000000 0, .ptr 1000001 0, .ptr 1000002 0, .ptr 1000003 0]] [.box 2 [.i delay], .box 28 [.i er0], .box 3 [.i 0], .box 98 [.clo 44 [.ptr 1000004 0, .ptr 1000005 0]], .box 3 [.i how], s.box] (fun r => r = ⟨.tup [(changeS s n [1, 3] (fun c p => finF s.now delay how c p)).1.pv, .i (changeS s n [1, 3] (fun c p => finF s.now delay how c p)).2], [.box 2 [.i delay], .box 28 [.i er0], .box 3 [.i 0], .box 98 [.clo 44 [.ptr 1000004 0, .ptr 1000005 0]], .box 3 [.i how], s.box], []⟩) := by
  refine meetsP [(42, [.focus 10037 10 []]), (53, [.close 10037, .unnest 10037])] tbOk mixed Try.func29 pl29 rfl rfl ?_
  simp [Try.ntmps29]
  refine (find_m s hf n).mono ?_
  rintro _ rfl
  by_cases hfe : (findE s n).2 = 0
  case neg =>
    have hcs : changeS s n [1, 3] (fun c p => finF s.now delay how c p) = (s, (findE s n).2) := by unfold changeS; rw [if_pos hfe]
    rw [hcs]
    simp [hfe]
    refine vcRet_of [] ?_ rfl
    simp
  obtain ⟨hc, hi0, hil⟩ := find_ok hfe
  have hlt : (findE s n).1.toNat < s.conns.length := by omega
  obtain ⟨c, hcm, e⟩ := at_lt hlt
  have hg : cnAt s n = c := by unfold cnAt; rw [List.getD_eq_getElem?_getD, hcm]; rfl
  have hcr := chk_conn hc (List.mem_of_getElem? hcm)
  have hb : (0 ≤ c.backend ∧ c.backend < s.plans.length) ∧ (0 ≤ c.sent ∧ c.sent ≤ 1000000000000000) := by
    unfold cnRanges inR at hcr
    simp only [Bool.and_eq_true, decide_eq_true_eq] at hcr
    omega
  obtain ⟨hb, hsent⟩ := hb
  have hblt : c.backend.toNat < s.plans.length := by omega
  obtain ⟨p, hpm, ep⟩ := at_lt hblt
  have hpg : plAt s n = p := by unfold plAt; rw [hg, List.getD_eq_getElem?_getD, hpm]; rfl
  have hpd := chk_plan hc (List.mem_of_getElem? hpm)
  have hnow := chk_now hc
  obtain ⟨g1, g2⟩ := hf.2.2 c (List.mem_of_getElem? hcm)
  have hln := List.any_eq_false.1 (chk_zero hc).2.2.1 c (List.mem_of_getElem? hcm)
  have hln : c.up.n ≤ 1048576 ∧ c.dn.n ≤ 1048576 := by
    unfold longC at hln
    simp at hln
    omega
  have hfl := formed_len (ids_formed (chk_zero hc).2.2.2.2 c (List.mem_of_getElem? hcm))
  simp [hfe, hi0, hil, hlt, e]
  have hcon := contains_m [1, 3] (by simp) c.status
  simp only [List.map, ics] at hcon
  refine hcon.mono ?_
  rintro _ rfl
  by_cases hs : c.status ∈ [1, 3]
  case neg =>
    rw [changeS_down hfe (by rw [hg]; exact hs)]
    simp [hs]
    refine vcRet_of [] ?_ rfl
    simp
  simp [hs]
  refine (copiedD_m s hf).mono ?_
  rintro _ rfl
  simp [Prep.run, hlt, e, cn_explicit c, hblt, ep, hb.1, hb.2, hi0, hil, List.idxOf_cons]
  refine ⟨fun i hi => by have : i = 0 ∨ i = 1 := by omega
                         rcases this with rfl | rfl <;> simp, ?_⟩
  refine effCallN (ansFin_m _ _ _ c p s delay how er0 he0 g2 ⟨hpd.1, hpd.2.1⟩ ⟨hnow.1, hnow.2.1⟩) ?_
  by_cases hr : ((fun c p => finF s.now delay how c p) c p).1 = 0
  case neg =>
    rw [changeS_err hfe (by rw [hg]; exact hs) (by simp only [hg, hpg]; exact hr)]
    simp only [hg, hpg]
    have hr : (finF s.now delay how c p).1 ≠ 0 := hr
    have he : finF s.now delay how c p = ((finF s.now delay how c p).1, c) := ansF_err hr
    rw [he]
    generalize (finF s.now delay how c p).1 = er at hr
    simp [Prep.run, hr]
    refine ⟨by kernel_rfl, ?_⟩
    refine vcRet_of [] ?_ rfl
    simp [List.take_of_length_le]
  · rw [changeS_ok hfe (by rw [hg]; exact hs) (by first | exact hr | rfl | (simp only [hg, hpg]; exact hr))]
    simp only [hg, hpg]
    have hr : (finF s.now delay how c p).1 = 0 := hr
    simp [Prep.run, hr]
    refine ⟨by kernel_rfl, ?_⟩
    refine vcRet_of [] ?_ rfl
    simp [List.take_of_length_le, cn_explicit ((finF s.now delay how c p).2)]
end Go.Proofs.Ytgoklgibhmddoaa
namespace Go.Proofs.Ytgoklgibhmddoaa
open Go.RowKit
set_option maxRecDepth 100000

def closeS (s : Nw) (n : Int) : Nw × Int := changeS s n [0, 1] fun c p => (0, closeF s.now p c)
theorem Close_m (s : Nw) (hf : Fits s) (n : Int) : Meets Try.prog 12 [s.pv, .i n] [] (Ret (.tup [(closeS s n).1.pv, .i (closeS s n).2])) := by
  refine meetsH [] tbOk mixed Try.func12 pl12 rfl rfl ?_
  simp [Try.ntmps12]
  refine (changeClose_m s hf n).mono ?_
  rintro _ rfl
  simp
  refine vcRet_of [] ?_ rfl
  simp [closeS]
def writeS (s : Nw) (n : Int) (b : List Int) : Nw × Int × Int :=
  let r := changeS s n [1] fun c p => ((writeF s.now b c p).1, (writeF s.now b c p).2.2)
  (r.1, if r.2 = 0 then (writeF s.now b (cnAt s n) (plAt s n)).2.1 else 0, r.2)
theorem Write_m (s : Nw) (hf : Fits s) (n : Int) (b : List Int) (hb : b.length < 4294967296) : Meets Try.prog 9 [s.pv, .i n, .d (bs b)] [] (Ret (.tup [(writeS s n b).1.pv, .i (writeS s n b).2.1, .i (writeS s n b).2.2])) := by
  refine meetsH [] tbOk mixed Try.func9 pl9 rfl rfl ?_
  simp [Try.ntmps9]
  refine (changeWrite_m s hf n b hb).mono ?_
  rintro _ rfl
  simp
  refine ⟨by kernel_rfl, ?_⟩
  refine vcRet_of [] ?_ rfl
  simp [writeS]
def readS (s : Nw) (n most : Int) : Nw × List Int × Int :=
  let r := changeS s n [1] fun c _ => ((readF most c).1, (readF most c).2.2)
  (r.1, if r.2 = 0 then (readF most (cnAt s n)).2.1 else [], r.2)
theorem Read_m (s : Nw) (hf : Fits s) (n most : Int) : Meets Try.prog 16 [s.pv, .i n, .i most] [] (Ret (.tup [(readS s n most).1.pv, .d (bs (readS s n most).2.1), .i (readS s n most).2.2])) := by
  refine meetsH [] tbOk mixed Try.func16 pl16 rfl rfl ?_
  simp [Try.ntmps16]
  refine (changeRead_m s hf n most).mono ?_
  rintro _ rfl
  by_cases h : (changeS s n [1] fun c _ => ((readF most c).1, (readF most c).2.2)).2 = 0
  · simp [h]
    refine ⟨by kernel_rfl, ?_⟩
    refine vcRet_of [] ?_ rfl
    simp [readS, h]
  · simp [h]
    refine ⟨by kernel_rfl, ?_⟩
    refine vcRet_of [] ?_ rfl
    simp [readS, h]
def takeS (s : Nw) (n : Int) : Nw × List Int × Int × Int :=
  let r := changeS s n [1, 3] fun c _ => (0, takeF c)
  (r.1, if r.2 = 0 then (cnAt s n).up.ar else [], if r.2 = 0 then (cnAt s n).up.d else 0, r.2)
theorem Take_m (s : Nw) (hf : Fits s) (n : Int) : Meets Try.prog 11 [s.pv, .i n] [] (Ret (.tup [(takeS s n).1.pv, .d (bs (takeS s n).2.1), .i (takeS s n).2.2.1, .i (takeS s n).2.2.2])) := by
  refine meetsH [] tbOk mixed Try.func11 pl11 rfl rfl ?_
  simp [Try.ntmps11]
  refine (changeTake_m s hf n).mono ?_
  rintro _ rfl
  by_cases h : (changeS s n [1, 3] fun c _ => (0, takeF c)).2 = 0
  · simp [h]
    refine ⟨by kernel_rfl, ?_⟩
    refine vcRet_of [] ?_ rfl
    simp [takeS, h]
  · simp [h]
    refine ⟨by kernel_rfl, ?_⟩
    refine vcRet_of [] ?_ rfl
    simp [takeS, h]
def putS (s : Nw) (n : Int) (b : List Int) (delay : Int) : Nw × Int := changeS s n [1, 3] fun c p => putF s.now delay b c p
def finS (s : Nw) (n how delay : Int) : Nw × Int := changeS s n [1, 3] fun c p => finF s.now delay how c p
theorem ansP_m (s : Nw) (hf : Fits s) (n : Int) (b : List Int) (hb : b.length < 4294967296) (delay : Int) :
    Meets Try.prog 41 [s.pv, .i n, .i delay, .i 0, .i b.length, .clo 42 [.ptr 1000000 0, .ptr 1000001 0]] [s.box, .box 31 [.d (bs b)]] (fun r => r = ⟨.tup [(putS s n b delay).1.pv, .i (putS s n b delay).2], [s.box, .box 31 [.d (bs b)]], []⟩) := by
  refine meetsH [] tbOk mixed Try.func41 pl41 rfl rfl ?_
  simp [Try.ntmps41]
  refine (changePut_m s hf n b hb delay).mono ?_
  rintro _ rfl
  simp
  refine vcRet_of [] ?_ rfl
  simp [putS]
theorem ansQ_m (s : Nw) (hf : Fits s) (n delay how er0 : Int) (he0 : er0 = if how ≠ 1 ∧ how ≠ 2 then 2 else 0) :
    Meets Try.prog 41 [s.pv, .i n, .i delay, .i er0, .i 0, .clo 44 [.ptr 1000000 0, .ptr 1000001 0]] [.box 3 [.i how], s.box] (fun r => r = ⟨.tup [(finS s n how delay).1.pv, .i (finS s n how delay).2], [.box 3 [.i how], s.box], []⟩) := by
  refine meetsH [] tbOk mixed Try.func41 pl41 rfl rfl ?_
  simp [Try.ntmps41]
  refine (changeFin_m s hf n delay how er0 he0).mono ?_
  rintro _ rfl
  simp
  refine vcRet_of [] ?_ rfl
  simp [finS]
theorem Put_m (s : Nw) (hf : Fits s) (n : Int) (b : List Int) (hb : b.length < 4294967296) (delay : Int) : Meets Try.prog 13 [s.pv, .i n, .d (bs b), .i delay] [] (Ret (.tup [(putS s n b delay).1.pv, .i (putS s n b delay).2])) := by
  refine meetsH [] tbOk mixed Try.func13 pl13 rfl rfl ?_
  simp [Try.ntmps13]
  refine (ansP_m s hf n b hb delay).mono ?_
  rintro _ rfl
  simp
  refine vcRet_of [] ?_ rfl
  simp
theorem Finish_m (s : Nw) (hf : Fits s) (n how delay : Int) : Meets Try.prog 15 [s.pv, .i n, .i how, .i delay] [] (Ret (.tup [(finS s n how delay).1.pv, .i (finS s n how delay).2])) := by
  refine meetsH [] tbOk mixed Try.func15 pl15 rfl rfl ?_
  by_cases h1 : how = 1
  · simp [Try.ntmps15, h1]
    refine (ansQ_m s hf n delay 1 0 (by simp)).mono ?_
    rintro _ rfl
    simp
    refine vcRet_of [] ?_ rfl
    simp
  by_cases h2 : how = 2
  · simp [Try.ntmps15, h2]
    refine (ansQ_m s hf n delay 2 0 (by simp)).mono ?_
    rintro _ rfl
    simp
    refine vcRet_of [] ?_ rfl
    simp
  simp [Try.ntmps15, h1, h2]
  refine (ansQ_m s hf n delay how 2 (by simp [h1, h2])).mono ?_
  rintro _ rfl
  simp
  refine vcRet_of [] ?_ rfl
  simp
end Go.Proofs.Ytgoklgibhmddoaa
namespace Go.Proofs.Ytgoklgibhmddoaa
open Go.RowKit
set_option maxRecDepth 100000

theorem idx2 {P : Nat → Prop} (h0 : P 0) (h1 : P 1) : ∀ i, i < 2 → P i
  | 0, _ => h0
  | 1, _ => h1
theorem idx4 {P : Nat → Prop} (h0 : P 0) (h1 : P 1) (h2 : P 2) (h3 : P 3) : ∀ i, i < 4 → P i
  | 0, _ => h0
  | 1, _ => h1
  | 2, _ => h2
  | 3, _ => h3
def newS (l : List Pl) : Nw × Int := if 16 < l.length then (noNw, 3) else if l.all plOk then (⟨0, 1, l, []⟩, 0) else (noNw, 7)
@[simp] def nilv' : D := .v (.slice none 0 0)
theorem New_m (l : List Pl) (hl : l.length < 4294967296) : Meets Try.prog 19 [.d (pls l)] [] (Ret (.tup [(newS l).1.pv, .i (newS l).2])) := by
  refine meetsH [] tbOk mixed Try.func19 pl19 rfl rfl ?_
  by_cases h16 : (16 : Int) < l.length
  · simp [Try.ntmps19, h16]
    refine vcRet_of [] ?_ rfl
    simp [newS, noNw, show 16 < l.length by omega]
  simp [Try.ntmps19, h16]
  refine (anyBad_m l hl).mono ?_
  rintro _ rfl
  cases ha : l.all plOk
  · simp
    refine vcRet_of [] ?_ rfl
    simp [newS, noNw, show ¬ 16 < l.length by omega, ha]
  simp
  refine (clonePl_m l hl).mono ?_
  rintro _ rfl
  simp
  refine vcRet_prep [.seen 2 2] [] (by simp [Prep.all, Prep.run]; rfl) ?_ rfl
  simp [newS, show ¬ 16 < l.length by omega, ha, List.take_of_length_le]
def planS (s : Nw) (b : Int) (p : Pl) : Nw × Int := if knownE s b ≠ 0 then (s, knownE s b) else if plOk p then ({ s with plans := s.plans.set b.toNat p }, 0) else (s, 7)
theorem known_ok {s : Nw} {b : Int} (h : knownE s b = 0) : chk s = 0 ∧ 0 ≤ b ∧ b < s.plans.length := by
  unfold knownE at h
  split at h
  · contradiction
  · split at h
    · cases h
    · rename_i h1 h2; exact ⟨by simpa using h1, by omega, by omega⟩
theorem Plan_m (s : Nw) (hf : Fits s) (b : Int) (p : Pl) : Meets Try.prog 62 [s.pv, .i b, p.pv] [] (Ret (.tup [(planS s b p).1.pv, .i (planS s b p).2])) := by
  refine meetsH [] tbOk mixed Try.func62 pl62 rfl rfl ?_
  simp [Try.ntmps62]
  refine (known_m s hf b).mono ?_
  rintro _ rfl
  by_cases hk : knownE s b = 0
  case neg =>
    simp [hk]
    refine vcRet_of [] ?_ rfl
    simp [planS, hk]
  obtain ⟨hc, hb0, hbl⟩ := known_ok hk
  simp [hk]
  refine (bad_m p).mono ?_
  rintro _ rfl
  cases hp : plOk p
  · simp
    refine vcRet_of [] ?_ rfl
    simp [planS, hk, hp]
  simp
  refine (copiedD_m s hf).mono ?_
  rintro _ rfl
  simp [hb0, hbl]
  refine ⟨idx2 (by simp) (by simp), ?_⟩
  refine vcRet_prep [.unnest 10021, .seen 6 2, .seen 6 3] [] (by simp [Prep.all, Prep.run]; rfl) ?_ rfl
  simp [planS, hk, hp, List.take_of_length_le, List.map_set]
theorem Find_m (s : Nw) (hf : Fits s) (n : Int) : Meets Try.prog 27 [s.pv, .i n] [] (Ret (.tup [if (findE s n).2 = 0 then .agg ((cnAt s n).ds.map .d) else .agg ((Cn.ds default).map .d), .i (findE s n).2])) := by
  refine meetsH [] tbOk mixed Try.func27 pl27 rfl rfl ?_
  simp [Try.ntmps27]
  refine (find_m s hf n).mono ?_
  rintro _ rfl
  by_cases hfe : (findE s n).2 = 0
  case neg =>
    simp [hfe]
    refine vcRet_of [] ?_ rfl
    simp
    exact ⟨rfl, rfl, rfl, rfl, rfl, rfl, rfl, rfl, rfl, rfl, rfl, rfl, rfl, rfl, rfl, rfl⟩
  obtain ⟨hc, hi0, hil⟩ := find_ok hfe
  have hlt : (findE s n).1.toNat < s.conns.length := by omega
  obtain ⟨c, hcm, e⟩ := at_lt hlt
  have hg : cnAt s n = c := by unfold cnAt; rw [List.getD_eq_getElem?_getD, hcm]; rfl
  obtain ⟨g1, g2⟩ := hf.2.2 c (List.mem_of_getElem? hcm)
  simp [hfe, hi0, hil, hlt, e]
  refine (clone_m c g1 g2).mono ?_
  rintro _ rfl
  simp
  refine ⟨idx4 (by simp) (by simp) (by simp) (by simp), ?_⟩
  refine vcRet_prep [.seen 4 6, .seen 4 7, .seen 4 8, .seen 4 9] [] (by simp [Prep.all, Prep.run]; rfl) ?_ rfl
  simp [hg, List.take_of_length_le]
end Go.Proofs.Ytgoklgibhmddoaa
namespace Go.Proofs.Ytgoklgibhmddoaa
open Go.RowKit
set_option maxRecDepth 100000

def cnt (b st : Int) (l : List Cn) : Nat := l.countP fun c => decide (c.backend = b) && decide (c.status = st)
theorem cnt_take (b st : Int) {l : List Cn} {k : Nat} {c : Cn} (h : l[k]? = some c) : cnt b st (l.take (k + 1)) = cnt b st (l.take k) + (if c.backend = b ∧ c.status = st then 1 else 0) := by
  unfold cnt
  rw [List.take_add_one, h, List.countP_append]
  simp [List.countP_cons]
theorem cnt_le (b st : Int) (l : List Cn) : cnt b st l ≤ l.length := List.countP_le_length
theorem Count_m (s : Nw) (hf : Fits s) (b : Int) : Meets Try.prog 28 [s.pv, .i b] [] (Ret (.tup [if knownE s b = 0 then .agg [.i (cnt b 0 s.conns), .i (cnt b 1 s.conns), .i (cnt b 2 s.conns), .i (cnt b 3 s.conns)] else .agg [.i 0, .i 0, .i 0, .i 0], .i (knownE s b)])) := by
  have hf0 := hf
  obtain ⟨f1, f2, f3⟩ := hf
  refine meetsH [] tbOk mixed Try.func28 pl28 rfl rfl ?_
  simp [Try.ntmps28]
  refine (known_m s hf0 b).mono ?_
  rintro _ rfl
  by_cases hk : knownE s b = 0
  case neg =>
    simp [hk]
    refine vcRet_of [] ?_ rfl
    simp
  obtain ⟨hc, hb0, hbl⟩ := known_ok hk
  simp [hk]
  refine vc_loop (fun m σ => ∃ k : Nat, m = s.conns.length - k ∧ k ≤ s.conns.length ∧ σ = ⟨43, [(19, .i k), (18, .i s.conns.length), (17, .d (cns s.conns)), (1, .i b), (4, .ptr 4 0), (2, .ptr 2 0), (7, .ptr 7 0)],
    [(7, .box 116 [.i (cnt b 0 (s.conns.take k)), .i (cnt b 1 (s.conns.take k)), .i (cnt b 2 (s.conns.take k)), .i (cnt b 3 (s.conns.take k))]), (4, .box 75 [.i 0, .i 0, .i 0, .i 0]), (2, s.box)]⟩) ?_ ?_
  · exact ⟨_, _, ⟨0, rfl, Nat.zero_le _, rfl⟩, [], _, rfl, by simp [cnt]⟩
  rintro m σ ⟨k, rfl, hkl, rfl⟩
  by_cases hlt : k < s.conns.length
  · obtain ⟨c, hcm, e⟩ := at_lt hlt
    have hcr := chk_conn hc (List.mem_of_getElem? hcm)
    have hst : 0 ≤ c.status ∧ c.status ≤ 3 := by
      unfold cnRanges inR at hcr
      simp only [Bool.and_eq_true, decide_eq_true_eq] at hcr
      omega
    have w : ∀ st : Int, IntKind.i64.wrap ((cnt b st (s.conns.take k) : Int) + 1) = (cnt b st (s.conns.take k) : Int) + 1 := fun st => by
      have := cnt_le b st (s.conns.take k)
      have h2 : (s.conns.take k).length ≤ k := by simp; omega
      exact IntWalk.i64_in _ (by omega)
    by_cases hb : c.backend = b
    · have h4 : c.status = 0 ∨ c.status = 1 ∨ c.status = 2 ∨ c.status = 3 := by omega
      rcases h4 with h | h | h | h
      all_goals
        simp [hlt, e, hb, h, w, wrap_succ hlt f2, cn_explicit c]
        exact ⟨_, by omega, _, ⟨k + 1, rfl, hlt, rfl⟩, [], _, rfl, by simp [cnt_take _ _ hcm, hb, h]⟩
    · simp [hlt, e, hb, wrap_succ hlt f2, cn_explicit c]
      exact ⟨_, by omega, _, ⟨k + 1, rfl, hlt, rfl⟩, [], _, rfl, by simp [cnt_take _ _ hcm, hb]⟩
  obtain rfl : k = s.conns.length := by omega
  simp
  refine vcRet_of [] ?_ rfl
  simp
def newC (s : Nw) (b : Int) (p : Pl) : Cn := ⟨s.next, b, 0, s.now, if p.fail = 2 then 1000000000001 else min (s.now + p.delay) 1000000000000, 0, ⟨[], [], 0, 0, 0⟩, ⟨[], [], 0, 0, 0⟩⟩
def dialS (s : Nw) (b : Int) : Nw × Int × Int :=
  if knownE s b ≠ 0 then (s, 0, knownE s b) else if s.conns.length = 500 ∨ s.next = 1000000000000000 then (s, 0, 5)
  else (⟨s.now, s.next + 1, s.plans, s.conns ++ [newC s b (s.plans.getD b.toNat default)]⟩, s.next, 0)
set_option maxHeartbeats 4000000 in
theorem Dial_m (s : Nw) (hf : Fits s) (b : Int) : Meets Try.prog 14 [s.pv, .i b] [] (Ret (.tup [(dialS s b).1.pv, .i (dialS s b).2.1, .i (dialS s b).2.2])) := by
  refine meetsP [(51, [.unnest 10050]), (61, [.soft 10050 6 2, .soft 10050 7 2, .soft 10050 8 1, .soft 10050 9 1, .seen 2 2, .seen 2 3])] tbOk mixed Try.func14 pl14 rfl rfl ?_
  simp [Try.ntmps14]
  refine (known_m s hf b).mono ?_
  rintro _ rfl
  by_cases hk : knownE s b = 0
  case neg =>
    simp [hk]
    refine vcRet_of [] ?_ rfl
    simp [dialS, hk]
  obtain ⟨hc, hb0, hbl⟩ := known_ok hk
  have hnow := chk_now hc
  have hfull := chk_zero hc
  by_cases h1 : (s.conns.length : Int) = 500
  · simp [hk, h1]
    refine vcRet_of [] ?_ rfl
    simp [dialS, hk, show s.conns.length = 500 by omega]
  by_cases h2 : s.next = 1000000000000000
  · simp [hk, h1, h2]
    refine vcRet_of [] ?_ rfl
    simp [dialS, hk, h2]
  have hblt : b.toNat < s.plans.length := by omega
  obtain ⟨p, hpm, ep⟩ := at_lt hblt
  have hpd := chk_plan hc (List.mem_of_getElem? hpm)
  have hpg : s.plans.getD b.toNat default = p := by rw [List.getD_eq_getElem?_getD, hpm]; rfl
  have w1 : IntKind.i64.wrap (s.now + p.delay) = s.now + p.delay := IntWalk.i64_in _ (by omega)
  have w2 : IntKind.i64.wrap (s.next + 1) = s.next + 1 := IntWalk.i64_in _ (by omega)
  have hdS : dialS s b = (⟨s.now, s.next + 1, s.plans, s.conns ++ [newC s b p]⟩, s.next, 0) := by
    unfold dialS
    rw [if_neg (by simp [hk]), if_neg (by omega), hpg]
  rw [hdS]
  by_cases h3 : p.fail = 2
  · simp [hk, h1, h2, hb0, hbl, hblt, ep, w1, h3]
    refine (copiedD_m s hf).mono ?_
    rintro _ rfl
    simp [Prep.run, w2]
    refine ⟨idx2 (by simp) (by simp), by omega, ?_⟩
    refine ⟨by kernel_rfl, ?_⟩
    refine vcRet_of [] ?_ rfl
    simp [newC, h3, cn_explicit, List.take_of_length_le]
  · simp [hk, h1, h2, hb0, hbl, hblt, ep, w1, h3]
    refine (copiedD_m s hf).mono ?_
    rintro _ rfl
    simp [Prep.run, w2]
    refine ⟨idx2 (by simp) (by simp), by omega, ?_⟩
    refine ⟨by kernel_rfl, ?_⟩
    refine vcRet_of [] ?_ rfl
    simp [newC, h3, cn_explicit, List.take_of_length_le]
def dueC (c : Cn) (a : Int) : Int := min (min (if c.status = 0 then min a c.ready else a) c.up.due) c.dn.due
def dueTo (a : Int) : List Cn → Int
  | [] => a
  | c :: r => dueTo (dueC c a) r
def dueS (s : Nw) : Int × Int := if chk s ≠ 0 then (0, chk s) else if dueTo never s.conns = never then (0, 4) else (dueTo never s.conns, 0)
set_option maxHeartbeats 4000000 in
theorem Due_m (s : Nw) (hf : Fits s) : Meets Try.prog 64 [s.pv] [] (Ret (.tup [.i (dueS s).1, .i (dueS s).2])) := by
  have hf0 := hf
  obtain ⟨f1, f2, f3⟩ := hf
  refine meetsH [] tbOk mixed Try.func64 pl64 rfl rfl ?_
  simp [Try.ntmps64]
  refine (check_m s hf0).mono ?_
  rintro _ rfl
  by_cases hc : chk s = 0
  case neg =>
    simp [hc]
    refine vcRet_of [] ?_ rfl
    simp [dueS, hc]
  simp [hc]
  refine vc_loop (fun m σ => ∃ k : Nat, m = s.conns.length - k ∧ k ≤ s.conns.length ∧ ∃ a : Int, dueTo never s.conns = dueTo a (s.conns.drop k) ∧ σ = ⟨50, [(18, .i k), (17, .i s.conns.length), (5, .i a), (1, .ptr 1 0)], [(1, s.box)]⟩) ?_ ?_
  · exact ⟨_, _, ⟨0, rfl, Nat.zero_le _, never, rfl, rfl⟩, [], _, rfl, by simp [never]⟩
  rintro m σ ⟨k, rfl, hk, a, ha, rfl⟩
  by_cases hlt : k < s.conns.length
  · obtain ⟨c, hcm, e⟩ := at_lt hlt
    have hd : s.conns.drop k = c :: s.conns.drop (k + 1) := by rw [← e]; exact List.drop_eq_getElem_cons hlt
    rw [hd] at ha
    have fin : ∀ a1 : Int, a1 = (if c.status = 0 then min a c.ready else a) → dueTo never s.conns = dueTo (min (min a1 c.up.due) c.dn.due) (s.conns.drop (k + 1)) := fun a1 h => by rw [ha, h]; rfl
    by_cases hs : c.status = 0
    · simp only [hs, if_true] at fin
      simp [hlt, e, hs]
      refine (ways_m c.ds).mono ?_
      rintro _ rfl
      simp
      refine vc_loop (fun m' σ => ∃ j : Nat, m' = 9 - j ∧ j ≤ 2 ∧ σ = ⟨50, [(38, .i j), (37, waysW c.ds), (5, .i (if j = 0 then min a c.ready else if j = 1 then min (min a c.ready) c.up.due else min (min (min a c.ready) c.up.due) c.dn.due)), (18, .i k), (17, .i s.conns.length), (1, .ptr 1 0)], [(1, s.box)]⟩) ?_ ?_
      · exact ⟨_, _, ⟨0, rfl, by omega, rfl⟩, [], _, rfl, by simp⟩
      rintro m' σ ⟨j, rfl, hj, rfl⟩
      have hj3 : j = 0 ∨ j = 1 ∨ j = 2 := by omega
      rcases hj3 with rfl | rfl | rfl
      · simp
        refine (dueU_m c).mono ?_
        rintro _ rfl
        simp [IntWalk.i64_in]
        exact ⟨_, by omega, _, ⟨1, rfl, by omega, rfl⟩, [], _, rfl, by simp⟩
      · simp
        refine (dueD_m c).mono ?_
        rintro _ rfl
        simp [IntWalk.i64_in]
        exact ⟨_, by omega, _, ⟨2, rfl, by omega, rfl⟩, [], _, rfl, by simp⟩
      · simp [wrap_succ hlt f2]
        exact ⟨_, by omega, _, ⟨k + 1, rfl, hlt, _, fin _ rfl, rfl⟩, [], _, rfl, by simp⟩
    · simp only [hs, if_false] at fin
      simp [hlt, e, hs]
      refine (ways_m c.ds).mono ?_
      rintro _ rfl
      simp
      refine vc_loop (fun m' σ => ∃ j : Nat, m' = 9 - j ∧ j ≤ 2 ∧ σ = ⟨50, [(38, .i j), (37, waysW c.ds), (5, .i (if j = 0 then a else if j = 1 then min (a) c.up.due else min (min (a) c.up.due) c.dn.due)), (18, .i k), (17, .i s.conns.length), (1, .ptr 1 0)], [(1, s.box)]⟩) ?_ ?_
      · exact ⟨_, _, ⟨0, rfl, by omega, rfl⟩, [], _, rfl, by simp⟩
      rintro m' σ ⟨j, rfl, hj, rfl⟩
      have hj3 : j = 0 ∨ j = 1 ∨ j = 2 := by omega
      rcases hj3 with rfl | rfl | rfl
      · simp
        refine (dueU_m c).mono ?_
        rintro _ rfl
        simp [IntWalk.i64_in]
        exact ⟨_, by omega, _, ⟨1, rfl, by omega, rfl⟩, [], _, rfl, by simp⟩
      · simp
        refine (dueD_m c).mono ?_
        rintro _ rfl
        simp [IntWalk.i64_in]
        exact ⟨_, by omega, _, ⟨2, rfl, by omega, rfl⟩, [], _, rfl, by simp⟩
      · simp [wrap_succ hlt f2]
        exact ⟨_, by omega, _, ⟨k + 1, rfl, hlt, _, fin _ rfl, rfl⟩, [], _, rfl, by simp⟩
  obtain rfl : k = s.conns.length := by omega
  rw [List.drop_length] at ha
  have ha : dueTo never s.conns = a := ha
  by_cases hn : a = 1000000000001
  · simp [hn]
    refine vcRet_of [] ?_ rfl
    simp only [dueS, ha]
    simp [hc, hn, never]
  · simp [hn]
    refine vcRet_of [] ?_ rfl
    simp only [dueS, ha]
    simp [hc, hn, never]
end Go.Proofs.Ytgoklgibhmddoaa
