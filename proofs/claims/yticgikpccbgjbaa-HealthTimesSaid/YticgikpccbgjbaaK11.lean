/- Contracts: the reference s Step; what is valid stays so. No condition. -/
import Derived.Test.YticgikpccbgjbaaK10
namespace Go.Proofs.Yticgikpccbgjbaa
open Go.RowKit

/-- The next time after a check that begins is the reference's. -/
theorem after_same {s : Hs} (hf : Fine s) {k : Nat} {b : Bk} (h1 : fst s.c k ≤ b.next) (h2 : b.next ≤ s.now) (h3 : (b.next - fst s.c k) % s.c.iv = 0) : afterT s.c k s.now = b.next + ((s.now - b.next) / s.c.iv * s.c.iv + s.c.iv) := by
  have hiv := hf.iv
  rw [afterT, if_pos (by omega)]
  obtain ⟨q, hq⟩ := Int.dvd_of_emod_eq_zero h3
  have e1 : s.now - fst s.c k = (s.now - b.next) + q * s.c.iv := by rw [Int.mul_comm]; omega
  rw [e1, Int.add_mul_ediv_right _ _ (by omega)]
  have e2 : b.next = fst s.c k + s.c.iv * q := by omega
  rw [Int.add_mul, Int.add_mul, Int.one_mul, Int.mul_comm q]
  omega
set_option maxRecDepth 100000 in
set_option maxHeartbeats 16000000 in
theorem refStep_m (s : Hs) (hl : s.bs.length < 4294967296) (x : Ev) : Meets Try.prog 17 [s.pv, x.pv] [] (Ret (.tup [(stepR s x).1.pv, .d (chl (stepR s x).2.1), .i (stepR s x).2.2])) := by
  refine meetsH [] tbOk mixed Try.func17 pl17 rfl rfl ?_
  simp [Try.ntmps17]
  refine (refCheck_m s hl).mono ?_
  rintro _ rfl
  by_cases hc : chk s = 0
  case neg =>
    simp [hc]
    refine vcRet_of [] ?_ rfl
    simp [stepR, hc]
  have hf := chk_fine hc
  have hl16 := hf.len
  have hrun := chk_run hc
  have hR : stepR s x = if (stepM s x).2.2 ≠ 0 then (Hs.zero, [], (stepM s x).2.2) else stepM s x := by rw [stepR, if_neg (by simp [hc])]
  simp [hc]
  refine (refEvent_m x s.bs.length).mono ?_
  rintro _ rfl
  by_cases he : ev x s.bs.length = 0
  case neg =>
    simp [he]
    refine vcRet_of [] ?_ rfl
    simp [hR, stepM, he]
  obtain ⟨n0, n1, b0, b1, hid⟩ := ev_range he
  have hM : stepM s x = stepK s x := by rw [stepM, if_neg (by simp [he])]
  rw [hM] at hR
  clear hM
  simp [he]
  by_cases k1 : x.kind = 1
  · by_cases h1 : x.now < s.now
    · have h2 : ¬ s.now ≤ x.now := by omega
      simp [k1, h1, h2]
      refine vcRet_of [] ?_ rfl
      simp [hR, stepK, k1, h1]
    · have h2 : s.now ≤ x.now := by omega
      simp [k1, h1, h2]
      refine (refTick_m s hf.c hl hrun x.now).mono ?_
      rintro _ rfl
      simp
      refine vcRet_of [] ?_ rfl
      simp [hR, stepK, k1, h1]
  obtain ⟨j, hj⟩ : ∃ j : Nat, x.bk = j := ⟨x.bk.toNat, by omega⟩
  have hjl : j < s.bs.length := by omega
  obtain ⟨b, hb, eb⟩ := at_lt hjl
  have gb : s.bs[j]?.getD default = b := by rw [hb]; rfl
  have tj : x.bk.toNat = j := by omega
  by_cases k2 : x.kind = 2
  · simp [k2, hj]
    refine (refDue_m s j hb).mono ?_
    rintro _ rfl
    cases hd : dueB s b
    · simp
      refine vcRet_of [] ?_ rfl
      simp [hR, stepK, k2, tj, gb, hd]
    · have hdd : b.probe = 0 ∧ b.next ≤ s.now := by simpa [dueB] using hd
      have hnum := chk_num hc hb
      simp
      refine (find_m s x.id hl).mono ?_
      rintro _ rfl
      by_cases hp : 0 ≤ findP s.bs x.id
      · simp [hp]
        refine vcRet_of [] ?_ rfl
        simp [hR, stepK, k2, tj, gb, hd, hp]
      · simp [hp]
        refine (copied_m s hl).mono ?_
        rintro _ rfl
        simp [hjl, eb]
        refine effCall (after_m s.c hf.c j (by have := hf.l; omega) s.now hf.n1) ?_
        simp
        refine ⟨by kernel_rfl, hjl, ?_⟩
        refine vcRet_of [] ?_ rfl
        simp [hR, stepK, k2, tj, gb, hd, hp, begB, after_same hf hnum.2.2.1 hdd.2 hnum.2.2.2.2]
        exact List.take_of_length_le (by simp)
  by_cases k3 : x.kind = 3
  · simp [k3]
    refine (find_m s x.id hl).mono ?_
    rintro _ rfl
    rcases findP_range s.bs x.id with hp | ⟨i, y, hp, hy, _⟩
    · simp [hp]
      refine vcRet_of [] ?_ rfl
      simp [hR, stepK, k3, hp]
    · have hp0 : ¬ ((i : Int) < 0) := by omega
      have hry := hrun i y hy
      have h10 := lim_le hf.c y.up
      simp [hp, hp0]
      refine (refOutcome_m s hl hy ⟨hry.1.1, by omega⟩ x.ok s.now).mono ?_
      rintro _ rfl
      simp
      refine vcRet_of [] ?_ rfl
      simp [hR, stepK, k3, hp, hp0, hy]
  have k4 : x.kind = 4 := by rcases ev_kind he with h | h | h | h <;> first | exact absurd h k1 | exact absurd h k2 | exact absurd h k3 | exact h
  simp [k4]
  refine (copied_m s hl).mono ?_
  rintro _ rfl
  by_cases hu : b.up = x.ok
  · simp [hj, hjl, eb, hu]
    refine ⟨by kernel_rfl, by kernel_rfl, ?_⟩
    refine vcRet_of [] ?_ rfl
    simp [hR, stepK, k4, tj, gb, markB, markL, hu]
    exact List.take_of_length_le (by simp)
  · simp [hj, hjl, eb, hu]
    refine ⟨by kernel_rfl, by kernel_rfl, ?_⟩
    refine vcRet_of [] ?_ rfl
    simp [hR, stepK, k4, tj, gb, markB, markL, hu]
    exact List.take_of_length_le (by simp)

/-- A valid state, backend by backend. -/
structure Good (s : Hs) : Prop where
  fine : Fine s
  num : ∀ (k : Nat) (b : Bk), s.bs[k]? = some b → 0 ≤ b.run ∧ b.run < lim s.c b.up ∧ fst s.c k ≤ b.next ∧ b.next ≤ s.now + s.c.iv ∧ (b.next - fst s.c k) % s.c.iv = 0
  idle : ∀ (k : Nat) (b : Bk), s.bs[k]? = some b → b.probe = 0 → b.began = 0
  busy : ∀ (k : Nat) (b : Bk), s.bs[k]? = some b → b.probe ≠ 0 → (0 < b.probe ∧ b.probe ≤ 1000000000) ∧ 0 ≤ b.began ∧ b.began ≤ s.now ∧ s.now < b.began + s.c.tm ∧ b.began < b.next ∧ b.next - b.began ≤ s.c.iv
  one : ∀ (i j : Nat) (bi bj : Bk), s.bs[i]? = some bi → s.bs[j]? = some bj → i < j → bj.probe ≠ 0 → bi.probe ≠ bj.probe
theorem chk_good {s : Hs} (h : chk s = 0) : Good s := by
  have hf := chk_fine h
  refine ⟨hf, fun k b hb => chk_num h hb, fun k b hb h0 => chk_idle h hb h0, fun k b hb h0 => ?_, fun i j bi bj hi hj hij h0 he => ?_⟩
  · have := chk_at h hb
    rw [okAt, Bool.and_eq_true] at this
    obtain ⟨⟨h1, h2, _⟩, h3⟩ := okB_busy this.2 h0
    exact ⟨⟨h1, h2⟩, h3⟩
  · have := chk_at h hj
    rw [okAt, Bool.and_eq_true] at this
    obtain ⟨⟨_, _, h3⟩, _⟩ := okB_busy this.2 h0
    exact h3 (probes_has h0 hij hi he)
theorem okTo_all {s : Hs} (h : ∀ (k : Nat) (b : Bk), s.bs[k]? = some b → okAt s k b = true) : ∀ n, n ≤ s.bs.length → okTo s n = true
  | 0, _ => rfl
  | n + 1, hn => by
    obtain ⟨b, hb, _⟩ := at_lt (show n < s.bs.length by omega)
    rw [okTo_succ hb, okTo_all h n (by omega), h n b hb]; rfl
theorem good_chk {s : Hs} (h : Good s) : chk s = 0 := by
  have hform : formOk s = true := form_iff.2 ⟨⟨h.fine.n0, h.fine.n1⟩, h.fine.l⟩
  have hall := okTo_all (s := s) (fun k b hb => by
    rw [okAt, okA_iff.2 (h.num k b hb), Bool.true_and, okB]
    by_cases h0 : b.probe = 0
    · rw [if_pos h0, h.idle k b hb h0]; rfl
    · rw [if_neg h0]
      obtain ⟨⟨a1, a2⟩, a3, a4, a5, a6, a7⟩ := h.busy k b hb h0
      have hn : b.probe ∉ probes (s.bs.take k) := probes_not h0 fun i y hi hy => h.one i k y b hy hb hi h0
      simp [a1, a2, a3, a4, a5, a6, a7, hn]) s.bs.length (Nat.le_refl _)
  simp [chk, h.fine.c, hform, hall]
/-- Backend by backend, after a tick. -/
theorem outF_at (c : Cf) (now : Int) : ∀ (L : List Int) (bs : List Bk), LateOk c now bs L → ∀ k : Nat, (outF c L bs).1[k]? = (bs[k]?).map fun b => if lateB c now b then outB c b false else b
  | [], bs, h, k => by
    rw [outF]
    cases hb : bs[k]? with
    | none => rfl
    | some b =>
      have : ¬ lateB c now b = true := fun hl => by
        have := (h.mem k).2 ⟨k, b, rfl, hb, hl⟩
        cases this
      simp [this]
  | f :: L, bs, h, k => by
    obtain ⟨i, b, rfl, hb, hl⟩ := (h.mem f).1 (by simp)
    have hnot : (i : Int) ∉ L := fun hm => bf_of ((List.pairwise_cons.1 h.sorted).1 _ hm) ((List.pairwise_cons.1 h.sorted).1 _ hm)
    have hmemL : ∀ y ∈ L, ∃ (j : Nat) (b' : Bk), y = j ∧ j ≠ i ∧ bs[j]? = some b' ∧ lateB c now b' = true := fun y hy => by
      obtain ⟨j, b', rfl, h1, h2⟩ := (h.mem y).1 (List.mem_cons_of_mem _ hy)
      exact ⟨j, b', rfl, fun e => hnot (e ▸ hy), h1, h2⟩
    have hb1 : ∀ j : Nat, j ≠ i → bgn (bs.set i (outB c b false)) j = bgn bs j := fun j hj => by
      unfold bgn
      rw [Int.toNat_natCast, List.getD_eq_getElem?_getD, List.getElem?_set_ne (fun e => hj e.symm), ← List.getD_eq_getElem?_getD]
    have hnext : LateOk c now (bs.set i (outB c b false)) L := ⟨by
      refine List.Pairwise.imp_of_mem ?_ (List.pairwise_cons.1 h.sorted).2
      intro x y hx hy hxy
      obtain ⟨jx, _, rfl, hjx, _⟩ := hmemL x hx
      obtain ⟨jy, _, rfl, hjy, _⟩ := hmemL y hy
      unfold bf at hxy ⊢
      rw [hb1 jx hjx, hb1 jy hjy]
      exact hxy, fun y => ⟨fun hy => by
        obtain ⟨j, b', rfl, hj, h1, h2⟩ := hmemL y hy
        exact ⟨j, b', rfl, by rw [List.getElem?_set_ne (fun e => hj e.symm)]; exact h1, h2⟩, fun ⟨j, b', e, h1, h2⟩ => by
        subst e
        by_cases hj : j = i
        · subst hj
          rw [List.getElem?_set_self (lt_some hb)] at h1
          cases h1
          simp [lateB, outB_probe] at h2
        · rw [List.getElem?_set_ne (fun e => hj e.symm)] at h1
          rcases List.mem_cons.1 ((h.mem j).2 ⟨j, b', rfl, h1, h2⟩) with e | hm
          · exact absurd (by omega) hj
          · exact hm⟩⟩
    rw [outF]
    simp only [Int.toNat_natCast, getD_some hb]
    rw [outF_at c now L _ hnext k]
    by_cases hk : k = i
    · subst hk
      rw [List.getElem?_set_self (lt_some hb), hb]
      have h0 : lateB c now (outB c b false) = false := by simp [lateB, outB_probe]
      simp [hl, h0]
    · rw [List.getElem?_set_ne (fun e => hk e.symm)]
theorem outB_next (c : Cf) (b : Bk) (ok : Bool) : (outB c b ok).next = b.next := by
  unfold outB
  split
  · rfl
  · split <;> rfl
theorem Good.run {s : Hs} (h : Good s) : RunOk s.c s.bs := chk_run (good_chk h)
/-- One backend is changed. -/
theorem Good.set {s : Hs} (h : Good s) {i : Nat} {b y : Bk} (hb : s.bs[i]? = some b) (h1 : 0 ≤ y.run ∧ y.run < lim s.c y.up ∧ fst s.c i ≤ y.next ∧ y.next ≤ s.now + s.c.iv ∧ (y.next - fst s.c i) % s.c.iv = 0) (h2 : y.probe = 0 → y.began = 0)
    (h3 : y.probe ≠ 0 → (0 < y.probe ∧ y.probe ≤ 1000000000) ∧ 0 ≤ y.began ∧ y.began ≤ s.now ∧ s.now < y.began + s.c.tm ∧ y.began < y.next ∧ y.next - y.began ≤ s.c.iv) (h4 : y.probe ≠ 0 → y.probe = b.probe ∨ ∀ (k : Nat) (z : Bk), s.bs[k]? = some z → z.probe ≠ y.probe) : Good ⟨s.c, s.now, s.bs.set i y⟩ := by
  have hat : ∀ (k : Nat) (z : Bk), (s.bs.set i y)[k]? = some z → (k = i ∧ z = y) ∨ (k ≠ i ∧ s.bs[k]? = some z) := fun k z hz => by
    by_cases hk : k = i
    · subst hk
      rw [List.getElem?_set_self (lt_some hb)] at hz
      exact .inl ⟨rfl, (Option.some.inj hz).symm⟩
    · rw [List.getElem?_set_ne (fun e => hk e.symm)] at hz
      exact .inr ⟨hk, hz⟩
  refine ⟨⟨h.fine.c, h.fine.n0, h.fine.n1, by show ((s.bs.set i y).length : Int) = _; rw [List.length_set]; exact h.fine.l⟩, fun k z hz => ?_, fun k z hz h0 => ?_, fun k z hz h0 => ?_, fun k j zk zj hk hj hkj h0 he => ?_⟩
  · rcases hat k z hz with ⟨rfl, rfl⟩ | ⟨_, hz⟩
    · exact h1
    · exact h.num k z hz
  · rcases hat k z hz with ⟨rfl, rfl⟩ | ⟨_, hz⟩
    · exact h2 h0
    · exact h.idle k z hz h0
  · rcases hat k z hz with ⟨rfl, rfl⟩ | ⟨_, hz⟩
    · exact h3 h0
    · exact h.busy k z hz h0
  · rcases hat k zk hk with ⟨rfl, rfl⟩ | ⟨hki, hk'⟩ <;> rcases hat j zj hj with ⟨rfl, rfl⟩ | ⟨hji, hj'⟩
    · omega
    · rcases h4 (by rw [he]; exact h0) with h5 | h5
      · exact h.one k j b zj hb hj' hkj h0 (h5.symm.trans he)
      · exact h5 j zj hj' he.symm
    · rcases h4 h0 with h5 | h5
      · exact h.one k j zk b hk' hb hkj (by rw [← h5]; exact h0) (he.trans h5)
      · exact h5 k zk hk' he
    · exact h.one k j zk zj hk' hj' hkj h0 he
theorem outB_good {s : Hs} (h : Good s) {i : Nat} {b : Bk} (hb : s.bs[i]? = some b) (ok : Bool) : Good ⟨s.c, s.now, s.bs.set i (outB s.c b ok)⟩ := by
  have hn := h.num i b hb
  have hr := outB_run h.fine.c ok ⟨hn.1, hn.2.1⟩
  refine h.set hb ⟨hr.1, hr.2, ?_⟩ (fun _ => outB_began ..) (fun h0 => absurd (outB_probe ..) h0) (fun h0 => absurd (outB_probe ..) h0)
  rw [outB_next]
  exact hn.2.2
theorem tick_good {s : Hs} (h : Good s) {now : Int} (h1 : s.now ≤ now) (h2 : now ≤ 1000000000000) : Good (tickR s now).1 := by
  rw [tickR_eq]
  have hat := outF_at s.c now (lateS s now) s.bs (lateS_ok s now)
  have hl := outF_len s.c (lateS s now) s.bs
  have hv := h.fine.c
  show Good ⟨s.c, now, (outF s.c (lateS s now) s.bs).1⟩
  generalize (outF s.c (lateS s now) s.bs).1 = bs at hat hl
  have hget : ∀ (k : Nat) (z : Bk), bs[k]? = some z → ∃ b, s.bs[k]? = some b ∧ z = if lateB s.c now b then outB s.c b false else b := fun k z hz => by
    rw [hat k] at hz
    obtain ⟨b, h3, h4⟩ := Option.map_eq_some_iff.1 hz
    exact ⟨b, h3, h4.symm⟩
  have hsub : ∀ (k : Nat) (z : Bk), bs[k]? = some z → ∃ b, s.bs[k]? = some b ∧ (z.probe ≠ 0 → z = b ∧ now < b.began + s.c.tm) := fun k z hz => by
    obtain ⟨b, hb, rfl⟩ := hget k z hz
    refine ⟨b, hb, fun h0 => ?_⟩
    split at h0
    · exact absurd (outB_probe ..) h0
    · rename_i hlt
      rw [if_neg hlt]
      refine ⟨rfl, ?_⟩
      simp only [lateB, Bool.and_eq_true, decide_eq_true_eq, not_and] at hlt
      have := hlt h0
      omega
  refine ⟨⟨hv, by have := h.fine.n0; show 0 ≤ now; omega, h2, by show (bs.length : Int) = _; rw [hl]; exact h.fine.l⟩, fun k z hz => ?_, fun k z hz h0 => ?_, fun k z hz h0 => ?_, fun i j zi zj hi hj hij h0 he => ?_⟩
  · obtain ⟨b, hb, rfl⟩ := hget k z hz
    have hn := h.num k b hb
    show 0 ≤ _ ∧ _ < lim s.c _ ∧ fst s.c k ≤ _ ∧ _ ≤ now + s.c.iv ∧ (_ - fst s.c k) % s.c.iv = 0
    split
    · have hr := outB_run hv false ⟨hn.1, hn.2.1⟩
      rw [outB_next]
      exact ⟨hr.1, hr.2, hn.2.2.1, by omega, hn.2.2.2.2⟩
    · exact ⟨hn.1, hn.2.1, hn.2.2.1, by omega, hn.2.2.2.2⟩
  · obtain ⟨b, hb, rfl⟩ := hget k z hz
    split
    · exact outB_began ..
    · rename_i hlt
      rw [if_neg hlt] at h0
      exact h.idle k b hb h0
  · obtain ⟨b, hb, h3⟩ := hsub k z hz
    obtain ⟨rfl, h4⟩ := h3 h0
    obtain ⟨g1, g2, g3, g4, g5⟩ := h.busy k z hb h0
    exact ⟨g1, g2, by show z.began ≤ now; omega, h4, g5⟩
  · obtain ⟨bj, hbj, h3⟩ := hsub j zj hj
    obtain ⟨rfl, _⟩ := h3 h0
    obtain ⟨bi, hbi, h4⟩ := hsub i zi hi
    obtain ⟨rfl, _⟩ := h4 (by rw [he]; exact h0)
    exact h.one i j zi zj hbi hbj hij h0 he
theorem stepM_good {s : Hs} (h : Good s) {x : Ev} (h0 : (stepM s x).2.2 = 0) : Good (stepM s x).1 := by
  unfold stepM at h0 ⊢
  split
  · exact h
  rename_i he
  rw [if_neg he] at h0
  have he : ev x s.bs.length = 0 := by simpa using he
  obtain ⟨n0, n1, b0, b1, hid⟩ := ev_range he
  have hf := h.fine
  unfold stepK at h0 ⊢
  split
  · rename_i k1
    rw [if_pos k1] at h0
    split
    · exact h
    · exact tick_good h (by omega) n1
  · rename_i k1
    rw [if_neg k1] at h0
    obtain ⟨j, hj⟩ : ∃ j : Nat, x.bk = j := ⟨x.bk.toNat, by omega⟩
    have hjl : j < s.bs.length := by omega
    obtain ⟨b, hb, eb⟩ := at_lt hjl
    have tj : x.bk.toNat = j := by omega
    have hn := h.num j b hb
    rw [tj, getD_some hb] at h0 ⊢
    split
    · rename_i k2
      rw [if_pos k2] at h0
      split
      · exact h
      · rename_i hd
        rw [if_neg hd] at h0
        split
        · exact h
        · rename_i hp
          have hdd : b.probe = 0 ∧ b.next ≤ s.now := by simpa [dueB] using hd
          have hiv := hf.iv
          have htm := hf.tm
          have e1 := Int.emod_add_mul_ediv (s.now - b.next) s.c.iv
          have e2 := Int.emod_nonneg (s.now - b.next) (show s.c.iv ≠ 0 by omega)
          have e3 := Int.emod_lt_of_pos (s.now - b.next) (show 0 < s.c.iv by omega)
          have e4 : (s.now - b.next) / s.c.iv * s.c.iv = s.c.iv * ((s.now - b.next) / s.c.iv) := Int.mul_comm ..
          have e5 : 0 ≤ (s.now - b.next) / s.c.iv * s.c.iv := Int.mul_nonneg (Int.ediv_nonneg (by omega) (by omega)) (by omega)
          refine h.set hb ⟨hn.1, hn.2.1, ?_, ?_, ?_⟩ (fun h5 => ?_) (fun _ => ?_) (fun _ => .inr fun k z hz he => ?_)
          · show fst s.c j ≤ b.next + ((s.now - b.next) / s.c.iv * s.c.iv + s.c.iv); omega
          · show b.next + ((s.now - b.next) / s.c.iv * s.c.iv + s.c.iv) ≤ s.now + s.c.iv; omega
          · show (b.next + ((s.now - b.next) / s.c.iv * s.c.iv + s.c.iv) - fst s.c j) % s.c.iv = 0
            rw [show b.next + ((s.now - b.next) / s.c.iv * s.c.iv + s.c.iv) - fst s.c j = (b.next - fst s.c j) + ((s.now - b.next) / s.c.iv + 1) * s.c.iv by rw [Int.add_mul, Int.one_mul]; omega, Int.add_mul_emod_self_right]
            exact hn.2.2.2.2
          · have h5 : x.id = 0 := h5
            have := hid (.inl k2)
            omega
          · have := hid (.inl k2)
            show (0 < x.id ∧ x.id ≤ 1000000000) ∧ 0 ≤ s.now ∧ s.now ≤ s.now ∧ s.now < s.now + s.c.tm ∧ s.now < b.next + ((s.now - b.next) / s.c.iv * s.c.iv + s.c.iv) ∧ b.next + ((s.now - b.next) / s.c.iv * s.c.iv + s.c.iv) - s.now ≤ s.c.iv
            have := hf.n0
            omega
          · have he : z.probe = x.id := he
            apply hp
            rcases findP_range s.bs x.id with hq | ⟨i, y, hq, _⟩
            · exfalso
              unfold findP at hq
              cases hx : s.bs.findIdx? (fun b => decide (b.probe = x.id)) with
              | none =>
                rw [List.findIdx?_eq_none_iff] at hx
                have := hx z (List.mem_of_getElem? hz)
                simp [he] at this
              | some i => rw [hx] at hq; dsimp only at hq; omega
            · omega
    · rename_i k2
      rw [if_neg k2] at h0
      split
      · rename_i k3
        rw [if_pos k3] at h0
        split
        · exact h
        · rename_i hp
          rcases findP_range s.bs x.id with hq | ⟨i, y, hq, hy, _⟩
          · omega
          · rw [hq, Int.toNat_natCast, getD_some hy]
            exact outB_good h hy x.ok
      · have h10 := lim_le hf.c x.ok
        exact h.set hb ⟨Int.le_refl _, by show 0 < lim s.c x.ok; omega, hn.2.2⟩ (fun h5 => h.idle j b hb h5) (fun h5 => h.busy j b hb h5) (fun _ => .inl rfl)
end Go.Proofs.Yticgikpccbgjbaa
