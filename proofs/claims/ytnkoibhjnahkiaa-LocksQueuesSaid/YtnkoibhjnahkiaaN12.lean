/- The statement Queues. No condition. -/
import Derived.Test.YtnkoibhjnahkiaaN10
namespace Go.Proofs.Ytnkoibhjnahkiaa
/-- What waits in the two queues. -/
def QInv (s : Sy) (a b : List Int) : Prop := chk s = 0 ∧ ∃ f g, s.queues = [⟨1, a, f⟩, ⟨5, b, g⟩]
theorem QInv.other {s : Sy} {a b : List Int} (h : QInv s a b) {t : Sy} (h1 : chk t = 0) (h2 : t.queues = s.queues) : QInv t a b := by
  obtain ⟨_, f, g, h3⟩ := h
  exact ⟨h1, f, g, h2.trans h3⟩
theorem onLock_queues (s : Sy) (n t : Int) (F : Lk → Int × Lk) : (onLock s n t F).1.queues = s.queues := by
  unfold onLock; split
  · rfl
  · split <;> rfl
theorem addS_queues (s : Sy) (n v : Int) : (addS s n v).1.queues = s.queues := by
  unfold addS; split
  · rfl
  · split <;> rfl
theorem QInv.len {s : Sy} {a b : List Int} (h : QInv s a b) : s.queues.length = 2 ∧ a.length ≤ 1 ∧ b.length ≤ 5 := by
  obtain ⟨h1, f, g, h2⟩ := h
  obtain ⟨_, _, _, _, h5, _⟩ := chk_iff.1 h1
  rw [h2] at h5
  have ha := (h5 ⟨1, a, f⟩ (by simp)).2
  have hb := (h5 ⟨5, b, g⟩ (by simp)).2
  unfold over at ha hb
  simp only [decide_eq_false_iff_not] at ha hb
  exact ⟨by rw [h2]; rfl, by omega, by omega⟩
theorem QInv.lock {s : Sy} {a b : List Int} (h : QInv s a b) : ∀ l ∈ s.locks, ¬ (0 < l.hold ∧ 0 < l.rd.length) := by
  intro l hl
  have hb := ((chk_iff.1 h.1).2.2.2.1 l hl).2
  unfold formOk at hb
  simp only [Bool.and_eq_true, Bool.not_eq_true', Bool.and_eq_false_iff, decide_eq_false_iff_not] at hb
  omega
theorem queueE_two {s : Sy} {a b : List Int} (h : QInv s a b) {q : Int} (hq : q = 0 ∨ q = 1) : queueE s q = 0 := by
  have := h.len.1
  unfold queueE
  rw [if_neg (by simpa using h.1), if_neg (by omega)]
/-- The queue itself, and what waits in it. -/
theorem QInv.at0 {s : Sy} {a b : List Int} (h : QInv s a b) : ∃ f, s.queues[0]? = some ⟨1, a, f⟩ ∧ s.queues.getD 0 default = ⟨1, a, f⟩ := by
  obtain ⟨_, f, g, h2⟩ := h
  exact ⟨f, by rw [h2]; rfl, by rw [h2]; rfl⟩
theorem QInv.at1 {s : Sy} {a b : List Int} (h : QInv s a b) : ∃ g, s.queues[1]? = some ⟨5, b, g⟩ ∧ s.queues.getD 1 default = ⟨5, b, g⟩ := by
  obtain ⟨_, f, g, h2⟩ := h
  exact ⟨g, by rw [h2]; rfl, by rw [h2]; rfl⟩
theorem QInv.on0 {s : Sy} {a b : List Int} (h : QInv s a b) (F : Qu → Int × Qu) : ∃ f g, s.queues = [⟨1, a, f⟩, ⟨5, b, g⟩] ∧
    onQueue s 0 F = (if (F ⟨1, a, f⟩).1 ≠ 0 then (s, (F ⟨1, a, f⟩).1) else (⟨s.locks, [(F ⟨1, a, f⟩).2, ⟨5, b, g⟩], s.groups⟩, 0)) := by
  have he := queueE_two h (q := 0) (.inl rfl)
  obtain ⟨_, f, g, h2⟩ := h
  refine ⟨f, g, h2, ?_⟩
  unfold onQueue
  rw [if_neg (by simp [he]), h2]
  rfl
theorem QInv.send0 {s : Sy} {a b : List Int} (h : QInv s a b) {v : Int} (h0 : (onQueue s 0 (sendF v)).2 = 0) : QInv (onQueue s 0 (sendF v)).1 (a ++ [v]) b := by
  refine ⟨chk_onQueue h.1 fun _ hg h0 => good_send hg h0, ?_⟩
  obtain ⟨f, g, h2, h3⟩ := h.on0 (sendF v)
  rw [h3] at h0 ⊢
  split at h0
  · contradiction
  · rename_i hz
    rw [if_neg hz]
    refine ⟨f, g, ?_⟩
    revert hz
    unfold sendF
    by_cases hl : (a.length : Int) = 1 <;> cases f <;> cases g <;> simp [hl]
theorem QInv.sendE0 {s : Sy} {a b : List Int} (h : QInv s a b) {v : Int} (h0 : (onQueue s 0 (sendF v)).2 ≠ 0) : (onQueue s 0 (sendF v)).1 = s := by
  obtain ⟨f, g, h2, h3⟩ := h.on0 (sendF v)
  rw [h3] at h0 ⊢
  split at h0
  · rename_i hz; rw [if_pos hz]
  · contradiction
theorem QInv.recv0 {s : Sy} {a b : List Int} (h : QInv s a b) : recvB s 0 = decide (0 < a.length) ∧ recvV s 0 = a.headD 0 ∧ QInv (onQueue s 0 recvF).1 a.tail b ∧ (0 < a.length → (onQueue s 0 recvF).2 = 0) := by
  have he := queueE_two h (q := 0) (.inl rfl)
  have hc : chk (onQueue s 0 recvF).1 = 0 := chk_onQueue h.1 fun _ hg _ => good_recv hg
  obtain ⟨f, g, h2, h3⟩ := h.on0 recvF
  have hg : s.queues.getD (0 : Int).toNat default = ⟨1, a, f⟩ := by rw [h2]; rfl
  refine ⟨by rw [recvB, if_pos he, hg], by rw [recvV, if_pos he, hg], ⟨hc, ?_⟩, ?_⟩
  · rw [h3]
    unfold recvF
    by_cases hl : 0 < a.length
    · simp [hl]
    · have hn : a = [] := List.length_eq_zero_iff.1 (by omega)
      subst hn
      cases f <;> cases g <;> simp [h2]
  · intro hl
    rw [h3]
    unfold recvF
    simp [hl]
theorem QInv.shut0 {s : Sy} {a b : List Int} (h : QInv s a b) : QInv (onQueue s 0 shutF).1 a b := by
  refine ⟨chk_onQueue h.1 fun _ hg _ => good_shut hg, ?_⟩
  obtain ⟨f, g, h2, h3⟩ := h.on0 shutF
  rw [h3]
  unfold shutF
  cases f <;> cases g <;> simp [h2]
theorem QInv.on1 {s : Sy} {a b : List Int} (h : QInv s a b) (F : Qu → Int × Qu) : ∃ f g, s.queues = [⟨1, a, f⟩, ⟨5, b, g⟩] ∧
    onQueue s 1 F = (if (F ⟨5, b, g⟩).1 ≠ 0 then (s, (F ⟨5, b, g⟩).1) else (⟨s.locks, [⟨1, a, f⟩, (F ⟨5, b, g⟩).2], s.groups⟩, 0)) := by
  have he := queueE_two h (q := 1) (.inr rfl)
  obtain ⟨_, f, g, h2⟩ := h
  refine ⟨f, g, h2, ?_⟩
  unfold onQueue
  rw [if_neg (by simp [he]), h2]
  rfl
theorem QInv.send1 {s : Sy} {a b : List Int} (h : QInv s a b) {v : Int} (h0 : (onQueue s 1 (sendF v)).2 = 0) : QInv (onQueue s 1 (sendF v)).1 a (b ++ [v]) := by
  refine ⟨chk_onQueue h.1 fun _ hg h0 => good_send hg h0, ?_⟩
  obtain ⟨f, g, h2, h3⟩ := h.on1 (sendF v)
  rw [h3] at h0 ⊢
  split at h0
  · contradiction
  · rename_i hz
    rw [if_neg hz]
    refine ⟨f, g, ?_⟩
    revert hz
    unfold sendF
    by_cases hl : (b.length : Int) = 5 <;> cases f <;> cases g <;> simp [hl]
theorem QInv.sendE1 {s : Sy} {a b : List Int} (h : QInv s a b) {v : Int} (h0 : (onQueue s 1 (sendF v)).2 ≠ 0) : (onQueue s 1 (sendF v)).1 = s := by
  obtain ⟨f, g, h2, h3⟩ := h.on1 (sendF v)
  rw [h3] at h0 ⊢
  split at h0
  · rename_i hz; rw [if_pos hz]
  · contradiction
theorem QInv.recv1 {s : Sy} {a b : List Int} (h : QInv s a b) : recvB s 1 = decide (0 < b.length) ∧ recvV s 1 = b.headD 0 ∧ QInv (onQueue s 1 recvF).1 a b.tail ∧ (0 < b.length → (onQueue s 1 recvF).2 = 0) := by
  have he := queueE_two h (q := 1) (.inr rfl)
  have hc : chk (onQueue s 1 recvF).1 = 0 := chk_onQueue h.1 fun _ hg _ => good_recv hg
  obtain ⟨f, g, h2, h3⟩ := h.on1 recvF
  have hg : s.queues.getD (1 : Int).toNat default = ⟨5, b, g⟩ := by rw [h2]; rfl
  refine ⟨by rw [recvB, if_pos he, hg], by rw [recvV, if_pos he, hg], ⟨hc, ?_⟩, ?_⟩
  · rw [h3]
    unfold recvF
    by_cases hl : 0 < b.length
    · simp [hl]
    · have hn : b = [] := List.length_eq_zero_iff.1 (by omega)
      subst hn
      cases f <;> cases g <;> simp [h2]
  · intro hl
    rw [h3]
    unfold recvF
    simp [hl]
theorem QInv.shut1 {s : Sy} {a b : List Int} (h : QInv s a b) : QInv (onQueue s 1 shutF).1 a b := by
  refine ⟨chk_onQueue h.1 fun _ hg _ => good_shut hg, ?_⟩
  obtain ⟨f, g, h2, h3⟩ := h.on1 shutF
  rw [h3]
  unfold shutF
  cases f <;> cases g <;> simp [h2]
theorem QInv.do {s : Sy} {a b : List Int} (h : QInv s a b) {c : Ca} (h5 : c.what % 10 ≠ 5) (h6 : c.what % 10 ≠ 6) (h7 : c.what % 10 ≠ 7) : QInv (doS s c) a b := by
  unfold doS
  split
  · exact h.other (chk_unlockS h.1) (onLock_queues _ _ _ _)
  split
  · exact h.other (chk_rlockS h.1) (onLock_queues _ _ _ _)
  split
  · exact h.other (chk_runlockS h.1) (onLock_queues _ _ _ _)
  split
  · exact h.other (chk_addS h.1) (addS_queues _ _ _)
  split
  · exact h
  · exact h.other (chk_lockS h.1) (onLock_queues _ _ _ _)
end Go.Proofs.Ytnkoibhjnahkiaa
namespace Go.Proofs.Ytnkoibhjnahkiaa
open Go.RowKit
set_option maxRecDepth 100000

def qs0 : Sy := ⟨[⟨0, []⟩, ⟨0, []⟩, ⟨0, []⟩], [⟨1, [], false⟩, ⟨5, [], false⟩], []⟩
theorem qs_new : newS 3 [1, 5] 0 = (qs0, 0) := by decide
theorem qs_fits : Fits qs0 := by simp [Fits, qs0]
theorem qs_inv : QInv qs0 [] [] := ⟨by decide, false, false, rfl⟩
/-- Which queue a call is of. -/
def qOf (o : Int) : Int := IntKind.i64.wrap ((IntKind.u64.wrap o).tmod 2)
theorem qOf_two (o : Int) : qOf o = 0 ∨ qOf o = 1 := by
  unfold qOf
  have h : 0 ≤ IntKind.u64.wrap o := by
    have : IntKind.u64.wrap o = o % 18446744073709551616 := by simp [IntKind.wrap]; rfl
    rw [this]; omega
  rw [Int.tmod_eq_emod_of_nonneg h]
  have h2 : IntKind.u64.wrap o % 2 = 0 ∨ IntKind.u64.wrap o % 2 = 1 := by omega
  rcases h2 with h2 | h2 <;> rw [h2] <;> decide
def qmem (s : Sy) (A B P Q : List Int) : Mem := [(5, .box 48 [.rs 500000 1 P.length A.length 0, .rs 500001 1 Q.length B.length 0]), (500000, .row 2 1 ((P ++ A).map ics) false), (500001, .row 2 1 ((Q ++ B).map ics) false), (3, s.box)]
set_option maxHeartbeats 4000000 in
theorem lawQueues_m (l : List Ca) (hw : ∀ c ∈ l, 0 ≤ c.what) : Meets Try.prog 6 [.d (cas l)] [] (Ret (.b true)) := by
  refine meetsP [(68, [.room 5 8])] tbOk mixed Try.func6 pl6 rfl rfl ?_
  by_cases h : (100 : Int) < l.length
  · simp [Try.ntmps6, h]
    refine awake_m.mono ?_
    rintro _ rfl
    simp
    exact vcRet_of [] (by simp) rfl
  simp [Try.ntmps6, h]
  refine (new_m 3 [1, 5] (by simp) 0).mono ?_
  rintro _ rfl
  rw [qs_new]
  simp
  refine vc_loop (fun m σ => ∃ k : Nat, m = l.length - k ∧ k ≤ l.length ∧ ∃ s : Sy, Fits s ∧ ∃ A B : List Int, QInv s A B ∧ ∃ P Q : List Int,
    σ = ⟨191, [(6, .i k), (5, .ptr 5 0), (3, .ptr 3 0), (0, .d (cas l))], qmem s A B P Q⟩) ?_ ?_
  · exact ⟨_, _, ⟨0, rfl, Nat.zero_le _, qs0, qs_fits, [], [], qs_inv, [], [], rfl⟩, [.cell 5 0 500000 2 1, .cell 5 1 500001 2 1, .part 5 0, .part 5 1], _, rfl, by simp [qmem]⟩
  rintro m σ ⟨k, rfl, hk, s, hf, A, B, hq, P, Q, rfl⟩
  by_cases hlt : k < l.length
  case neg =>
    obtain rfl : k = l.length := by omega
    simp
    refine awake_m.mono ?_
    rintro _ rfl
    simp
    exact vcRet_of [] (by simp) rfl
  obtain ⟨c, hci, e⟩ := at_lt hlt
  have hcw := hw c (List.mem_of_getElem? hci)
  have hrem : c.what.tmod 10 = c.what % 10 := Int.tmod_eq_emod_of_nonneg hcw
  have hqo : IntKind.i64.wrap ((IntKind.u64.wrap c.obj).tmod 2) = qOf c.obj := rfl
  have hwk := wrap_succ hlt (show l.length < 4294967296 by omega)
  rcases qOf_two c.obj with h0 | h0
  · -- queue 0
    have hb : A.length ≤ 5 := by have := hq.len; omega
    by_cases h5 : c.what % 10 = 5
    · simp [qmem, hlt, e, hrem, hqo, h0, h5]
      refine (send_m s hf 0 c.v).mono ?_
      rintro _ rfl
      by_cases he : (onQueue s 0 (sendF c.v)).2 = 0
      · have hq2 := hq.send0 he
        have hf2 : Fits (onQueue s 0 (sendF c.v)).1 := hf.queue (sendF_len _)
        rw [he]
        generalize (onQueue s 0 (sendF c.v)).1 = s2 at *
        obtain ⟨ls, qs, gs⟩ := s2
        obtain ⟨f, g, hqs⟩ := hq2.2
        obtain rfl : qs = _ := hqs
        have hc2 : chk ⟨ls, [⟨1, A ++ [c.v], f⟩, ⟨5, B, g⟩], gs⟩ = 0 := hq2.1
        have hq2 : QInv ⟨ls, [⟨1, A ++ [c.v], f⟩, ⟨5, B, g⟩], gs⟩ (A ++ [c.v]) (B) := hq2
        have hf2 : Fits ⟨ls, [⟨1, A ++ [c.v], f⟩, ⟨5, B, g⟩], gs⟩ := hf2
        have hlen := hq2.len
        have hll : ls.length < 4294967296 := hf2.1
        have h6 : ¬ (5 : Int) < (A.length : Int) + 1 := by
          have := hlen.2.1
          rw [List.length_append] at this
          simp only [List.length_cons, List.length_nil] at this
          omega
        simp
        refine ⟨⟨by omega, by kernel_rfl, ?_⟩, ⟨by omega, by kernel_rfl, ?_⟩⟩
        · -- made anew
          refine effCall (q := .i (chk ⟨ls, [⟨1, A ++ [c.v], f⟩, ⟨5, B, g⟩], gs⟩)) (by simpa using check_m ⟨ls, [⟨1, A ++ [c.v], f⟩, ⟨5, B, g⟩], gs⟩ hf2) ?_
          simp [hc2, h6]
          refine ⟨by kernel_rfl, ?_⟩
          refine vc_loop (fun m' σ => ∃ j : Nat, m' = ls.length - j ∧ j ≤ ls.length ∧ σ = ⟨191, [(17, .i j), (6, .i k), (5, .ptr 5 0), (3, .ptr 3 0), (0, .d (cas l))], qmem ⟨ls, [⟨1, A ++ [c.v], f⟩, ⟨5, B, g⟩], gs⟩ (A ++ [c.v]) (B) ([]) (Q)⟩) ?_ ?_
          · exact ⟨_, _, ⟨0, rfl, Nat.zero_le _, rfl⟩, [], _, rfl, by simp [qmem]⟩
          rintro m' σ ⟨j, rfl, hj, rfl⟩
          by_cases hjl : j < ls.length
          · obtain ⟨x, hx, ex⟩ := at_lt hjl
            have hno := hq2.lock x (List.mem_of_getElem? hx)
            have hwj := wrap_succ hjl hll
            by_cases hh : 0 < x.hold
            · have hr : x.rd.length = 0 := by omega
              simp [qmem, hjl, ex, hh, hr, hwj]
              exact ⟨_, by omega, _, ⟨j + 1, rfl, hjl, rfl⟩, [], _, rfl, by simp⟩
            · simp [qmem, hjl, ex, hh, hwj]
              exact ⟨_, by omega, _, ⟨j + 1, rfl, hjl, rfl⟩, [], _, rfl, by simp⟩
          obtain rfl : j = ls.length := by omega
          simp [qmem, hwk]
          exact ⟨_, by omega, _, ⟨k + 1, rfl, hlt, ⟨ls, _, gs⟩, hf2, A ++ [c.v], B, hq2, [], Q, rfl⟩, [], _, rfl, by simp⟩
        · -- room
          refine effCall (q := .i (chk ⟨ls, [⟨1, A ++ [c.v], f⟩, ⟨5, B, g⟩], gs⟩)) (by simpa using check_m ⟨ls, [⟨1, A ++ [c.v], f⟩, ⟨5, B, g⟩], gs⟩ hf2) ?_
          simp [hc2, h6]
          refine ⟨by kernel_rfl, ?_⟩
          refine vc_loop (fun m' σ => ∃ j : Nat, m' = ls.length - j ∧ j ≤ ls.length ∧ σ = ⟨191, [(17, .i j), (6, .i k), (5, .ptr 5 0), (3, .ptr 3 0), (0, .d (cas l))], qmem ⟨ls, [⟨1, A ++ [c.v], f⟩, ⟨5, B, g⟩], gs⟩ (A ++ [c.v]) (B) (P) (Q)⟩) ?_ ?_
          · exact ⟨_, _, ⟨0, rfl, Nat.zero_le _, rfl⟩, [], _, rfl, by simp [qmem]⟩
          rintro m' σ ⟨j, rfl, hj, rfl⟩
          by_cases hjl : j < ls.length
          · obtain ⟨x, hx, ex⟩ := at_lt hjl
            have hno := hq2.lock x (List.mem_of_getElem? hx)
            have hwj := wrap_succ hjl hll
            by_cases hh : 0 < x.hold
            · have hr : x.rd.length = 0 := by omega
              simp [qmem, hjl, ex, hh, hr, hwj]
              exact ⟨_, by omega, _, ⟨j + 1, rfl, hjl, rfl⟩, [], _, rfl, by simp⟩
            · simp [qmem, hjl, ex, hh, hwj]
              exact ⟨_, by omega, _, ⟨j + 1, rfl, hjl, rfl⟩, [], _, rfl, by simp⟩
          obtain rfl : j = ls.length := by omega
          simp [qmem, hwk]
          exact ⟨_, by omega, _, ⟨k + 1, rfl, hlt, ⟨ls, _, gs⟩, hf2, A ++ [c.v], B, hq2, P, Q, rfl⟩, [], _, rfl, by simp⟩
      · have hq2 : QInv (onQueue s 0 (sendF c.v)).1 A B := by rw [hq.sendE0 he]; exact hq
        have hf2 : Fits (onQueue s 0 (sendF c.v)).1 := hf.queue (sendF_len _)
        generalize (onQueue s 0 (sendF c.v)).2 = er at *
        generalize (onQueue s 0 (sendF c.v)).1 = s2 at *
        obtain ⟨ls, qs, gs⟩ := s2
        obtain ⟨f, g, hqs⟩ := hq2.2
        obtain rfl : qs = _ := hqs
        have hc2 : chk ⟨ls, [⟨1, A, f⟩, ⟨5, B, g⟩], gs⟩ = 0 := hq2.1
        have hq2 : QInv ⟨ls, [⟨1, A, f⟩, ⟨5, B, g⟩], gs⟩ (A) (B) := hq2
        have hf2 : Fits ⟨ls, [⟨1, A, f⟩, ⟨5, B, g⟩], gs⟩ := hf2
        have hlen := hq2.len
        have hll : ls.length < 4294967296 := hf2.1
        have h6 : ¬ (5 : Int) < (A.length : Int) := by omega
        simp [he]
        refine effCall (check_m _ hf2) ?_
        simp [hc2, h6]
        refine ⟨by kernel_rfl, ?_⟩
        refine vc_loop (fun m' σ => ∃ j : Nat, m' = ls.length - j ∧ j ≤ ls.length ∧ σ = ⟨191, [(17, .i j), (6, .i k), (5, .ptr 5 0), (3, .ptr 3 0), (0, .d (cas l))], qmem ⟨ls, [⟨1, A, f⟩, ⟨5, B, g⟩], gs⟩ (A) (B) (P) (Q)⟩) ?_ ?_
        · exact ⟨_, _, ⟨0, rfl, Nat.zero_le _, rfl⟩, [], _, rfl, by simp [qmem]⟩
        rintro m' σ ⟨j, rfl, hj, rfl⟩
        by_cases hjl : j < ls.length
        · obtain ⟨x, hx, ex⟩ := at_lt hjl
          have hno := hq2.lock x (List.mem_of_getElem? hx)
          have hwj := wrap_succ hjl hll
          by_cases hh : 0 < x.hold
          · have hr : x.rd.length = 0 := by omega
            simp [qmem, hjl, ex, hh, hr, hwj]
            exact ⟨_, by omega, _, ⟨j + 1, rfl, hjl, rfl⟩, [], _, rfl, by simp⟩
          · simp [qmem, hjl, ex, hh, hwj]
            exact ⟨_, by omega, _, ⟨j + 1, rfl, hjl, rfl⟩, [], _, rfl, by simp⟩
        obtain rfl : j = ls.length := by omega
        simp [qmem, hwk]
        exact ⟨_, by omega, _, ⟨k + 1, rfl, hlt, ⟨ls, _, gs⟩, hf2, A, B, hq2, P, Q, rfl⟩, [], _, rfl, by simp⟩
    by_cases h6 : c.what % 10 = 6
    · obtain ⟨r1, r2, hq2, r3⟩ := hq.recv0
      have hf2 : Fits (onQueue s 0 recvF).1 := hf.queue recvF_len
      cases A with
      | nil =>
        simp [qmem, hlt, e, hrem, hqo, h0, h6]
        refine (recv_m s hf 0).mono ?_
        rintro _ rfl
        rw [r1, r2]
        generalize (onQueue s 0 recvF).2 = er at *
        generalize (onQueue s 0 recvF).1 = s2 at *
        obtain ⟨ls, qs, gs⟩ := s2
        obtain ⟨f, g, hqs⟩ := hq2.2
        obtain rfl : qs = _ := hqs
        have hc2 : chk ⟨ls, [⟨1, [], f⟩, ⟨5, B, g⟩], gs⟩ = 0 := hq2.1
        have hq2 : QInv ⟨ls, [⟨1, [], f⟩, ⟨5, B, g⟩], gs⟩ ([]) (B) := hq2
        have hf2 : Fits ⟨ls, [⟨1, [], f⟩, ⟨5, B, g⟩], gs⟩ := hf2
        have hlen := hq2.len
        have hll : ls.length < 4294967296 := hf2.1
        simp
        refine effCall (check_m _ hf2) ?_
        simp [hc2]
        refine ⟨by kernel_rfl, ?_⟩
        refine vc_loop (fun m' σ => ∃ j : Nat, m' = ls.length - j ∧ j ≤ ls.length ∧ σ = ⟨191, [(17, .i j), (6, .i k), (5, .ptr 5 0), (3, .ptr 3 0), (0, .d (cas l))], qmem ⟨ls, [⟨1, [], f⟩, ⟨5, B, g⟩], gs⟩ ([]) (B) (P) (Q)⟩) ?_ ?_
        · exact ⟨_, _, ⟨0, rfl, Nat.zero_le _, rfl⟩, [], _, rfl, by simp [qmem]⟩
        rintro m' σ ⟨j, rfl, hj, rfl⟩
        by_cases hjl : j < ls.length
        · obtain ⟨x, hx, ex⟩ := at_lt hjl
          have hno := hq2.lock x (List.mem_of_getElem? hx)
          have hwj := wrap_succ hjl hll
          by_cases hh : 0 < x.hold
          · have hr : x.rd.length = 0 := by omega
            simp [qmem, hjl, ex, hh, hr, hwj]
            exact ⟨_, by omega, _, ⟨j + 1, rfl, hjl, rfl⟩, [], _, rfl, by simp⟩
          · simp [qmem, hjl, ex, hh, hwj]
            exact ⟨_, by omega, _, ⟨j + 1, rfl, hjl, rfl⟩, [], _, rfl, by simp⟩
        obtain rfl : j = ls.length := by omega
        simp [qmem, hwk]
        exact ⟨_, by omega, _, ⟨k + 1, rfl, hlt, ⟨ls, _, gs⟩, hf2, [], B, hq2, P, Q, rfl⟩, [], _, rfl, by simp⟩
      | cons x A =>
        have r3 := r3 (by simp)
        simp [qmem, hlt, e, hrem, hqo, h0, h6]
        refine (recv_m s hf 0).mono ?_
        rintro _ rfl
        rw [r1, r2, r3]
        generalize (onQueue s 0 recvF).1 = s2 at *
        obtain ⟨ls, qs, gs⟩ := s2
        obtain ⟨f, g, hqs⟩ := hq2.2
        obtain rfl : qs = _ := hqs
        have hc2 : chk ⟨ls, [⟨1, A, f⟩, ⟨5, B, g⟩], gs⟩ = 0 := hq2.1
        have hq2 : QInv ⟨ls, [⟨1, A, f⟩, ⟨5, B, g⟩], gs⟩ (A) (B) := hq2
        have hf2 : Fits ⟨ls, [⟨1, A, f⟩, ⟨5, B, g⟩], gs⟩ := hf2
        have hlen := hq2.len
        have hll : ls.length < 4294967296 := hf2.1
        have h7 : ¬ (5 : Int) < (A.length : Int) := by simp at hb; omega
        have hz : ¬ ((A.length : Int) + 1 = 0) := by omega
        have h1 : (1 : Int) ≤ (A.length : Int) + 1 := by omega
        simp [hz, h1]
        refine effCall (check_m _ hf2) ?_
        simp [hc2, h7]
        refine ⟨by kernel_rfl, ?_⟩
        refine vc_loop (fun m' σ => ∃ j : Nat, m' = ls.length - j ∧ j ≤ ls.length ∧ σ = ⟨191, [(17, .i j), (6, .i k), (5, .ptr 5 0), (3, .ptr 3 0), (0, .d (cas l))], qmem ⟨ls, [⟨1, A, f⟩, ⟨5, B, g⟩], gs⟩ (A) (B) (P ++ [x]) (Q)⟩) ?_ ?_
        · exact ⟨_, _, ⟨0, rfl, Nat.zero_le _, rfl⟩, [], _, rfl, by simp [qmem]⟩
        rintro m' σ ⟨j, rfl, hj, rfl⟩
        by_cases hjl : j < ls.length
        · obtain ⟨x, hx, ex⟩ := at_lt hjl
          have hno := hq2.lock x (List.mem_of_getElem? hx)
          have hwj := wrap_succ hjl hll
          by_cases hh : 0 < x.hold
          · have hr : x.rd.length = 0 := by omega
            simp [qmem, hjl, ex, hh, hr, hwj]
            exact ⟨_, by omega, _, ⟨j + 1, rfl, hjl, rfl⟩, [], _, rfl, by simp⟩
          · simp [qmem, hjl, ex, hh, hwj]
            exact ⟨_, by omega, _, ⟨j + 1, rfl, hjl, rfl⟩, [], _, rfl, by simp⟩
        obtain rfl : j = ls.length := by omega
        simp [qmem, hwk]
        exact ⟨_, by omega, _, ⟨k + 1, rfl, hlt, ⟨ls, _, gs⟩, hf2, A, B, hq2, P ++ [x], Q, rfl⟩, [], _, rfl, by simp⟩
    by_cases h7 : c.what % 10 = 7
    · have hq2 := hq.shut0
      have hf2 : Fits (onQueue s 0 shutF).1 := hf.queue shutF_len
      have h8 : ¬ (5 : Int) < (A.length : Int) := by omega
      simp [qmem, hlt, e, hrem, hqo, h0, h7]
      refine (shut_m s hf 0).mono ?_
      rintro _ rfl
      generalize (onQueue s 0 shutF).2 = er at *
      generalize (onQueue s 0 shutF).1 = s2 at *
      obtain ⟨ls, qs, gs⟩ := s2
      obtain ⟨f, g, hqs⟩ := hq2.2
      obtain rfl : qs = _ := hqs
      have hc2 : chk ⟨ls, [⟨1, A, f⟩, ⟨5, B, g⟩], gs⟩ = 0 := hq2.1
      have hq2 : QInv ⟨ls, [⟨1, A, f⟩, ⟨5, B, g⟩], gs⟩ (A) (B) := hq2
      have hf2 : Fits ⟨ls, [⟨1, A, f⟩, ⟨5, B, g⟩], gs⟩ := hf2
      have hlen := hq2.len
      have hll : ls.length < 4294967296 := hf2.1
      simp
      refine effCall (check_m _ hf2) ?_
      simp [hc2, h8]
      refine ⟨by kernel_rfl, ?_⟩
      refine vc_loop (fun m' σ => ∃ j : Nat, m' = ls.length - j ∧ j ≤ ls.length ∧ σ = ⟨191, [(17, .i j), (6, .i k), (5, .ptr 5 0), (3, .ptr 3 0), (0, .d (cas l))], qmem ⟨ls, [⟨1, A, f⟩, ⟨5, B, g⟩], gs⟩ (A) (B) (P) (Q)⟩) ?_ ?_
      · exact ⟨_, _, ⟨0, rfl, Nat.zero_le _, rfl⟩, [], _, rfl, by simp [qmem]⟩
      rintro m' σ ⟨j, rfl, hj, rfl⟩
      by_cases hjl : j < ls.length
      · obtain ⟨x, hx, ex⟩ := at_lt hjl
        have hno := hq2.lock x (List.mem_of_getElem? hx)
        have hwj := wrap_succ hjl hll
        by_cases hh : 0 < x.hold
        · have hr : x.rd.length = 0 := by omega
          simp [qmem, hjl, ex, hh, hr, hwj]
          exact ⟨_, by omega, _, ⟨j + 1, rfl, hjl, rfl⟩, [], _, rfl, by simp⟩
        · simp [qmem, hjl, ex, hh, hwj]
          exact ⟨_, by omega, _, ⟨j + 1, rfl, hjl, rfl⟩, [], _, rfl, by simp⟩
      obtain rfl : j = ls.length := by omega
      simp [qmem, hwk]
      exact ⟨_, by omega, _, ⟨k + 1, rfl, hlt, ⟨ls, _, gs⟩, hf2, A, B, hq2, P, Q, rfl⟩, [], _, rfl, by simp⟩
    have hq2 := hq.do h5 h6 h7
    have hf2 := hf.doS c
    have h8 : ¬ (5 : Int) < (A.length : Int) := by omega
    simp [qmem, hlt, e, hrem, hqo, h0, h5, h6, h7]
    refine (do_m s hf c hcw).mono ?_
    rintro _ rfl
    generalize doS s c = s2 at *
    obtain ⟨ls, qs, gs⟩ := s2
    obtain ⟨f, g, hqs⟩ := hq2.2
    obtain rfl : qs = _ := hqs
    have hc2 : chk ⟨ls, [⟨1, A, f⟩, ⟨5, B, g⟩], gs⟩ = 0 := hq2.1
    have hq2 : QInv ⟨ls, [⟨1, A, f⟩, ⟨5, B, g⟩], gs⟩ (A) (B) := hq2
    have hf2 : Fits ⟨ls, [⟨1, A, f⟩, ⟨5, B, g⟩], gs⟩ := hf2
    have hlen := hq2.len
    have hll : ls.length < 4294967296 := hf2.1
    simp
    refine effCall (check_m _ hf2) ?_
    simp [hc2, h8]
    refine ⟨by kernel_rfl, ?_⟩
    refine vc_loop (fun m' σ => ∃ j : Nat, m' = ls.length - j ∧ j ≤ ls.length ∧ σ = ⟨191, [(17, .i j), (6, .i k), (5, .ptr 5 0), (3, .ptr 3 0), (0, .d (cas l))], qmem ⟨ls, [⟨1, A, f⟩, ⟨5, B, g⟩], gs⟩ (A) (B) (P) (Q)⟩) ?_ ?_
    · exact ⟨_, _, ⟨0, rfl, Nat.zero_le _, rfl⟩, [], _, rfl, by simp [qmem]⟩
    rintro m' σ ⟨j, rfl, hj, rfl⟩
    by_cases hjl : j < ls.length
    · obtain ⟨x, hx, ex⟩ := at_lt hjl
      have hno := hq2.lock x (List.mem_of_getElem? hx)
      have hwj := wrap_succ hjl hll
      by_cases hh : 0 < x.hold
      · have hr : x.rd.length = 0 := by omega
        simp [qmem, hjl, ex, hh, hr, hwj]
        exact ⟨_, by omega, _, ⟨j + 1, rfl, hjl, rfl⟩, [], _, rfl, by simp⟩
      · simp [qmem, hjl, ex, hh, hwj]
        exact ⟨_, by omega, _, ⟨j + 1, rfl, hjl, rfl⟩, [], _, rfl, by simp⟩
    obtain rfl : j = ls.length := by omega
    simp [qmem, hwk]
    exact ⟨_, by omega, _, ⟨k + 1, rfl, hlt, ⟨ls, _, gs⟩, hf2, A, B, hq2, P, Q, rfl⟩, [], _, rfl, by simp⟩
  · -- queue 1
    have hb : B.length ≤ 5 := by have := hq.len; omega
    by_cases h5 : c.what % 10 = 5
    · simp [qmem, hlt, e, hrem, hqo, h0, h5]
      refine (send_m s hf 1 c.v).mono ?_
      rintro _ rfl
      by_cases he : (onQueue s 1 (sendF c.v)).2 = 0
      · have hq2 := hq.send1 he
        have hf2 : Fits (onQueue s 1 (sendF c.v)).1 := hf.queue (sendF_len _)
        rw [he]
        generalize (onQueue s 1 (sendF c.v)).1 = s2 at *
        obtain ⟨ls, qs, gs⟩ := s2
        obtain ⟨f, g, hqs⟩ := hq2.2
        obtain rfl : qs = _ := hqs
        have hc2 : chk ⟨ls, [⟨1, A, f⟩, ⟨5, B ++ [c.v], g⟩], gs⟩ = 0 := hq2.1
        have hq2 : QInv ⟨ls, [⟨1, A, f⟩, ⟨5, B ++ [c.v], g⟩], gs⟩ (A) (B ++ [c.v]) := hq2
        have hf2 : Fits ⟨ls, [⟨1, A, f⟩, ⟨5, B ++ [c.v], g⟩], gs⟩ := hf2
        have hlen := hq2.len
        have hll : ls.length < 4294967296 := hf2.1
        have h6 : ¬ (5 : Int) < (B.length : Int) + 1 := by
          have := hlen.2.2
          rw [List.length_append] at this
          simp only [List.length_cons, List.length_nil] at this
          omega
        simp
        refine ⟨⟨by omega, by kernel_rfl, ?_⟩, ⟨by omega, by kernel_rfl, ?_⟩⟩
        · -- made anew
          refine effCall (q := .i (chk ⟨ls, [⟨1, A, f⟩, ⟨5, B ++ [c.v], g⟩], gs⟩)) (by simpa using check_m ⟨ls, [⟨1, A, f⟩, ⟨5, B ++ [c.v], g⟩], gs⟩ hf2) ?_
          simp [hc2, h6]
          refine ⟨by kernel_rfl, ?_⟩
          refine vc_loop (fun m' σ => ∃ j : Nat, m' = ls.length - j ∧ j ≤ ls.length ∧ σ = ⟨191, [(17, .i j), (6, .i k), (5, .ptr 5 0), (3, .ptr 3 0), (0, .d (cas l))], qmem ⟨ls, [⟨1, A, f⟩, ⟨5, B ++ [c.v], g⟩], gs⟩ (A) (B ++ [c.v]) (P) ([])⟩) ?_ ?_
          · exact ⟨_, _, ⟨0, rfl, Nat.zero_le _, rfl⟩, [], _, rfl, by simp [qmem]⟩
          rintro m' σ ⟨j, rfl, hj, rfl⟩
          by_cases hjl : j < ls.length
          · obtain ⟨x, hx, ex⟩ := at_lt hjl
            have hno := hq2.lock x (List.mem_of_getElem? hx)
            have hwj := wrap_succ hjl hll
            by_cases hh : 0 < x.hold
            · have hr : x.rd.length = 0 := by omega
              simp [qmem, hjl, ex, hh, hr, hwj]
              exact ⟨_, by omega, _, ⟨j + 1, rfl, hjl, rfl⟩, [], _, rfl, by simp⟩
            · simp [qmem, hjl, ex, hh, hwj]
              exact ⟨_, by omega, _, ⟨j + 1, rfl, hjl, rfl⟩, [], _, rfl, by simp⟩
          obtain rfl : j = ls.length := by omega
          simp [qmem, hwk]
          exact ⟨_, by omega, _, ⟨k + 1, rfl, hlt, ⟨ls, _, gs⟩, hf2, A, B ++ [c.v], hq2, P, [], rfl⟩, [], _, rfl, by simp⟩
        · -- room
          refine effCall (q := .i (chk ⟨ls, [⟨1, A, f⟩, ⟨5, B ++ [c.v], g⟩], gs⟩)) (by simpa using check_m ⟨ls, [⟨1, A, f⟩, ⟨5, B ++ [c.v], g⟩], gs⟩ hf2) ?_
          simp [hc2, h6]
          refine ⟨by kernel_rfl, ?_⟩
          refine vc_loop (fun m' σ => ∃ j : Nat, m' = ls.length - j ∧ j ≤ ls.length ∧ σ = ⟨191, [(17, .i j), (6, .i k), (5, .ptr 5 0), (3, .ptr 3 0), (0, .d (cas l))], qmem ⟨ls, [⟨1, A, f⟩, ⟨5, B ++ [c.v], g⟩], gs⟩ (A) (B ++ [c.v]) (P) (Q)⟩) ?_ ?_
          · exact ⟨_, _, ⟨0, rfl, Nat.zero_le _, rfl⟩, [], _, rfl, by simp [qmem]⟩
          rintro m' σ ⟨j, rfl, hj, rfl⟩
          by_cases hjl : j < ls.length
          · obtain ⟨x, hx, ex⟩ := at_lt hjl
            have hno := hq2.lock x (List.mem_of_getElem? hx)
            have hwj := wrap_succ hjl hll
            by_cases hh : 0 < x.hold
            · have hr : x.rd.length = 0 := by omega
              simp [qmem, hjl, ex, hh, hr, hwj]
              exact ⟨_, by omega, _, ⟨j + 1, rfl, hjl, rfl⟩, [], _, rfl, by simp⟩
            · simp [qmem, hjl, ex, hh, hwj]
              exact ⟨_, by omega, _, ⟨j + 1, rfl, hjl, rfl⟩, [], _, rfl, by simp⟩
          obtain rfl : j = ls.length := by omega
          simp [qmem, hwk]
          exact ⟨_, by omega, _, ⟨k + 1, rfl, hlt, ⟨ls, _, gs⟩, hf2, A, B ++ [c.v], hq2, P, Q, rfl⟩, [], _, rfl, by simp⟩
      · have hq2 : QInv (onQueue s 1 (sendF c.v)).1 A B := by rw [hq.sendE1 he]; exact hq
        have hf2 : Fits (onQueue s 1 (sendF c.v)).1 := hf.queue (sendF_len _)
        generalize (onQueue s 1 (sendF c.v)).2 = er at *
        generalize (onQueue s 1 (sendF c.v)).1 = s2 at *
        obtain ⟨ls, qs, gs⟩ := s2
        obtain ⟨f, g, hqs⟩ := hq2.2
        obtain rfl : qs = _ := hqs
        have hc2 : chk ⟨ls, [⟨1, A, f⟩, ⟨5, B, g⟩], gs⟩ = 0 := hq2.1
        have hq2 : QInv ⟨ls, [⟨1, A, f⟩, ⟨5, B, g⟩], gs⟩ (A) (B) := hq2
        have hf2 : Fits ⟨ls, [⟨1, A, f⟩, ⟨5, B, g⟩], gs⟩ := hf2
        have hlen := hq2.len
        have hll : ls.length < 4294967296 := hf2.1
        have h6 : ¬ (5 : Int) < (B.length : Int) := by omega
        simp [he]
        refine effCall (check_m _ hf2) ?_
        simp [hc2, h6]
        refine ⟨by kernel_rfl, ?_⟩
        refine vc_loop (fun m' σ => ∃ j : Nat, m' = ls.length - j ∧ j ≤ ls.length ∧ σ = ⟨191, [(17, .i j), (6, .i k), (5, .ptr 5 0), (3, .ptr 3 0), (0, .d (cas l))], qmem ⟨ls, [⟨1, A, f⟩, ⟨5, B, g⟩], gs⟩ (A) (B) (P) (Q)⟩) ?_ ?_
        · exact ⟨_, _, ⟨0, rfl, Nat.zero_le _, rfl⟩, [], _, rfl, by simp [qmem]⟩
        rintro m' σ ⟨j, rfl, hj, rfl⟩
        by_cases hjl : j < ls.length
        · obtain ⟨x, hx, ex⟩ := at_lt hjl
          have hno := hq2.lock x (List.mem_of_getElem? hx)
          have hwj := wrap_succ hjl hll
          by_cases hh : 0 < x.hold
          · have hr : x.rd.length = 0 := by omega
            simp [qmem, hjl, ex, hh, hr, hwj]
            exact ⟨_, by omega, _, ⟨j + 1, rfl, hjl, rfl⟩, [], _, rfl, by simp⟩
          · simp [qmem, hjl, ex, hh, hwj]
            exact ⟨_, by omega, _, ⟨j + 1, rfl, hjl, rfl⟩, [], _, rfl, by simp⟩
        obtain rfl : j = ls.length := by omega
        simp [qmem, hwk]
        exact ⟨_, by omega, _, ⟨k + 1, rfl, hlt, ⟨ls, _, gs⟩, hf2, A, B, hq2, P, Q, rfl⟩, [], _, rfl, by simp⟩
    by_cases h6 : c.what % 10 = 6
    · obtain ⟨r1, r2, hq2, r3⟩ := hq.recv1
      have hf2 : Fits (onQueue s 1 recvF).1 := hf.queue recvF_len
      cases B with
      | nil =>
        simp [qmem, hlt, e, hrem, hqo, h0, h6]
        refine (recv_m s hf 1).mono ?_
        rintro _ rfl
        rw [r1, r2]
        generalize (onQueue s 1 recvF).2 = er at *
        generalize (onQueue s 1 recvF).1 = s2 at *
        obtain ⟨ls, qs, gs⟩ := s2
        obtain ⟨f, g, hqs⟩ := hq2.2
        obtain rfl : qs = _ := hqs
        have hc2 : chk ⟨ls, [⟨1, A, f⟩, ⟨5, [], g⟩], gs⟩ = 0 := hq2.1
        have hq2 : QInv ⟨ls, [⟨1, A, f⟩, ⟨5, [], g⟩], gs⟩ (A) ([]) := hq2
        have hf2 : Fits ⟨ls, [⟨1, A, f⟩, ⟨5, [], g⟩], gs⟩ := hf2
        have hlen := hq2.len
        have hll : ls.length < 4294967296 := hf2.1
        simp
        refine effCall (check_m _ hf2) ?_
        simp [hc2]
        refine ⟨by kernel_rfl, ?_⟩
        refine vc_loop (fun m' σ => ∃ j : Nat, m' = ls.length - j ∧ j ≤ ls.length ∧ σ = ⟨191, [(17, .i j), (6, .i k), (5, .ptr 5 0), (3, .ptr 3 0), (0, .d (cas l))], qmem ⟨ls, [⟨1, A, f⟩, ⟨5, [], g⟩], gs⟩ (A) ([]) (P) (Q)⟩) ?_ ?_
        · exact ⟨_, _, ⟨0, rfl, Nat.zero_le _, rfl⟩, [], _, rfl, by simp [qmem]⟩
        rintro m' σ ⟨j, rfl, hj, rfl⟩
        by_cases hjl : j < ls.length
        · obtain ⟨x, hx, ex⟩ := at_lt hjl
          have hno := hq2.lock x (List.mem_of_getElem? hx)
          have hwj := wrap_succ hjl hll
          by_cases hh : 0 < x.hold
          · have hr : x.rd.length = 0 := by omega
            simp [qmem, hjl, ex, hh, hr, hwj]
            exact ⟨_, by omega, _, ⟨j + 1, rfl, hjl, rfl⟩, [], _, rfl, by simp⟩
          · simp [qmem, hjl, ex, hh, hwj]
            exact ⟨_, by omega, _, ⟨j + 1, rfl, hjl, rfl⟩, [], _, rfl, by simp⟩
        obtain rfl : j = ls.length := by omega
        simp [qmem, hwk]
        exact ⟨_, by omega, _, ⟨k + 1, rfl, hlt, ⟨ls, _, gs⟩, hf2, A, [], hq2, P, Q, rfl⟩, [], _, rfl, by simp⟩
      | cons x B =>
        have r3 := r3 (by simp)
        simp [qmem, hlt, e, hrem, hqo, h0, h6]
        refine (recv_m s hf 1).mono ?_
        rintro _ rfl
        rw [r1, r2, r3]
        generalize (onQueue s 1 recvF).1 = s2 at *
        obtain ⟨ls, qs, gs⟩ := s2
        obtain ⟨f, g, hqs⟩ := hq2.2
        obtain rfl : qs = _ := hqs
        have hc2 : chk ⟨ls, [⟨1, A, f⟩, ⟨5, B, g⟩], gs⟩ = 0 := hq2.1
        have hq2 : QInv ⟨ls, [⟨1, A, f⟩, ⟨5, B, g⟩], gs⟩ (A) (B) := hq2
        have hf2 : Fits ⟨ls, [⟨1, A, f⟩, ⟨5, B, g⟩], gs⟩ := hf2
        have hlen := hq2.len
        have hll : ls.length < 4294967296 := hf2.1
        have h7 : ¬ (5 : Int) < (B.length : Int) := by simp at hb; omega
        have hz : ¬ ((B.length : Int) + 1 = 0) := by omega
        have h1 : (1 : Int) ≤ (B.length : Int) + 1 := by omega
        simp [hz, h1]
        refine effCall (check_m _ hf2) ?_
        simp [hc2, h7]
        refine ⟨by kernel_rfl, ?_⟩
        refine vc_loop (fun m' σ => ∃ j : Nat, m' = ls.length - j ∧ j ≤ ls.length ∧ σ = ⟨191, [(17, .i j), (6, .i k), (5, .ptr 5 0), (3, .ptr 3 0), (0, .d (cas l))], qmem ⟨ls, [⟨1, A, f⟩, ⟨5, B, g⟩], gs⟩ (A) (B) (P) (Q ++ [x])⟩) ?_ ?_
        · exact ⟨_, _, ⟨0, rfl, Nat.zero_le _, rfl⟩, [], _, rfl, by simp [qmem]⟩
        rintro m' σ ⟨j, rfl, hj, rfl⟩
        by_cases hjl : j < ls.length
        · obtain ⟨x, hx, ex⟩ := at_lt hjl
          have hno := hq2.lock x (List.mem_of_getElem? hx)
          have hwj := wrap_succ hjl hll
          by_cases hh : 0 < x.hold
          · have hr : x.rd.length = 0 := by omega
            simp [qmem, hjl, ex, hh, hr, hwj]
            exact ⟨_, by omega, _, ⟨j + 1, rfl, hjl, rfl⟩, [], _, rfl, by simp⟩
          · simp [qmem, hjl, ex, hh, hwj]
            exact ⟨_, by omega, _, ⟨j + 1, rfl, hjl, rfl⟩, [], _, rfl, by simp⟩
        obtain rfl : j = ls.length := by omega
        simp [qmem, hwk]
        exact ⟨_, by omega, _, ⟨k + 1, rfl, hlt, ⟨ls, _, gs⟩, hf2, A, B, hq2, P, Q ++ [x], rfl⟩, [], _, rfl, by simp⟩
    by_cases h7 : c.what % 10 = 7
    · have hq2 := hq.shut1
      have hf2 : Fits (onQueue s 1 shutF).1 := hf.queue shutF_len
      have h8 : ¬ (5 : Int) < (B.length : Int) := by omega
      simp [qmem, hlt, e, hrem, hqo, h0, h7]
      refine (shut_m s hf 1).mono ?_
      rintro _ rfl
      generalize (onQueue s 1 shutF).2 = er at *
      generalize (onQueue s 1 shutF).1 = s2 at *
      obtain ⟨ls, qs, gs⟩ := s2
      obtain ⟨f, g, hqs⟩ := hq2.2
      obtain rfl : qs = _ := hqs
      have hc2 : chk ⟨ls, [⟨1, A, f⟩, ⟨5, B, g⟩], gs⟩ = 0 := hq2.1
      have hq2 : QInv ⟨ls, [⟨1, A, f⟩, ⟨5, B, g⟩], gs⟩ (A) (B) := hq2
      have hf2 : Fits ⟨ls, [⟨1, A, f⟩, ⟨5, B, g⟩], gs⟩ := hf2
      have hlen := hq2.len
      have hll : ls.length < 4294967296 := hf2.1
      simp
      refine effCall (check_m _ hf2) ?_
      simp [hc2, h8]
      refine ⟨by kernel_rfl, ?_⟩
      refine vc_loop (fun m' σ => ∃ j : Nat, m' = ls.length - j ∧ j ≤ ls.length ∧ σ = ⟨191, [(17, .i j), (6, .i k), (5, .ptr 5 0), (3, .ptr 3 0), (0, .d (cas l))], qmem ⟨ls, [⟨1, A, f⟩, ⟨5, B, g⟩], gs⟩ (A) (B) (P) (Q)⟩) ?_ ?_
      · exact ⟨_, _, ⟨0, rfl, Nat.zero_le _, rfl⟩, [], _, rfl, by simp [qmem]⟩
      rintro m' σ ⟨j, rfl, hj, rfl⟩
      by_cases hjl : j < ls.length
      · obtain ⟨x, hx, ex⟩ := at_lt hjl
        have hno := hq2.lock x (List.mem_of_getElem? hx)
        have hwj := wrap_succ hjl hll
        by_cases hh : 0 < x.hold
        · have hr : x.rd.length = 0 := by omega
          simp [qmem, hjl, ex, hh, hr, hwj]
          exact ⟨_, by omega, _, ⟨j + 1, rfl, hjl, rfl⟩, [], _, rfl, by simp⟩
        · simp [qmem, hjl, ex, hh, hwj]
          exact ⟨_, by omega, _, ⟨j + 1, rfl, hjl, rfl⟩, [], _, rfl, by simp⟩
      obtain rfl : j = ls.length := by omega
      simp [qmem, hwk]
      exact ⟨_, by omega, _, ⟨k + 1, rfl, hlt, ⟨ls, _, gs⟩, hf2, A, B, hq2, P, Q, rfl⟩, [], _, rfl, by simp⟩
    have hq2 := hq.do h5 h6 h7
    have hf2 := hf.doS c
    have h8 : ¬ (5 : Int) < (B.length : Int) := by omega
    simp [qmem, hlt, e, hrem, hqo, h0, h5, h6, h7]
    refine (do_m s hf c hcw).mono ?_
    rintro _ rfl
    generalize doS s c = s2 at *
    obtain ⟨ls, qs, gs⟩ := s2
    obtain ⟨f, g, hqs⟩ := hq2.2
    obtain rfl : qs = _ := hqs
    have hc2 : chk ⟨ls, [⟨1, A, f⟩, ⟨5, B, g⟩], gs⟩ = 0 := hq2.1
    have hq2 : QInv ⟨ls, [⟨1, A, f⟩, ⟨5, B, g⟩], gs⟩ (A) (B) := hq2
    have hf2 : Fits ⟨ls, [⟨1, A, f⟩, ⟨5, B, g⟩], gs⟩ := hf2
    have hlen := hq2.len
    have hll : ls.length < 4294967296 := hf2.1
    simp
    refine effCall (check_m _ hf2) ?_
    simp [hc2, h8]
    refine ⟨by kernel_rfl, ?_⟩
    refine vc_loop (fun m' σ => ∃ j : Nat, m' = ls.length - j ∧ j ≤ ls.length ∧ σ = ⟨191, [(17, .i j), (6, .i k), (5, .ptr 5 0), (3, .ptr 3 0), (0, .d (cas l))], qmem ⟨ls, [⟨1, A, f⟩, ⟨5, B, g⟩], gs⟩ (A) (B) (P) (Q)⟩) ?_ ?_
    · exact ⟨_, _, ⟨0, rfl, Nat.zero_le _, rfl⟩, [], _, rfl, by simp [qmem]⟩
    rintro m' σ ⟨j, rfl, hj, rfl⟩
    by_cases hjl : j < ls.length
    · obtain ⟨x, hx, ex⟩ := at_lt hjl
      have hno := hq2.lock x (List.mem_of_getElem? hx)
      have hwj := wrap_succ hjl hll
      by_cases hh : 0 < x.hold
      · have hr : x.rd.length = 0 := by omega
        simp [qmem, hjl, ex, hh, hr, hwj]
        exact ⟨_, by omega, _, ⟨j + 1, rfl, hjl, rfl⟩, [], _, rfl, by simp⟩
      · simp [qmem, hjl, ex, hh, hwj]
        exact ⟨_, by omega, _, ⟨j + 1, rfl, hjl, rfl⟩, [], _, rfl, by simp⟩
    obtain rfl : j = ls.length := by omega
    simp [qmem, hwk]
    exact ⟨_, by omega, _, ⟨k + 1, rfl, hlt, ⟨ls, _, gs⟩, hf2, A, B, hq2, P, Q, rfl⟩, [], _, rfl, by simp⟩
end Go.Proofs.Ytnkoibhjnahkiaa
