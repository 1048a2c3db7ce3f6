/- Contract: the statement IdleOnce. No condition. -/
import Derived.Test.YtjbpkibhkaagjaaI17
namespace Go.Proofs.Ytjbpkibhkaagjaa
open Go.RowKit

theorem word_rem {a : Int} (h : 0 ≤ a ∧ a ≤ 65535) : ∃ n : Nat, a.tmod 65 = (n : Int) ∧ n ≤ 64 := by
  refine ⟨(a % 65).toNat, ?_, ?_⟩
  · rw [Int.tmod_eq_emod_of_nonneg h.1]; omega
  · omega
theorem some_perm {s : St} {now : Int} {L : List Cn} {y : Cn} (h0 : left s now = L ++ [y]) : L.Sublist s.cs ∧ ((shut s now ++ [y.conn]) ++ conns L).Perm (conns s.cs) := by
  have hp := reap_perm s now
  refine ⟨?_, ?_⟩
  · have := left_sub s now
    rw [h0] at this
    exact (List.sublist_append_left L [y]).trans this
  · rw [h0] at hp
    refine List.Perm.trans ?_ hp
    rw [List.append_assoc]
    refine List.Perm.append_left _ ?_
    rw [conns, conns, List.map_append]
    exact List.perm_append_comm
theorem check_v {s : St} (h : Good s) : Meets Try.prog 25 [s.pv] [] (Ret (.i 0)) := by
  have := check_m s (by have := h.short; omega)
  rw [chk_good.2 h] at this
  exact this
theorem remove_v {s t : St} {c : Cn} {n e : Int} (h : remove s n = (t, c, e)) (hl : s.cs.length < 4294967296) : Meets Try.prog 26 [s.pv, .i n] [] (Ret (.tup [t.pv, c.pv, .i e])) := by
  have := remove_m s n hl
  rw [h] at this
  exact this
theorem drain_v {s t : St} {e : Int} {l : List Int} (h : drain s = (t, l, e)) (hl : s.cs.length < 4294967296) : Meets Try.prog 27 [s.pv] [] (Ret (.tup [t.pv, .d (nl l), .i e])) := by
  have := drain_m s hl
  rw [h] at this
  exact this
theorem At.start {m i a : Int} (h : nums m i a = true) : At ⟨m, i, a, []⟩ 0 :=
  ⟨⟨h, rfl, by simp only [nums, inB, Bool.and_eq_true, decide_eq_true_eq] at h; simpa using h.1.1, List.Pairwise.nil, List.Pairwise.nil⟩, Int.le_refl _, by omega, fun x hx => by cases hx⟩
set_option maxRecDepth 100000 in
set_option maxHeartbeats 16000000 in
theorem once_m (a b c : Int) (l : List Cal) (ha : 0 ≤ a ∧ a ≤ 65535) (hb : 0 ≤ b ∧ b ≤ 65535) (hc : 0 ≤ c ∧ c ≤ 65535) (hw : ∀ c ∈ l, 0 ≤ c.what) : Meets Try.prog 9 [.agg [.d (.v (.int .u16 a)), .d (.v (.int .u16 b)), .d (.v (.int .u16 c))], .d (cals l)] [] (Ret (.b true)) := by
  refine meetsH [] tbOk mixed Try.func9 pl9 rfl rfl ?_
  obtain ⟨n, en, hn⟩ := word_rem ha
  have w1 := small_wrap (a := a) (by omega)
  have w2 := small_wrap (a := b) (by omega)
  have w3 := small_wrap (a := c) (by omega)
  have w4 := small_wrap (a := 1 + b) (by omega)
  have w5 := small_wrap (a := 1 + c) (by omega)
  have hnum : nums (n : Int) (1 + b) (1 + c) = true := by simp [nums, inB]; omega
  have e0 : new (n : Int) (1 + b) (1 + c) = (⟨n, 1 + b, 1 + c, []⟩, 0) := by simp [new, hnum]
  simp [Try.ntmps9, w1, w2, w3, w4, w5, en]
  refine (new_v e0).mono ?_
  rintro _ rfl
  by_cases h100 : (100 : Int) < l.length
  · simp [h100]
    refine awake_m.mono ?_
    rintro _ rfl
    simp
    refine vcRet_of [] ?_ rfl
    simp
  simp [h100]
  have v1 : IntKind.i64.wrap 1 = 1 := by decide
  refine vc_loop (fun q σ => ∃ (i nx : Nat) (now : Int) (s : St) (G : List Int), q = l.length - i ∧ i ≤ l.length ∧ 1 ≤ nx ∧ nx ≤ 1 + i ∧ now ≤ 49 * i ∧ At s now ∧ Inv G nx (conns s.cs) ∧ σ = ⟨277, [(10, .i i), (7, .i now), (8, .i nx), (5, .ptr 5 0), (9, .rw 48 200), (1, .d (cals l))], [(5, s.box), (48, .row 3 1 (G.map nds) false)]⟩) ?_ ?_
  · exact ⟨_, _, ⟨0, 1, 0, ⟨n, 1 + b, 1 + c, []⟩, List.replicate 200 0, rfl, Nat.zero_le _, Nat.le_refl _, Nat.le_refl _, Int.le_refl _, At.start hnum, Inv.start, rfl⟩, [], _, rfl, by simp⟩
  rintro q σ ⟨i, nx, now, s, G, rfl, hi, hx1, hx2, hn2, hat, hinv, rfl⟩
  by_cases hlt : i < l.length
  · obtain ⟨x, hx, e⟩ := at_lt hlt
    obtain ⟨d, ed, hd⟩ : ∃ d : Int, max (x.now.tmod 50) 0 = d ∧ 0 ≤ d ∧ d ≤ 49 := by
      have := Int.tmod_lt_of_pos x.now (show (0 : Int) < 50 by omega)
      exact ⟨_, rfl, by omega, by omega⟩
    have hlo := hat.lo
    have w1 := small_wrap (a := now + d) (by omega)
    have hat' : At s (now + d) := hat.later (by omega) (by omega)
    have hw' := hw x (List.mem_of_getElem? hx)
    rw [vc_seq, vc_seq]
    simp [-vc_seq, hlt]
    rw [vc_seq, vc_block, vc_seq]
    simp [-vc_seq, hlt, e, ed, w1]
    rw [vc_seq]
    simp [-vc_seq]
    refine vc_join (fun σ' => ∃ (nx' : Nat) (s' : St) (out : List Int) (G' : List Int), nx' ≤ 2 + i ∧ 1 ≤ nx' ∧ At s' (now + d) ∧ out.length ≤ 200 ∧ Inv G' nx' (out ++ conns s'.cs) ∧ Later σ' ⟨277, [(22, .i 0), (10, .i i), (7, .i (now + d)), (8, .i nx'), (5, .ptr 5 0), (9, .rw 48 200), (1, .d (cals l)), (11, .d (nl out))], [(5, s'.box), (48, .row 3 1 (G'.map nds) false)]⟩) ?_ ?_
    · rintro σ' ⟨nx', s', out, G', hx3, hx4, hat2, hol, hinv', hlat⟩
      rw [vc_block]
      refine vc_loop (fun q σ => ∃ (k : Nat) (G : List Int), q = out.length - k ∧ k ≤ out.length ∧ Inv G nx' (out.drop k ++ conns s'.cs) ∧ σ = ⟨277, [(22, .i k), (10, .i i), (7, .i (now + d)), (8, .i nx'), (5, .ptr 5 0), (9, .rw 48 200), (1, .d (cals l)), (11, .d (nl out))], [(5, s'.box), (48, .row 3 1 (G.map nds) false)]⟩) ⟨_, _, ⟨0, G', rfl, Nat.zero_le _, hinv', rfl⟩, hlat⟩ ?_
      rintro q σ ⟨k, G, rfl, hk, hi3, rfl⟩
      by_cases hko : k < out.length
      · obtain ⟨y, hy, ey⟩ := at_lt hko
        have hdr : out.drop k = y :: out.drop (k + 1) := by
          rw [List.drop_eq_getElem_cons hko, ey]
        rw [hdr, List.cons_append] at hi3
        obtain ⟨c, c1, c2, c3, c4, c5, c6⟩ := hi3.pop
        have hgl := hi3.len
        have c7 : ¬ ((c : Int) < 1) := by omega
        have c8 : ¬ ((nx' : Int) ≤ c) := by omega
        have c9 : (c : Int) < 200 := by omega
        obtain ⟨v, hv, ev⟩ := at_lt (show c < G.length by omega)
        obtain rfl : v = 0 := Option.some.inj (hv.symm.trans c5)
        simp [hko, ey, c1, c7, c8, c4, c9, ev, hgl, v1, wrap_succ hko (show out.length < 4294967296 by omega)]
        refine ⟨_, ?_, _, ⟨k + 1, rfl, hko, _, c6, rfl⟩, [], _, rfl, by simp⟩
        omega
      obtain rfl : k = out.length := by omega
      have d1 : ¬ (s'.most < (s'.cs.length : Int)) := by have := hat2.long; omega
      simp [d1]
      refine (check_v hat2.toGood).mono ?_
      rintro _ rfl
      simp [wrap_succ hlt (show l.length < 4294967296 by omega)]
      refine ⟨_, ?_, _, ⟨i + 1, rfl, hlt, nx', hx4, by omega, now + d, by omega, s', hat2, G, by simpa using hi3, rfl⟩, [], _, rfl, by simp⟩
      omega
    intro T' hT'
    have hws := hat'.short
    have hl' : s.cs.length < 4294967296 := by omega
    have hout : ∀ {out : List Int} {t : St}, (out ++ conns t.cs).Perm (conns s.cs) → out.length ≤ 200 := fun hp => by
      have := hp.length_eq
      simp only [List.length_append, conns, List.length_map] at this
      omega
    by_cases h4 : x.what % 10 = 4
    · simp [hlt, e, Cal.rem h4 hw']
      rcases List.eq_nil_or_concat (left s (now + d)) with hL | ⟨L, y, hL⟩
      · refine (take_none_r s (now + d) hl' hat'.rdy rfl hL).mono ?_
        rintro _ rfl
        have hp := reap_perm s (now + d)
        rw [hL] at hp
        simp
        exact hT' _ ⟨nx, ⟨s.most, s.idle, s.age, []⟩, shut s (now + d), G, by omega, hx1, hat'.sub (List.nil_sublist _), hout (t := ⟨s.most, s.idle, s.age, []⟩) hp, hinv.perm hp.symm, [.view 11], _, (by simp [Prep.all, Prep.run]; rfl), by simp; exact List.take_of_length_le (by simp)⟩
      · rw [List.concat_eq_append] at hL
        refine (take_some_r s (now + d) hl' hat'.rdy rfl hL).mono ?_
        rintro _ rfl
        obtain ⟨hsub, hp⟩ := some_perm hL
        have hsl := shut_len s (now + d)
        simp
        refine ⟨by omega, ?_⟩
        exact hT' _ ⟨nx, ⟨s.most, s.idle, s.age, L⟩, shut s (now + d) ++ [y.conn], G, by omega, hx1, hat'.sub hsub, hout (t := ⟨s.most, s.idle, s.age, L⟩) hp, hinv.perm hp.symm, [.view 11], _, (by simp [Prep.all, Prep.run]; rfl), by simp; exact List.take_of_length_le (by simp)⟩
    by_cases h5 : x.what % 10 = 5
    · simp [hlt, e, Cal.rem h5 hw']
      rcases List.eq_nil_or_concat (left s (now + d)) with hL | ⟨L, y, hL⟩
      · refine (take_none_r s (now + d) hl' hat'.rdy rfl hL).mono ?_
        rintro _ rfl
        have hp := reap_perm s (now + d)
        rw [hL] at hp
        simp
        exact hT' _ ⟨nx, ⟨s.most, s.idle, s.age, []⟩, shut s (now + d), G, by omega, hx1, hat'.sub (List.nil_sublist _), hout (t := ⟨s.most, s.idle, s.age, []⟩) hp, hinv.perm hp.symm, [.view 11], _, (by simp [Prep.all, Prep.run]; rfl), by simp; exact List.take_of_length_le (by simp)⟩
      · rw [List.concat_eq_append] at hL
        refine (take_some_r s (now + d) hl' hat'.rdy rfl hL).mono ?_
        rintro _ rfl
        obtain ⟨hsub, hp⟩ := some_perm hL
        have hsl := shut_len s (now + d)
        simp
        refine ⟨by omega, ?_⟩
        exact hT' _ ⟨nx, ⟨s.most, s.idle, s.age, L⟩, shut s (now + d) ++ [y.conn], G, by omega, hx1, hat'.sub hsub, hout (t := ⟨s.most, s.idle, s.age, L⟩) hp, hinv.perm hp.symm, [.view 11], _, (by simp [Prep.all, Prep.run]; rfl), by simp; exact List.take_of_length_le (by simp)⟩
    by_cases h6 : x.what % 10 = 6
    · simp [hlt, e, Cal.rem h6 hw']
      refine (reap_v hat'.reap hl').mono ?_
      rintro _ rfl
      have hp := reap_perm s (now + d)
      simp
      exact hT' _ ⟨nx, ⟨s.most, s.idle, s.age, left s (now + d)⟩, shut s (now + d), G, by omega, hx1, hat'.sub (left_sub _ _), hout (t := ⟨s.most, s.idle, s.age, left s (now + d)⟩) hp, hinv.perm hp.symm, [], _, rfl, by simp⟩
    by_cases h9 : x.what % 10 = 9
    · simp [hlt, e, Cal.rem h9 hw']
      refine (reap_v hat'.reap hl').mono ?_
      rintro _ rfl
      have hp := reap_perm s (now + d)
      simp
      exact hT' _ ⟨nx, ⟨s.most, s.idle, s.age, left s (now + d)⟩, shut s (now + d), G, by omega, hx1, hat'.sub (left_sub _ _), hout (t := ⟨s.most, s.idle, s.age, left s (now + d)⟩) hp, hinv.perm hp.symm, [], _, rfl, by simp⟩
    by_cases h7 : x.what % 10 = 7
    · have hn0 : ¬ nx = 0 := by omega
      simp [hlt, e, Cal.rem h7 hw', hn0]
      rcases remove_cases hat'.toGood (max (x.conn.tmod nx) 0) with hs | ⟨k, y, hy, hs, hp⟩
      · refine effCall (remove_v hs hl') ?_
        simp
        refine ⟨by kernel_rfl, ?_⟩
        exact hT' _ ⟨nx, s, [], G, by omega, hx1, hat', by simp, hinv, [.data 11 1], _, rfl, by simp⟩
      · refine effCall (remove_v hs hl') ?_
        simp
        refine ⟨by kernel_rfl, ?_⟩
        exact hT' _ ⟨nx, ⟨s.most, s.idle, s.age, s.cs.eraseIdx k⟩, [y.conn], G, by omega, hx1, hat'.sub (List.eraseIdx_sublist ..), by simp, hinv.perm hp.symm, [.view 11], _, (by simp [Prep.all, Prep.run]; rfl), by simp⟩
    by_cases h8 : x.what % 10 = 8
    · obtain ⟨t, C, hr, ht, hp⟩ := resize_at hat' (m := max (x.born.tmod 65) 0) (by
        have := Int.tmod_lt_of_pos x.born (show (0 : Int) < 65 by omega)
        omega)
      simp [hlt, e, Cal.rem h8 hw']
      refine effCall (resize_v hr hl') ?_
      simp
      refine ⟨by kernel_rfl, ?_⟩
      exact hT' _ ⟨nx, t, C, G, by omega, hx1, ht, hout hp, hinv.perm hp.symm, [], _, rfl, by simp⟩
    have g : x.what.tmod 10 = x.what % 10 := Int.tmod_eq_emod_of_nonneg hw'
    obtain ⟨f, ef, hf⟩ : ∃ f : Int, max (x.born.tmod 50) 0 = f ∧ 0 ≤ f ∧ f ≤ 49 := by
      have := Int.tmod_lt_of_pos x.born (show (0 : Int) < 50 by omega)
      exact ⟨_, rfl, by omega, by omega⟩
    have w6 := small_wrap (a := now + d - f) (by omega)
    have w7 := small_wrap (a := (nx : Int) + 1) (by omega)
    obtain ⟨t, C, hr, ht, hp, hC⟩ := put_at hat' (n := nx) (b := max (now + d - f) 0) (by omega) (by omega) (fun y hy => by have := hinv.range y.conn (List.mem_map.2 ⟨y, hy, rfl⟩); omega)
    simp [hlt, e, g, h4, h5, h6, h7, h8, h9, ef, w6]
    refine effCall (put_v hr hl') ?_
    simp [w7]
    refine ⟨by kernel_rfl, ?_⟩
    exact hT' _ ⟨nx + 1, t, C, G, by omega, by omega, ht, by omega, (hinv.push hx1 (by omega)).perm hp.symm, [], _, rfl, by simp⟩
  obtain rfl : i = l.length := by omega
  have hsh := hat.short
  have hdr : drain s = (⟨s.most, s.idle, s.age, []⟩, conns s.cs, 0) := by
    have := chk_good.2 hat.toGood
    simp [drain, this]
  obtain ⟨C, hC⟩ : ∃ C, conns s.cs = C := ⟨_, rfl⟩
  have hCl : C.length ≤ 64 := by rw [← hC]; simpa using hsh
  rw [hC] at hdr hinv
  simp
  refine (drain_v hdr (by omega)).mono ?_
  rintro _ rfl
  simp
  refine vc_loop (fun q σ => ∃ (k : Nat) (G : List Int), q = C.length - k ∧ k ≤ C.length ∧ Inv G nx (C.drop k) ∧ σ = ⟨277, [(24, .i k), (8, .i nx), (9, .rw 48 200), (23, .d (nl C)), (6, .i 0), (5, .ptr 5 0)], [(5, .box 24 [.i s.most, .i s.idle, .i s.age, .d (cl [])]), (48, .row 3 1 (G.map nds) false)]⟩) ⟨_, _, ⟨0, G, rfl, Nat.zero_le _, by simpa using hinv, rfl⟩, [], _, rfl, by simp⟩ ?_
  rintro q σ ⟨k, G, rfl, hk, hi3, rfl⟩
  by_cases hko : k < C.length
  · obtain ⟨y, hy, ey⟩ := at_lt hko
    have hdr : C.drop k = y :: C.drop (k + 1) := by
      rw [List.drop_eq_getElem_cons hko, ey]
    rw [hdr] at hi3
    obtain ⟨c, c1, c2, c3, c4, c5, c6⟩ := hi3.pop
    have hgl := hi3.len
    have c7 : ¬ ((c : Int) < 1) := by omega
    have c8 : ¬ ((nx : Int) ≤ c) := by omega
    have c9 : (c : Int) < 200 := by omega
    obtain ⟨v, hv, ev⟩ := at_lt (show c < G.length by omega)
    obtain rfl : v = 0 := Option.some.inj (hv.symm.trans c5)
    simp [hko, ey, c1, c7, c8, c4, c9, ev, hgl, v1, wrap_succ hko (show C.length < 4294967296 by omega)]
    refine ⟨_, ?_, _, ⟨k + 1, rfl, hko, _, c6, rfl⟩, [], _, rfl, by simp⟩
    omega
  obtain rfl : k = C.length := by omega
  rw [List.drop_length] at hi3
  have hgl := hi3.len
  simp
  refine vc_loop (fun q σ => ∃ k : Nat, q = nx - k ∧ 1 ≤ k ∧ k ≤ nx ∧ σ = ⟨277, [(25, .i k), (8, .i nx), (9, .rw 48 200), (6, .i 0), (5, .ptr 5 0)], [(5, .box 24 [.i s.most, .i s.idle, .i s.age, .d (cl [])]), (48, .row 3 1 (G.map nds) false)]⟩) ⟨_, _, ⟨1, rfl, Nat.le_refl _, hx1, rfl⟩, [], _, rfl, by simp⟩ ?_
  rintro q σ ⟨k, rfl, hk1, hk2, rfl⟩
  by_cases hkn : k < nx
  · obtain ⟨v, hv, ev⟩ := at_lt (show k < G.length by omega)
    obtain rfl : v = 1 := Option.some.inj (hv.symm.trans (hi3.over hk1 hkn))
    have k9 : (k : Int) < 200 := by omega
    have k8 : k < 200 := by omega
    simp [hkn, ev, hgl, k8, k9, wrap_succ hkn (show nx < 4294967296 by omega)]
    refine ⟨_, ?_, _, ⟨k + 1, rfl, by omega, hkn, rfl⟩, [], _, rfl, by simp⟩
    omega
  obtain rfl : k = nx := by omega
  simp
  refine awake_m.mono ?_
  rintro _ rfl
  simp
  refine vcRet_of [] ?_ rfl
  simp
end Go.Proofs.Ytjbpkibhkaagjaa
