/- Contract: the statement WaitersOnce. No condition. -/
import Derived.Test.YtajkljbcfgegoaaU15
import Derived.Test.YtajkljbcfgegoaaP5
namespace Go.Proofs.Ytajkljbcfgegoaa
open Go.RowKit

@[simp] def ics (n : Int) : List D := [.v (.int .i64 n)]
set_option maxRecDepth 100000 in
set_option maxHeartbeats 8000000 in
theorem once_m (a : Int) (l : List Cal) (ha : 0 ≤ a ∧ a ≤ 255) (hw : ∀ c ∈ l, 0 ≤ c.what) : Meets Try.prog 7 [.d (.v (.int .u8 a)), .d (cl l)] [] (Ret (.b true)) := by
  refine meetsS [] tbOk mixed Try.func7 pl7 rfl rfl ?_
  obtain ⟨n, en, hn⟩ := byte_rem ha
  have e0 : new (n : Int) = (⟨n, []⟩, 0) := by unfold new; rw [if_pos (by simp [room]; omega)]
  simp [Try.ntmps7, byte_wrap ha, en]
  refine (new_m n).mono ?_
  rintro _ rfl
  by_cases h100 : (100 : Int) < l.length
  · simp [e0, h100]
    refine awake_m.mono ?_
    rintro _ rfl
    simp
    refine vcRet_of [] ?_ rfl
    simp
  simp [e0, h100]
  refine vc_loop (fun q σ => ∃ (i nx : Nat) (now : Int) (s : St) (G : List Int), q = l.length - i ∧ i ≤ l.length ∧ 1 ≤ nx ∧ nx ≤ 1 + i ∧ now ≤ 19 * i ∧ At s now ∧ Inv G nx s.ws ∧ σ = ⟨257, [(10, .i i), (7, .i now), (8, .i nx), (5, .ptr 5 0), (9, .rw 40 200), (1, .d (cl l))], [(5, .box 24 [.i s.most, .d (wl s.ws)]), (40, .row 3 1 (G.map ics) false)]⟩) ?_ ?_
  · refine ⟨_, _, ⟨0, 1, 0, ⟨n, []⟩, List.replicate 200 0, rfl, Nat.zero_le _, Nat.le_refl _, Nat.le_refl _, Int.le_refl _, ⟨?_, Int.le_refl _, by omega, by simp⟩, Inv.start, rfl⟩, [], _, rfl, by simp⟩
    have := Good.new (n : Int)
    rw [e0] at this
    exact this
  rintro q σ ⟨i, nx, now, s, G, rfl, hi, hx1, hx2, hn2, hat, hinv, rfl⟩
  by_cases hlt : i < l.length
  · obtain ⟨x, hx, e⟩ := at_lt hlt
    obtain ⟨d, ed, hd⟩ : ∃ d : Int, max (x.now.tmod 20) 0 = d ∧ 0 ≤ d ∧ d ≤ 19 := by
      have := Int.tmod_lt_of_pos x.now (show (0 : Int) < 20 by omega)
      exact ⟨_, rfl, by omega, by omega⟩
    have hlo := hat.lo
    have w1 := IntWalk.i64_in (now + d) (by omega)
    have hat' : At s (now + d) := hat.later (by omega) (by omega)
    have hw' := hw x (List.mem_of_getElem? hx)
    rw [vc_seq, vc_seq]
    simp [-vc_seq, hlt]
    rw [vc_seq, vc_block, vc_seq]
    simp [-vc_seq, hlt, e, ed, w1]
    rw [vc_seq]
    simp [-vc_seq]
    refine vc_join (fun σ' => ∃ (nx' : Nat) (s' : St) (out : List Wt) (G' : List Int), nx' ≤ 2 + i ∧ 1 ≤ nx' ∧ At s' (now + d) ∧ out.length ≤ 200 ∧ Inv G' nx' (out ++ s'.ws) ∧ Later σ' ⟨257, [(20, .i 0), (10, .i i), (7, .i (now + d)), (8, .i nx'), (5, .ptr 5 0), (9, .rw 40 200), (1, .d (cl l)), (11, .d (wl out))], [(5, .box 24 [.i s'.most, .d (wl s'.ws)]), (40, .row 3 1 (G'.map ics) false)]⟩) ?_ ?_
    · rintro σ' ⟨nx', s', out, G', hx3, hx4, hat2, hol, hinv', hlat⟩
      rw [vc_block]
      refine vc_loop (fun q σ => ∃ (k : Nat) (G : List Int), q = out.length - k ∧ k ≤ out.length ∧ Inv G nx' (out.drop k ++ s'.ws) ∧ σ = ⟨257, [(20, .i k), (10, .i i), (7, .i (now + d)), (8, .i nx'), (5, .ptr 5 0), (9, .rw 40 200), (1, .d (cl l)), (11, .d (wl out))], [(5, .box 24 [.i s'.most, .d (wl s'.ws)]), (40, .row 3 1 (G.map ics) false)]⟩) ⟨_, _, ⟨0, G', rfl, Nat.zero_le _, hinv', rfl⟩, hlat⟩ ?_
      rintro q σ ⟨k, G, rfl, hk, hi3, rfl⟩
      by_cases hko : k < out.length
      · obtain ⟨y, hy, ey⟩ := at_lt hko
        have hdr : out.drop k = y :: out.drop (k + 1) := by
          rw [List.drop_eq_getElem_cons hko, ey]
        rw [hdr, List.cons_append] at hi3
        obtain ⟨c, c1, c2, c3, c4, c5, c6⟩ := hi3.pop
        have hgl := hi3.len
        have c7 : ¬ ((c : Int) < 1) := by omega
        have c8 : ¬ ((nx' : Int) ≤ c) := by omega
        have c9 : (c : Int) < 200 := by omega
        obtain ⟨v, hv, ev⟩ := at_lt (show c < G.length by omega)
        obtain rfl : v = -1 := Option.some.inj (hv.symm.trans c5)
        simp [hko, ey, c1, c7, c8, c4, c9, ev, hgl, wrap_succ hko (show out.length < 4294967296 by omega)]
        refine ⟨_, ?_, _, ⟨k + 1, rfl, hko, _, c6, rfl⟩, [], _, rfl, by simp⟩
        omega
      obtain rfl : k = out.length := by omega
      have d1 : ¬ (s'.most < (s'.ws.length : Int)) := by have := hat2.good.long; omega
      have d2 := hat2.good.short
      simp [d1]
      refine (check_m s' (by omega)).mono ?_
      rintro _ rfl
      simp [chk_good.2 hat2.good, wrap_succ hlt (show l.length < 4294967296 by omega)]
      refine ⟨_, ?_, _, ⟨i + 1, rfl, hlt, nx', hx4, by omega, now + d, by omega, s', hat2, G, by simpa using hi3, rfl⟩, [], _, rfl, by simp⟩
      omega
    intro T' hT'
    have hws := hat'.good.short
    have hsub : ∀ {out : List Wt} {t : St}, Good t → (out ++ t.ws).Perm s.ws → At t (now + d) := fun hg hp => hat'.sub hg fun z hz => hp.mem_iff.1 (List.mem_append_right _ hz)
    have hout : ∀ {out : List Wt} {t : St}, (out ++ t.ws).Perm s.ws → out.length ≤ 200 := fun hp => by
      have := hp.length_eq
      rw [List.length_append] at this
      omega
    by_cases h3 : x.what % 9 = 3
    · simp [hlt, e, Cal.rem h3 hw']
      refine (serve_m s (now + d) (by omega)).mono ?_
      rintro _ rfl
      rcases serve_cases hat' with hs | ⟨k, y, hy, hdy, hs, hp⟩
      · simp [hs]
        exact hT' _ ⟨nx, s, [], G, by omega, hx1, hat', by simp, hinv, [.data 11 3], _, rfl, by simp⟩
      · have h9 : ¬ (y.dead ≤ now + d) := by omega
        simp [hs, h9]
        exact hT' _ ⟨nx, ⟨s.most, s.ws.eraseIdx k⟩, [y], G, by omega, hx1, hsub (hat'.good.erase k) hp, by simp, hinv.perm hp.symm, [.view 11], _, rfl, by simp⟩
    by_cases h4 : x.what % 9 = 4
    · have hn0 : ¬ nx = 0 := by omega
      simp [hlt, e, Cal.rem h4 hw', hn0]
      refine effCall (cancel_m s _ (by omega)) ?_
      rcases cancel_cases hat'.good (max (x.call.tmod nx) 0) with hs | ⟨k, y, hy, hs, hp⟩
      · simp [hs]
        refine ⟨by kernel_rfl, ?_⟩
        exact hT' _ ⟨nx, s, [], G, by omega, hx1, hat', by simp, hinv, [.data 11 3], _, rfl, by simp⟩
      · simp [hs]
        refine ⟨by kernel_rfl, ?_⟩
        exact hT' _ ⟨nx, ⟨s.most, s.ws.eraseIdx k⟩, [y], G, by omega, hx1, hsub (hat'.good.erase k) hp, by simp, hinv.perm hp.symm, [.view 11], _, rfl, by simp⟩
    have hex : Meets Try.prog 15 [s.pv, .i (now + d)] [] (Ret (.tup [(expire s (now + d)).1.pv, .d (wl (expire s (now + d)).2.1), .i (expire s (now + d)).2.2])) := expire_m s _ (by omega)
    obtain ⟨hp5, _⟩ := expire_perm hat'
    have hT5 := fun σ => fun h => hT' σ ⟨nx, (expire s (now + d)).1, (expire s (now + d)).2.1, G, by omega, hx1, hsub (hat'.good.expire _) hp5, hout hp5, hinv.perm hp5.symm, h⟩
    by_cases h5 : x.what % 9 = 5
    · simp [hlt, e, Cal.rem h5 hw']
      refine hex.mono ?_
      rintro _ rfl
      simp
      exact hT5 _ ⟨[], _, rfl, by simp⟩
    by_cases h7 : x.what % 9 = 7
    · simp [hlt, e, Cal.rem h7 hw']
      refine hex.mono ?_
      rintro _ rfl
      simp
      exact hT5 _ ⟨[], _, rfl, by simp⟩
    by_cases h8 : x.what % 9 = 8
    · simp [hlt, e, Cal.rem h8 hw']
      refine hex.mono ?_
      rintro _ rfl
      simp
      exact hT5 _ ⟨[], _, rfl, by simp⟩
    by_cases h6 : x.what % 9 = 6
    · have hr6 : room (max (x.call.tmod 65) 0) = true := by
        have := Int.tmod_lt_of_pos x.call (show (0 : Int) < 65 by omega)
        simp [room]; omega
      obtain ⟨hp6, _⟩ := resize_perm hat'.good hr6
      simp [hlt, e, Cal.rem h6 hw']
      refine effCall (resize_m s _ (by omega)) ?_
      simp
      refine ⟨by kernel_rfl, ?_⟩
      exact hT' _ ⟨nx, (resize s (max (x.call.tmod 65) 0)).1, (resize s (max (x.call.tmod 65) 0)).2.1, G, by omega, hx1, hsub (hat'.good.resize _) hp6, hout hp6, hinv.perm hp6.symm, [], _, rfl, by simp⟩
    have e3 : ¬ x.what.tmod 9 = 3 := by rw [Int.tmod_eq_emod_of_nonneg hw']; omega
    have e4 : ¬ x.what.tmod 9 = 4 := by rw [Int.tmod_eq_emod_of_nonneg hw']; omega
    have e5 : ¬ x.what.tmod 9 = 5 := by rw [Int.tmod_eq_emod_of_nonneg hw']; omega
    have e6 : ¬ x.what.tmod 9 = 6 := by rw [Int.tmod_eq_emod_of_nonneg hw']; omega
    have e7 : ¬ x.what.tmod 9 = 7 := by rw [Int.tmod_eq_emod_of_nonneg hw']; omega
    have e8 : ¬ x.what.tmod 9 = 8 := by rw [Int.tmod_eq_emod_of_nonneg hw']; omega
    obtain ⟨f, ef, hf⟩ : ∃ f : Int, max (x.dead.tmod 60) 0 = f ∧ 0 ≤ f ∧ f ≤ 59 := by
      have := Int.tmod_lt_of_pos x.dead (show (0 : Int) < 60 by omega)
      exact ⟨_, rfl, by omega, by omega⟩
    have w2 := IntWalk.i64_in (now + d + f) (by omega)
    have w3 := IntWalk.i64_in ((nx : Int) + 1) (by omega)
    have hcn : callOk nx = true := by simp [callOk]; omega
    have hgl := hinv.len
    simp [hlt, e, e3, e4, e5, e6, e7, e8, ef, w2]
    refine effCall (join_m s nx (now + d) (now + d + f) (by omega)) ?_
    rcases join_cases hat' hcn (show 0 ≤ now + d + f by omega) (by omega) (fun y hy => by have := hinv.range y hy; omega) with hs | hs | ⟨hs, hg⟩
    · simp [hs, w3]
      refine ⟨by kernel_rfl, ?_⟩
      exact hT' _ ⟨nx + 1, s, [], G, by omega, by omega, hat', by simp, hinv.skip, [.data 11 3], _, rfl, by simp⟩
    · simp [hs, w3]
      refine ⟨by kernel_rfl, ?_⟩
      exact hT' _ ⟨nx + 1, s, [], G, by omega, by omega, hat', by simp, hinv.skip, [.data 11 3], _, rfl, by simp⟩
    · have h2 : (nx : Int) < 200 := by omega
      simp [hs, w3, hgl, h2]
      refine ⟨by kernel_rfl, by omega, ?_⟩
      refine hT' _ ⟨nx + 1, ⟨s.most, s.ws ++ [⟨nx, now + d, now + d + f⟩]⟩, [], G.set nx (-1), by omega, by omega, ⟨hg, by omega, by omega, fun y hy => ?_⟩, by simp, (hinv.push (x := ⟨nx, now + d, now + d + f⟩) rfl hx1 (by omega)).perm ?_, [.data 11 3], _, rfl, by simp⟩
      · rcases List.mem_append.1 hy with hy | hy
        · exact hat'.since y hy
        · rw [List.mem_singleton.1 hy]; exact Int.le_refl _
      · exact (List.perm_append_comm (l₁ := [_]) (l₂ := s.ws))
  obtain rfl : i = l.length := by omega
  simp
  refine (drain_m s (by have := hat.good.short; omega)).mono ?_
  rintro _ rfl
  have hdr : drain s = (⟨s.most, []⟩, s.ws, 0) := by
    have := chk_good.2 hat.good
    unfold drain
    rw [if_neg (by omega)]
  simp [hdr]
  have hsh := hat.good.short
  refine vc_loop (fun q σ => ∃ (k : Nat) (G : List Int), q = s.ws.length - k ∧ k ≤ s.ws.length ∧ Inv G nx (s.ws.drop k) ∧ σ = ⟨257, [(24, .i k), (8, .i nx), (9, .rw 40 200), (23, .d (wl s.ws)), (6, .i 0)], [(40, .row 3 1 (G.map ics) false)]⟩) ⟨_, _, ⟨0, G, rfl, Nat.zero_le _, by simpa using hinv, rfl⟩, [], _, rfl, by simp⟩ ?_
  rintro q σ ⟨k, G, rfl, hk, hi3, rfl⟩
  by_cases hko : k < s.ws.length
  · obtain ⟨y, hy, ey⟩ := at_lt hko
    have hdr : s.ws.drop k = y :: s.ws.drop (k + 1) := by
      rw [List.drop_eq_getElem_cons hko, ey]
    rw [hdr] at hi3
    obtain ⟨c, c1, c2, c3, c4, c5, c6⟩ := hi3.pop
    have hgl := hi3.len
    have c7 : ¬ ((c : Int) < 1) := by omega
    have c8 : ¬ ((nx : Int) ≤ c) := by omega
    have c9 : (c : Int) < 200 := by omega
    obtain ⟨v, hv, ev⟩ := at_lt (show c < G.length by omega)
    obtain rfl : v = -1 := Option.some.inj (hv.symm.trans c5)
    simp [hko, ey, c1, c7, c8, c4, c9, ev, hgl, wrap_succ hko (show s.ws.length < 4294967296 by omega)]
    refine ⟨_, ?_, _, ⟨k + 1, rfl, hko, _, c6, rfl⟩, [], _, rfl, by simp⟩
    omega
  obtain rfl : k = s.ws.length := by omega
  rw [List.drop_length] at hi3
  have hgl := hi3.len
  simp
  refine vc_loop (fun q σ => ∃ k : Nat, q = nx - k ∧ 1 ≤ k ∧ k ≤ nx ∧ σ = ⟨257, [(26, .i k), (8, .i nx), (9, .rw 40 200), (6, .i 0)], [(40, .row 3 1 (G.map ics) false)]⟩) ⟨_, _, ⟨1, rfl, Nat.le_refl _, hx1, rfl⟩, [], _, rfl, by simp⟩ ?_
  rintro q σ ⟨k, rfl, hk1, hk2, rfl⟩
  by_cases hkn : k < nx
  · obtain ⟨v, hv, ev⟩ := at_lt (show k < G.length by omega)
    have hvn := hi3.clear hv
    have k9 : (k : Int) < 200 := by omega
    have k8 : k < 200 := by omega
    simp [hkn, ev, hgl, k8, k9, hvn, wrap_succ hkn (show nx < 4294967296 by omega)]
    refine ⟨_, ?_, _, ⟨k + 1, rfl, by omega, hkn, rfl⟩, [], _, rfl, by simp⟩
    omega
  obtain rfl : k = nx := by omega
  simp
  refine awake_m.mono ?_
  rintro _ rfl
  simp
  refine vcRet_of [] ?_ rfl
  simp
end Go.Proofs.Ytajkljbcfgegoaa
