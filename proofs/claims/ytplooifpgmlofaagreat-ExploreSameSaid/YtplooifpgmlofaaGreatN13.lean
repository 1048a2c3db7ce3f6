/- The player, together. No condition. -/
import Derived.Test.YtplooifpgmlofaaGreatN12
import Derived.Test.YtplooifpgmlofaaGreatN11
import Derived.Test.YtplooifpgmlofaaGreatN1
namespace Go.Proofs.YtplooifpgmlofaaGreat
open Go.RowKit
open Lo (Sy Lk Qu onLock onQueue addS lockF unlockF rlockF runlockF sendF recvF shutF recvV recvB thereS chk Fits)

@[simp] def plO (x : Sx) (kb kt kw : Nat) : MObj := .box 43 [.d (Lo.lks x.s.locks), .d (Lo.qus x.s.queues), .d (Lo.il x.s.groups), .d (prgsD x.ps), .ptr kb 0, .rw kt x.ps.length, .rw kw x.ps.length]
@[simp] def tsO (l : List Tk) : MObj := .row 128 7 (l.map Tk.ds) false
@[simp] def wsO (l : List Wa) : MObj := .row 130 3 (l.map waC) false
@[simp] def plE (x : Sx) (q : Pl) : List MObj := [plO x 1000001 1000002 1000003, bnO q.b x.ps 1000004, tsO q.ts, wsO q.ws, rcO q.b]
theorem fits_chk {s : Sy} (h : chk s = 0) : Fits s := by
  obtain ⟨h1, h2, h3, h4, h5, h6⟩ := Lo.chk_iff.1 h
  refine ⟨by omega, by omega, by omega, fun l hl => ?_, fun q hq => ?_⟩
  · have := (Lo.chk_lock h hl).2; omega
  · have := (Lo.chk_queue h hq).2.2.1; omega
structure SxOk (x : Sx) : Prop where
  chk : chk x.s = 0
  ps : PsOk x.ps
structure TkOk (x : Sx) (i : Nat) (t : Tk) : Prop where
  id : t.id = (i : Int) + 1
  kind : t.kind = i
  a : t.a = 1
  pc : ∃ pc : Nat, t.pc = pc ∧ pc ≤ (x.ps.getD i []).length
structure PlOk (x : Sx) (q : Pl) (m : Nat) : Prop where
  chk : chk q.b.s = 0
  rs : q.b.rs.length ≤ 2 * m
  tn : q.ts.length = x.ps.length
  wn : q.ws.length = x.ps.length
  ts : ∀ i t, q.ts[i]? = some t → TkOk x i t
  ws : ∀ w ∈ q.ws, w.kind ≠ 7

inductive EnX (x : Sx) (q : Pl) : Nat → Sta → Prop
  | mk (k : Nat) (hk : k ≤ x.ps.length) : EnX x q (x.ps.length - k) ⟨51, [(4, .i k), (3, .rw 3 (enTo q k).length), (0, .ptr 1000000 0)], (3, .row 3 1 ((enTo q k).map intC) false) :: extMem 1000000 (plE x q)⟩
theorem enTo_le (q : Pl) : ∀ k, (enTo q k).length ≤ k
  | 0 => Nat.le_refl _
  | k + 1 => by
    have := enTo_le q k
    unfold enTo
    split
    · split
      · simp; omega
      · omega
    · omega
set_option maxRecDepth 100000 in
set_option maxHeartbeats 2000000 in
theorem pEnabled_m (x : Sx) (hx : SxOk x) (q : Pl) (m : Nat) (hq : PlOk x q m) : Meets Tryz.prog 52 [.ptr 1000000 0] (plE x q) (fun r => r = ⟨.d (intD (enTo q x.ps.length)), plE x q, []⟩) := by
  have h16 := hx.ps.many
  refine meets tbROk mixed Tryz.func52 pl52 rfl rfl ?_
  simp [Tryz.ntmps52]
  refine vc_loop (EnX x q) ⟨_, _, .mk 0 (Nat.zero_le _), [.row 3 3 1], _, rfl, by simp [extMem, enTo]⟩ ?_
  rintro n σ ⟨k, hk⟩
  by_cases hlt : k < x.ps.length
  · obtain ⟨w, hw, e⟩ := at_lt (show k < q.ws.length by rw [hq.wn]; exact hlt)
    obtain ⟨t, ht, e2⟩ := at_lt (show k < q.ts.length by rw [hq.tn]; exact hlt)
    have hkw : k < q.ws.length := by rw [hq.wn]; exact hlt
    have hkt : k < q.ts.length := by rw [hq.tn]; exact hlt
    have hle := enTo_le q k
    have hw7 := hq.ws w (List.mem_of_getElem? hw)
    have hen : enTo q (k + 1) = if canX q.b w then enTo q k ++ [((k : Int) + 1)] else enTo q k := by rw [enTo, hw]
    have hlp : x.ps.length < 4294967296 := by omega
    by_cases h0 : w.kind = 0
    · have hc : canX q.b w = true := by simp [canX, h0]
      rw [if_pos hc] at hen
      simp [hlt, hkw, e, h0, extMem, wrap_succ hlt hlp]
      refine ⟨by kernel_rfl, by omega, ?_⟩
      exact ⟨x.ps.length - (k + 1), by omega, _, .mk (k + 1) hlt, [], _, rfl, by simp [extMem, hen]⟩
    · by_cases h2 : w.kind = 2
      · have hc : canX q.b w = false := by simp [canX, h2]
        rw [if_neg (by rw [hc]; decide)] at hen
        simp [hlt, hkw, e, h2, extMem, wrap_succ hlt hlp]
        refine ⟨by kernel_rfl, ?_⟩
        exact ⟨x.ps.length - (k + 1), by omega, _, .mk (k + 1) hlt, [], _, rfl, by simp [extMem, hen]⟩
      · have hc : canX q.b w = enabledB q.b w := by simp [canX, h0, h2]
        rw [hc] at hen
        have hcall := benabled_m q.b (fits_chk hq.chk) hq.chk x.ps t w hw7
        simp [hlt, hkw, hkt, e, e2, h0, h2, extMem]
        refine effCall hcall ?_
        cases hb : enabledB q.b w
        · rw [if_neg (by rw [hb]; decide)] at hen
          simp [wrap_succ hlt hlp]
          refine ⟨by kernel_rfl, ?_⟩
          exact ⟨x.ps.length - (k + 1), by omega, _, .mk (k + 1) hlt, [], _, rfl, by simp [extMem, hen]⟩
        · rw [if_pos hb] at hen
          simp [wrap_succ hlt hlp]
          refine ⟨by kernel_rfl, by omega, ?_⟩
          exact ⟨x.ps.length - (k + 1), by omega, _, .mk (k + 1) hlt, [], _, rfl, by simp [extMem, hen]⟩
  · obtain rfl : k = x.ps.length := by omega
    simp [extMem]
    refine vcRet_of [] ?_ rfl
    simp
    rw [List.take_of_length_le (by simp)]
theorem allTo {l : List Wa} {k : Nat} (p : Wa → Bool) (h : noneTo (fun w => !p w) l k) (hk : k = l.length) : l.all p = true := by
  subst hk
  have := noneTo_anyP h
  rw [List.any_eq_false] at this
  rw [List.all_eq_true]
  intro w hw
  have := this w hw
  simpa using this
theorem pDone_m (x : Sx) (hx : SxOk x) (q : Pl) (m : Nat) (hq : PlOk x q m) : Meets Tryz.prog 74 [.ptr 1000000 0] (plE x q) (fun r => r = ⟨.b (doneX q), plE x q, []⟩) := by
  have h16 := hx.ps.many
  refine meets tbROk mixed Tryz.func74 pl74 rfl rfl ?_
  simp [Tryz.ntmps74]
  refine vc_loop (fun n σ => ∃ k : Nat, n = x.ps.length - k ∧ k ≤ x.ps.length ∧ noneTo (fun w : Wa => !decide (w.kind = 2)) q.ws k ∧ σ = ⟨22, [(3, .i k), (0, .ptr 1000000 0)], extMem 1000000 (plE x q)⟩) ⟨_, _, ⟨0, rfl, Nat.zero_le _, noneTo_zero _ _, rfl⟩, [], _, rfl, by simp⟩ ?_
  rintro n σ ⟨k, rfl, hk, hn, rfl⟩
  by_cases hlt : k < x.ps.length
  · have hkw : k < q.ws.length := by rw [hq.wn]; exact hlt
    obtain ⟨w, hw, e⟩ := at_lt hkw
    by_cases h2 : w.kind = 2
    · simp [hlt, hkw, e, h2, extMem, wrap_succ hlt (show x.ps.length < 4294967296 by omega)]
      exact ⟨_, by omega, _, ⟨k + 1, rfl, hlt, noneTo_succ hn hw (by simp [h2]), rfl⟩, [], _, rfl, by simp⟩
    · simp [hlt, hkw, e, h2, extMem]
      refine vcRet_of [] ?_ rfl
      have : doneX q = false := by
        unfold doneX
        rw [List.all_eq_false]
        exact ⟨w, List.mem_of_getElem? hw, by simp [h2]⟩
      simp [this]
  · obtain rfl : k = x.ps.length := by omega
    simp [extMem]
    refine vcRet_of [] ?_ rfl
    have : doneX q = true := allTo _ hn hq.wn.symm
    simp [this]
set_option maxRecDepth 100000 in
theorem pFoot_m (x : Sx) (hx : SxOk x) (q : Pl) (m : Nat) (hq : PlOk x q m) (t : Nat) (ht : 1 ≤ t ∧ t ≤ x.ps.length) : Meets Tryz.prog 29 [.ptr 1000000 0, .i t] (plE x q) (fun r => r = ⟨.d (fpD (footX x q t)), plE x q, []⟩) := by
  have h16 := hx.ps.many
  obtain ⟨i, rfl⟩ : ∃ i, t = i + 1 := ⟨t - 1, by omega⟩
  have hin : i < x.ps.length := by omega
  have hkt : i < q.ts.length := by rw [hq.tn]; exact hin
  obtain ⟨k, hk, e⟩ := at_lt hkt
  obtain ⟨hid, hkind, hka, pc, hpc, hpl⟩ := hq.ts i k hk
  obtain ⟨l, hl, e2⟩ := at_lt hin
  have hgd : x.ps.getD i [] = l := by rw [List.getD_eq_getElem?_getD, hl]; rfl
  rw [hgd] at hpl
  have hfoot : footX x q ((i : Int) + 1) = match l[pc]? with
      | some y => usesI y
      | none => [] := by
    unfold footX
    rw [show (((i : Int) + 1) - 1).toNat = i by omega, hk]
    dsimp only
    rw [hkind, hpc, Int.toNat_natCast, Int.toNat_natCast, hgd]
    rfl
  have n1 : ¬ ((i : Int) + 1 < 1) := by omega
  have n2 : ¬ ((x.ps.length : Int) < (i : Int) + 1) := by omega
  have hl60 := hx.ps.len l (List.mem_of_getElem? hl)
  refine meets tbROk mixed Tryz.func29 pl29 rfl rfl ?_
  rw [show (((i + 1 : Nat) : Int)) = (i : Int) + 1 by omega, hfoot]
  have hw : IntKind.i64.wrap ((i : Int) + 1 - 1) = i := by rw [show (i : Int) + 1 - 1 = i by omega]; exact wrap_in (by omega)
  have hw' : IntKind.i64.wrap (i : Int) = i := wrap_in (by omega)
  by_cases hlt : pc < l.length
  · obtain ⟨y, hy, e3⟩ := at_lt hlt
    rw [hy]
    have hnl : ¬ l.length ≤ pc := by omega
    simp [Tryz.ntmps29, n1, n2, hw', hkt, e, hkind, hpc, hin, e2, hlt, hnl, e3]
    refine ⟨by kernel_rfl, (uses_m y).mono ?_⟩
    rintro _ rfl
    simp
    refine vcRet_of [] ?_ rfl
    simp
  · rw [List.getElem?_eq_none (by omega)]
    have hnl : l.length ≤ pc := by omega
    simp [Tryz.ntmps29, n1, n2, hw', hkt, e, hkind, hpc, hin, e2, hnl]
    refine ⟨by kernel_rfl, vcRet_of [] ?_ rfl⟩
    simp
end Go.Proofs.YtplooifpgmlofaaGreat
namespace Go.Proofs.YtplooifpgmlofaaGreat
open Go.RowKit
open Lo (Sy Lk Qu onLock onQueue addS lockF unlockF rlockF runlockF sendF recvF shutF recvV recvB thereS chk Fits)

theorem chk_act {b : Bn} (h : chk b.s = 0) (task : Int) (x : Ins) : chk (actB b task x).1.s = 0 := by
  unfold actB
  split
  · exact h
  split
  · exact Lo.chk_lockS h
  split
  · exact Lo.chk_unlockS h
  split
  · exact Lo.chk_rlockS h
  split
  · exact Lo.chk_runlockS h
  split
  · exact Lo.chk_onQueue h fun _ hg h0 => Lo.good_send hg h0
  split
  · exact Lo.chk_onQueue h fun _ hg _ => Lo.good_recv hg
  split
  · exact Lo.chk_onQueue h fun _ hg _ => Lo.good_shut hg
  split
  · exact Lo.chk_addS h
  split
  · exact Lo.chk_addS h
  · exact h
theorem waitB_kind (y : Ins) : (waitB y).kind ≠ 7 := by
  unfold waitB
  repeat' split
  all_goals simp
theorem chk_step {b : Bn} (h : chk b.s = 0) (ps : List Prg) (t : Tk) : chk (stepB b ps t).1.s = 0 := by
  unfold stepB
  split
  · exact h
  · split
    · exact h
    · split
      · exact h
      · split
        · exact chk_act h _ _
        · exact chk_act h _ _
theorem rs_step (b : Bn) (ps : List Prg) (t : Tk) : (stepB b ps t).1.rs.length ≤ b.rs.length + 2 := by
  unfold stepB
  split
  · exact Nat.le_add_right _ _
  · split
    · exact Nat.le_add_right _ _
    · split
      · exact Nat.le_add_right _ _
      · rename_i x _
        have := actB_len b t.id x
        split
        · simp; omega
        · dsimp only; omega
theorem wait_step (b : Bn) (ps : List Prg) (t : Tk) : (stepB b ps t).2.2.kind ≠ 7 := by
  have he : endW.kind ≠ 7 := by decide
  unfold stepB
  split
  · exact he
  · split
    · dsimp only; split
      · exact waitB_kind _
      · exact he
    · split
      · exact he
      · split
        · exact he
        · dsimp only; split
          · exact waitB_kind _
          · exact he
theorem tk_step {x : Sx} {i : Nat} {t : Tk} (b : Bn) (h : TkOk x i t ∨ (t.id = (i : Int) + 1 ∧ t.kind = i ∧ t.a = 0 ∧ t.pc = 0)) (hi : i < x.ps.length) : TkOk x i (stepB b x.ps t).2.1 := by
  obtain ⟨l, hl, e⟩ := at_lt hi
  have hgd : x.ps.getD i [] = l := by rw [List.getD_eq_getElem?_getD, hl]; rfl
  rcases h with ⟨h1, h2, h3, pc, h4, h5⟩ | ⟨h1, h2, h3, h4⟩
  · rw [hgd] at h5
    unfold stepB
    rw [h2, Int.toNat_natCast, hl]
    dsimp only
    rw [if_neg (by omega), h4, Int.toNat_natCast]
    split
    · exact ⟨h1, h2, h3, pc, h4, by rw [hgd]; exact h5⟩
    · rename_i y hy
      have := (List.getElem?_eq_some_iff.1 hy).1
      split
      · exact ⟨h1, rfl, h3, pc + 1, by simp, by rw [hgd]; omega⟩
      · exact ⟨h1, rfl, h3, pc + 1, by simp, by rw [hgd]; omega⟩
  · unfold stepB
    rw [h2, Int.toNat_natCast, hl]
    dsimp only
    rw [if_pos h3]
    exact ⟨h1, rfl, rfl, 0, h4, Nat.zero_le _⟩
theorem pl_step {x : Sx} {q : Pl} {m : Nat} (h : PlOk x q m) (t : Int) : PlOk x (stepX x q t) (m + 1) := by
  unfold stepX
  split
  · rename_i k hk
    obtain ⟨hi, _⟩ := List.getElem?_eq_some_iff.1 hk
    refine ⟨chk_step h.chk _ _, ?_, by simp [h.tn], by simp [h.wn], fun j u hu => ?_, fun w hw => ?_⟩
    · have := rs_step q.b x.ps k
      have := h.rs
      dsimp only; omega
    · dsimp only at hu
      rw [List.getElem?_set] at hu
      by_cases e : (t - 1).toNat = j
      · rw [if_pos e] at hu
        by_cases hj : (t - 1).toNat < q.ts.length
        · rw [if_pos hj] at hu
          cases hu
          rw [← e]
          exact tk_step q.b (.inl (h.ts _ k hk)) (by rw [← h.tn]; exact hi)
        · rw [if_neg hj] at hu; cases hu
      · rw [if_neg e] at hu
        exact h.ts j u hu
    · dsimp only at hw
      rcases List.mem_or_eq_of_mem_set hw with hw | rfl
      · exact h.ws w hw
      · exact wait_step _ _ _
  · exact ⟨h.chk, by have := h.rs; omega, h.tn, h.wn, h.ts, h.ws⟩

inductive PlR (x : Sx) (v : PV) (q : Pl) : Res → Prop
  | mk (g : Bool) : PlR x v q ⟨v, [plO x 1000001 1000002 1000003, bnO q.b x.ps 1000004, tsO q.ts, wsO q.ws, rcG g q.b], []⟩
set_option maxRecDepth 100000 in
set_option maxHeartbeats 2000000 in
theorem pStep_m (x : Sx) (hx : SxOk x) (q : Pl) (m : Nat) (hq : PlOk x q m) (hm : m ≤ 1000) (t : Nat) (ht : 1 ≤ t ∧ t ≤ x.ps.length) : Meets Tryz.prog 30 [.ptr 1000000 0, .i t] (plE x q)
    (PlR x unitV (stepX x q t)) := by
  have h16 := hx.ps.many
  have hrs := hq.rs
  obtain ⟨i, rfl⟩ : ∃ i, t = i + 1 := ⟨t - 1, by omega⟩
  have hin : i < x.ps.length := by omega
  have hkt : i < q.ts.length := by rw [hq.tn]; exact hin
  have hkw : i < q.ws.length := by rw [hq.wn]; exact hin
  obtain ⟨k, hk, e⟩ := at_lt hkt
  obtain ⟨hid, hkind, hka, pc, hpc, hpl⟩ := hq.ts i k hk
  obtain ⟨l, hl, e2⟩ := at_lt hin
  have hgd : x.ps.getD i [] = l := by rw [List.getD_eq_getElem?_getD, hl]; rfl
  rw [hgd] at hpl
  have n1 : (1 : Int) ≤ (i : Int) + 1 := by omega
  have n2 : (i : Int) + 1 ≤ x.ps.length := by omega
  have hw : IntKind.i64.wrap ((i : Int) + 1 - 1) = i := by rw [show (i : Int) + 1 - 1 = i by omega]; exact wrap_in (by omega)
  have hw' : IntKind.i64.wrap (i : Int) = i := wrap_in (by omega)
  have hst : stepX x q ((i : Int) + 1) = ⟨(stepB q.b x.ps k).1, q.ts.set i (stepB q.b x.ps k).2.1, q.ws.set i (stepB q.b x.ps k).2.2⟩ := by
    unfold stepX
    rw [show (((i : Int) + 1) - 1).toNat = i by omega, hk]
  have hcall := bstep_m q.b (fits_chk hq.chk) (by omega) x.ps hx.ps k i hkind pc hpc l hl hpl (.inr hka)
  rw [show (((i + 1 : Nat) : Int)) = (i : Int) + 1 by omega, hst]
  obtain ⟨b', k', w', hS⟩ : ∃ b' k' w', stepB q.b x.ps k = (b', k', w') := ⟨_, _, _, rfl⟩
  rw [hS] at hcall ⊢
  simp only at hcall ⊢
  refine meetsP [] tbROk mixed Tryz.func30 pl30 rfl rfl ?_
  simp [Tryz.ntmps30, n1, n2, hw', hkt, e]
  have hi : List.idxOf 1000004 [1000001, 1000004] = 1 := rfl
  rw [hi]
  refine ⟨hin, effCallN hcall ?_⟩
  cases hg : grewS q.b x.ps k
  · simp
    refine ⟨hin, hkt, hin, hkw, by kernel_rfl, vcRet_of [] ?_ (.mk false)⟩
    simp
  · simp
    refine ⟨hin, hkt, hin, hkw, by kernel_rfl, vcRet_of [] ?_ (.mk true)⟩
    simp
end Go.Proofs.YtplooifpgmlofaaGreat
namespace Go.Proofs.YtplooifpgmlofaaGreat
open Go.RowKit
open Lo (Sy Lk Qu onLock onQueue addS lockF unlockF rlockF runlockF sendF recvF shutF recvV recvB thereS chk Fits)

theorem startTo_len (b : Bn) (ps : List Prg) : ∀ k, (startTo b ps k).ts.length = k ∧ (startTo b ps k).ws.length = k
  | 0 => ⟨rfl, rfl⟩
  | k + 1 => by
    have := startTo_len b ps k
    simp [startTo, this.1, this.2]
theorem startTo_b (b : Bn) (ps : List Prg) : ∀ k, (startTo b ps k).b = b
  | 0 => rfl
  | _ + 1 => rfl
theorem startTo_ts (b : Bn) (ps : List Prg) : ∀ (k i : Nat) (t : Tk), (startTo b ps k).ts[i]? = some t → t = (stepB b ps ⟨(i : Int) + 1, i, 0, 0⟩).2.1
  | 0, i, t, h => by simp [startTo] at h
  | k + 1, i, t, h => by
    have hl := (startTo_len b ps k).1
    unfold startTo at h
    dsimp only at h
    by_cases hi : i < k
    · rw [List.getElem?_append_left (by omega)] at h
      exact startTo_ts b ps k i t h
    · have := (List.getElem?_eq_some_iff.1 h).1
      simp only [List.length_append, List.length_singleton] at this
      obtain rfl : i = k := by omega
      rw [List.getElem?_append_right (by omega), hl, Nat.sub_self] at h
      simp at h
      exact h.symm
theorem startTo_ws (b : Bn) (ps : List Prg) : ∀ k, ∀ w ∈ (startTo b ps k).ws, w.kind ≠ 7
  | 0, w, h => by simp [startTo] at h
  | k + 1, w, h => by
    unfold startTo at h
    simp only [List.mem_append, List.mem_singleton] at h
    rcases h with h | rfl
    · exact startTo_ws b ps k w h
    · exact wait_step _ _ _
theorem start_b {x : Sx} (k : Nat) (hk : k < x.ps.length) : (stepB ⟨x.s, []⟩ x.ps ⟨(k : Int) + 1, k, 0, 0⟩).1 = ⟨x.s, []⟩ := by
  unfold stepB
  rw [Int.toNat_natCast, List.getElem?_eq_getElem hk]
  rfl
theorem pl_start {x : Sx} (h : SxOk x) : PlOk x (startX x) 0 := by
  have hb : (startX x).b = ⟨x.s, []⟩ := startTo_b _ _ _
  refine ⟨by rw [hb]; exact h.chk, by rw [hb]; exact Nat.zero_le _, (startTo_len _ _ _).1, (startTo_len _ _ _).2, fun i t ht => ?_, startTo_ws _ _ _⟩
  have hi := (List.getElem?_eq_some_iff.1 ht).1
  rw [show (startX x).ts.length = x.ps.length from (startTo_len _ _ _).1] at hi
  rw [startTo_ts _ _ _ i t ht]
  exact tk_step _ (.inr ⟨rfl, rfl, rfl, rfl⟩) hi
theorem newE_ok {x : Sx} (h : SxOk x) : newE x.s x.ps = 0 := by
  have h1 : ¬ 16 < x.ps.length := by have := h.ps.many; omega
  have h2 : x.ps.any prgLong = false := by
    rw [List.any_eq_false]
    intro l hl
    have := h.ps.len l hl
    simp [prgLong]; omega
  have h3 : (x.ps.any fun l => l.any insBad) = false := by
    rw [List.any_eq_false]
    intro l hl
    rw [Bool.not_eq_true, List.any_eq_false]
    intro y hy
    have := h.ps.ins l hl y hy
    unfold insBad
    simp [this.1, this.2.1]
  unfold newE
  rw [if_neg (by rw [h.chk]; simp), if_neg h1, if_neg (by rw [h2]; simp), if_neg (by rw [h3]; simp)]

@[simp] def plN (x : Sx) : MObj := .box 43 [.d (Lo.lks x.s.locks), .d (Lo.qus x.s.queues), .d (Lo.il x.s.groups), .d (prgsD x.ps), .d (.v (.pointer none)), .d (.v (.slice none 0 0)), .d (.v (.slice none 0 0))]
inductive StI (x : Sx) : Nat → Sta → Prop
  | mk (k : Nat) (hk : k ≤ x.ps.length) : StI x (x.ps.length - k) ⟨73, [(2, .i k), (0, .ptr 1000000 0)],
    [(19, bnO ⟨x.s, []⟩ x.ps 902), (900, tsO (startTo ⟨x.s, []⟩ x.ps k).ts), (901, wsO (startTo ⟨x.s, []⟩ x.ps k).ws), (902, rcO ⟨x.s, []⟩), (1000000, .box 43 [.d (Lo.lks x.s.locks), .d (Lo.qus x.s.queues), .d (Lo.il x.s.groups), .d (prgsD x.ps), .ptr 19 0, .rw 900 k, .rw 901 k])]⟩
set_option maxRecDepth 100000 in
set_option maxHeartbeats 2000000 in
theorem pStart0_m (x : Sx) (hx : SxOk x) : Meets Tryz.prog 28 [.ptr 1000000 0] [plN x] (fun r => r = ⟨unitV, [plO x 2000000 2000001 2000002], [bnO (startX x).b x.ps 2000003, tsO (startX x).ts, wsO (startX x).ws, rcO (startX x).b]⟩) := by
  have h16 := hx.ps.many
  refine meetsP [] tbROk mixed Tryz.func28 pl28 rfl rfl ?_
  have hnew : Meets Tryz.prog 20 [x.s.pv, .d (prgsD x.ps)] [] (fun r => r = ⟨.tup [.ptr 2000000 0, .i 0], [], [.box 115 [.d (Lo.lks x.s.locks), .d (Lo.qus x.s.queues), .d (Lo.il x.s.groups), .i 0, .d (prgsD x.ps), .d (.v (.slice none 0 0))]]⟩) := by
    refine (newBench_m x.s (fits_chk hx.chk).wide x.ps).mono ?_
    rintro _ (h | ⟨e, h, h0⟩)
    · rfl
    · rw [newE_ok hx] at h; exact absurd h.symm h0
  simp [Tryz.ntmps28]
  refine effCall (Lo.copyD_m x.s (fits_chk hx.chk)) ?_
  simp
  refine effCallN hnew ?_
  simp
  refine ⟨by kernel_rfl, ?_⟩
  refine vc_loop (StI x) ⟨_, _, .mk 0 (Nat.zero_le _), [.cell 1000000 5 900 128 7, .cell 1000000 6 901 130 3, .cell 19 5 902 149 3], _, rfl, by simp [startTo]⟩ ?_
  rintro n σ ⟨k, hk⟩
  by_cases hlt : k < x.ps.length
  · obtain ⟨l, hl, e⟩ := at_lt hlt
    obtain ⟨tl, wl⟩ := startTo_len ⟨x.s, []⟩ x.ps k
    have hw1 : IntKind.i64.wrap ((k : Int) + 1) = (k : Int) + 1 := wrap_in (by omega)
    obtain ⟨k', w', hS⟩ : ∃ k' w', stepB ⟨x.s, []⟩ x.ps ⟨(k : Int) + 1, k, 0, 0⟩ = (⟨x.s, []⟩, k', w') := by
      have := start_b (x := x) k hlt
      generalize stepB ⟨x.s, []⟩ x.ps ⟨(k : Int) + 1, k, 0, 0⟩ = z at this
      obtain ⟨z1, z2, z3⟩ := z
      exact ⟨z2, z3, by rw [show z1 = _ from this]⟩
    have hgr : grewS ⟨x.s, []⟩ x.ps ⟨(k : Int) + 1, k, 0, 0⟩ = false := by
      unfold grewS
      dsimp only
      rw [Int.toNat_natCast, hl]
      rfl
    have hstep := bstep_m ⟨x.s, []⟩ (fits_chk hx.chk) (by simp) x.ps hx.ps ⟨(k : Int) + 1, k, 0, 0⟩ k rfl 0 rfl l hl (Nat.zero_le _) (.inl rfl)
    rw [hS, hgr] at hstep
    have hts : (startTo ⟨x.s, []⟩ x.ps (k + 1)).ts = (startTo ⟨x.s, []⟩ x.ps k).ts ++ [k'] := by simp [startTo, hS]
    have hws : (startTo ⟨x.s, []⟩ x.ps (k + 1)).ws = (startTo ⟨x.s, []⟩ x.ps k).ws ++ [w'] := by simp [startTo, hS]
    simp only [bnO, rcO, rcG, Tk.pv, waP, Bool.false_eq_true, if_false] at hstep
    simp [hlt, hw1]
    refine hstep.mono ?_
    rintro _ rfl
    simp [tl, wl]
    refine ⟨by omega, by kernel_rfl, x.ps.length - (k + 1), by omega, _, .mk (k + 1) hlt, [], _, rfl, by simp [hts, hws, hw1]⟩
  · obtain rfl : k = x.ps.length := by omega
    simp
    refine vcRet_of [19, 900, 901, 902] ?_ rfl
    have hsx : startX x = startTo ⟨x.s, []⟩ x.ps x.ps.length := rfl
    have hb := startTo_b ⟨x.s, []⟩ x.ps x.ps.length
    simp [hsx, hb]
    exact ⟨⟨rfl, rfl⟩, rfl⟩
inductive StJ (x : Sx) (q : Pl) : Nat → Sta → Prop
  | mk (k : Nat) (hk : k ≤ x.ps.length) : StJ x q (x.ps.length - k) ⟨73, [(2, .i k), (0, .ptr 1000000 0)],
    [(19, bnO ⟨x.s, []⟩ x.ps 902), (900, tsO (startTo ⟨x.s, []⟩ x.ps k).ts), (901, wsO (startTo ⟨x.s, []⟩ x.ps k).ws), (902, rcO ⟨x.s, []⟩), (1000000, .box 43 [.d (Lo.lks x.s.locks), .d (Lo.qus x.s.queues), .d (Lo.il x.s.groups), .d (prgsD x.ps), .ptr 19 0, .rw 900 k, .rw 901 k]), (1000001, bnO q.b x.ps 1000004), (1000002, tsO q.ts), (1000003, wsO q.ws), (1000004, rcO q.b)]⟩
set_option maxRecDepth 100000 in
set_option maxHeartbeats 2000000 in
theorem pStart1_m (x : Sx) (hx : SxOk x) (q : Pl) : Meets Tryz.prog 28 [.ptr 1000000 0] (plE x q) (fun r => r = ⟨unitV, [plO x 2000000 2000001 2000002, bnO q.b x.ps 1000004, tsO q.ts, wsO q.ws, rcO q.b], [bnO (startX x).b x.ps 2000003, tsO (startX x).ts, wsO (startX x).ws, rcO (startX x).b]⟩) := by
  have h16 := hx.ps.many
  refine meetsP [] tbROk mixed Tryz.func28 pl28 rfl rfl ?_
  have hnew : Meets Tryz.prog 20 [x.s.pv, .d (prgsD x.ps)] [] (fun r => r = ⟨.tup [.ptr 2000000 0, .i 0], [], [.box 115 [.d (Lo.lks x.s.locks), .d (Lo.qus x.s.queues), .d (Lo.il x.s.groups), .i 0, .d (prgsD x.ps), .d (.v (.slice none 0 0))]]⟩) := by
    refine (newBench_m x.s (fits_chk hx.chk).wide x.ps).mono ?_
    rintro _ (h | ⟨e, h, h0⟩)
    · rfl
    · rw [newE_ok hx] at h; exact absurd h.symm h0
  simp [Tryz.ntmps28]
  refine effCall (Lo.copyD_m x.s (fits_chk hx.chk)) ?_
  simp
  refine effCallN hnew ?_
  simp
  refine ⟨by kernel_rfl, ?_⟩
  refine vc_loop (StJ x q) ⟨_, _, .mk 0 (Nat.zero_le _), [.cell 1000000 5 900 128 7, .cell 1000000 6 901 130 3, .cell 19 5 902 149 3], _, rfl, by simp [startTo]⟩ ?_
  rintro n σ ⟨k, hk⟩
  by_cases hlt : k < x.ps.length
  · obtain ⟨l, hl, e⟩ := at_lt hlt
    obtain ⟨tl, wl⟩ := startTo_len ⟨x.s, []⟩ x.ps k
    have hw1 : IntKind.i64.wrap ((k : Int) + 1) = (k : Int) + 1 := wrap_in (by omega)
    obtain ⟨k', w', hS⟩ : ∃ k' w', stepB ⟨x.s, []⟩ x.ps ⟨(k : Int) + 1, k, 0, 0⟩ = (⟨x.s, []⟩, k', w') := by
      have := start_b (x := x) k hlt
      generalize stepB ⟨x.s, []⟩ x.ps ⟨(k : Int) + 1, k, 0, 0⟩ = z at this
      obtain ⟨z1, z2, z3⟩ := z
      exact ⟨z2, z3, by rw [show z1 = _ from this]⟩
    have hgr : grewS ⟨x.s, []⟩ x.ps ⟨(k : Int) + 1, k, 0, 0⟩ = false := by
      unfold grewS
      dsimp only
      rw [Int.toNat_natCast, hl]
      rfl
    have hstep := bstep_m ⟨x.s, []⟩ (fits_chk hx.chk) (by simp) x.ps hx.ps ⟨(k : Int) + 1, k, 0, 0⟩ k rfl 0 rfl l hl (Nat.zero_le _) (.inl rfl)
    rw [hS, hgr] at hstep
    have hts : (startTo ⟨x.s, []⟩ x.ps (k + 1)).ts = (startTo ⟨x.s, []⟩ x.ps k).ts ++ [k'] := by simp [startTo, hS]
    have hws : (startTo ⟨x.s, []⟩ x.ps (k + 1)).ws = (startTo ⟨x.s, []⟩ x.ps k).ws ++ [w'] := by simp [startTo, hS]
    simp only [bnO, rcO, rcG, Tk.pv, waP, Bool.false_eq_true, if_false] at hstep
    simp [hlt, hw1]
    refine hstep.mono ?_
    rintro _ rfl
    simp [tl, wl]
    refine ⟨by omega, by kernel_rfl, x.ps.length - (k + 1), by omega, _, .mk (k + 1) hlt, [], _, rfl, by simp [hts, hws, hw1]⟩
  · obtain rfl : k = x.ps.length := by omega
    simp
    refine vcRet_of [19, 900, 901, 902] ?_ rfl
    have hsx : startX x = startTo ⟨x.s, []⟩ x.ps x.ps.length := rfl
    have hb := startTo_b ⟨x.s, []⟩ x.ps x.ps.length
    simp [hsx, hb]
    exact ⟨⟨rfl, rfl⟩, rfl⟩
end Go.Proofs.YtplooifpgmlofaaGreat
namespace Go.Proofs.YtplooifpgmlofaaGreat
open Go.RowKit
open Lo (Sy Lk Qu onLock onQueue addS lockF unlockF rlockF runlockF sendF recvF shutF recvV recvB thereS chk Fits)

def I64 (n : Int) : Prop := -9223372036854775808 ≤ n ∧ n ≤ 9223372036854775807
structure VOk (q : Pl) : Prop where
  rs : ∀ r ∈ q.b.rs, I64 r.val ∧ I64 r.err
  items : ∀ u ∈ q.b.s.queues, ∀ v ∈ u.items, I64 v
def noteL (i : Int) (rs : List Rc) : List Int := rs.flatMap fun r => if r.task = i then 32 :: (digZ r.val ++ 101 :: digZ r.err) else []
def taskTo (q : Pl) : Nat → List Int
  | 0 => []
  | k + 1 => taskTo q k ++ 116 :: (noteL ((k : Int) + 1) q.b.rs ++ 32 :: 97 :: 116 :: digZ (q.ts.getD k default).pc)
def itemL (l : List Int) : List Int := l.flatMap fun v => 32 :: digZ v
def quL (l : List Qu) : List Int := l.flatMap fun u => 113 :: itemL u.items
def grL (l : List Int) : List Int := l.flatMap fun g => 103 :: digZ g
def outL (q : Pl) : List Int := taskTo q q.ts.length ++ (quL q.b.s.queues ++ grL q.b.s.groups)

theorem flatc_len {α : Type} {f : α → List Int} {c : Nat} : ∀ {l : List α}, (∀ x ∈ l, (f x).length ≤ c) → (l.flatMap f).length ≤ c * l.length
  | [], _ => by simp
  | x :: l, h => by
    have h1 := h x (by simp)
    have h2 := flatc_len (l := l) fun y hy => h y (by simp [hy])
    rw [List.flatMap_cons, List.length_append, List.length_cons, Nat.mul_succ]
    omega
theorem noteL_len {i : Int} {rs : List Rc} (h : ∀ r ∈ rs, I64 r.val ∧ I64 r.err) : (noteL i rs).length ≤ 64 * rs.length := flatc_len fun r hr => by
  have h1 := digZ_len (h r hr).1
  have h2 := digZ_len (h r hr).2
  split
  · simp only [List.length_cons, List.length_append]; omega
  · simp
theorem itemL_len {l : List Int} (h : ∀ v ∈ l, I64 v) : (itemL l).length ≤ 32 * l.length := flatc_len fun v hv => by
  have := digZ_len (h v hv)
  simp only [List.length_cons]; omega
theorem grL_len {l : List Int} (h : ∀ v ∈ l, I64 v) : (grL l).length ≤ 32 * l.length := flatc_len fun v hv => by
  have := digZ_len (h v hv)
  simp only [List.length_cons]; omega
theorem quL_len {l : List Qu} (h : ∀ u ∈ l, (∀ v ∈ u.items, I64 v) ∧ u.items.length ≤ 64) : (quL l).length ≤ 2049 * l.length := flatc_len fun u hu => by
  have := itemL_len (h u hu).1
  have := (h u hu).2
  simp only [List.length_cons]; omega
theorem taskTo_len {q : Pl} (hv : VOk q) (hr : q.b.rs.length ≤ 120) (hp : ∀ k, I64 (q.ts.getD k default).pc) : ∀ k, (taskTo q k).length ≤ 8000 * k
  | 0 => Nat.le_refl _
  | k + 1 => by
    have h1 := taskTo_len hv hr hp k
    have h2 := noteL_len (i := (k : Int) + 1) hv.rs
    have h3 := digZ_len (hp k)
    unfold taskTo
    simp only [List.length_append, List.length_cons]
    omega
theorem take_flat {α : Type} (f : α → List Int) {l : List α} {k : Nat} {x : α} (h : l[k]? = some x) : (l.take (k + 1)).flatMap f = (l.take k).flatMap f ++ f x := by
  rw [List.take_add_one, h, List.flatMap_append]
  simp
theorem c32 : (⟨#[32]⟩ : ByteArray) = strOfNums [32] := rfl
theorem c101 : (⟨#[101]⟩ : ByteArray) = strOfNums [101] := rfl
theorem c116 : (⟨#[116]⟩ : ByteArray) = strOfNums [116] := rfl
theorem c113 : (⟨#[113]⟩ : ByteArray) = strOfNums [113] := rfl
theorem c103 : (⟨#[103]⟩ : ByteArray) = strOfNums [103] := rfl
theorem cAt : (⟨#[32, 97, 116]⟩ : ByteArray) = strOfNums [32, 97, 116] := rfl
theorem cNo : (⟨#[]⟩ : ByteArray) = strOfNums [] := rfl

inductive OuA (x : Sx) (q : Pl) : Nat → Sta → Prop
  | mk (k : Nat) (hk : k ≤ x.ps.length) : OuA x q (x.ps.length - k) ⟨151, [(3, .d (.v (.string (strOfNums (taskTo q k))))), (4, .i k), (0, .ptr 1000000 0)], extMem 1000000 (plE x q)⟩
inductive OuB (x : Sx) (q : Pl) (k : Nat) : Nat → Sta → Prop
  | mk (j : Nat) (hj : j ≤ q.b.rs.length) : OuB x q k (q.b.rs.length - j) ⟨151, [(3, .d (.v (.string (strOfNums (taskTo q k ++ 116 :: noteL ((k : Int) + 1) (q.b.rs.take j)))))), (5, .i j), (4, .i k), (0, .ptr 1000000 0)], extMem 1000000 (plE x q)⟩
inductive OuC (x : Sx) (q : Pl) : Nat → Sta → Prop
  | mk (k : Nat) (hk : k ≤ q.b.s.queues.length) : OuC x q (q.b.s.queues.length - k) ⟨151, [(3, .d (.v (.string (strOfNums (taskTo q q.ts.length ++ quL (q.b.s.queues.take k)))))), (7, .i k), (0, .ptr 1000000 0)], extMem 1000000 (plE x q)⟩
inductive OuD (x : Sx) (q : Pl) (k : Nat) (u : Qu) : Nat → Sta → Prop
  | mk (j : Nat) (hj : j ≤ u.items.length) : OuD x q k u (u.items.length - j) ⟨151, [(3, .d (.v (.string (strOfNums (taskTo q q.ts.length ++ (quL (q.b.s.queues.take k) ++ 113 :: itemL (u.items.take j))))))), (8, .i j), (7, .i k), (0, .ptr 1000000 0)], extMem 1000000 (plE x q)⟩
inductive OuG (x : Sx) (q : Pl) : Nat → Sta → Prop
  | mk (k : Nat) (hk : k ≤ q.b.s.groups.length) : OuG x q (q.b.s.groups.length - k) ⟨151, [(3, .d (.v (.string (strOfNums (taskTo q q.ts.length ++ (quL q.b.s.queues ++ grL (q.b.s.groups.take k))))))), (9, .i k), (0, .ptr 1000000 0)], extMem 1000000 (plE x q)⟩
set_option maxRecDepth 100000 in
set_option maxHeartbeats 2000000 in
theorem pOut_m (x : Sx) (hx : SxOk x) (q : Pl) (m : Nat) (hq : PlOk x q m) (hm : m ≤ 60) (hv : VOk q) : Meets Tryz.prog 53 [.ptr 1000000 0] (plE x q) (fun r => r = ⟨.d (.v (.string (strOfNums (outL q)))), plE x q, []⟩) := by
  have h16 := hx.ps.many
  have hrs := hq.rs
  obtain ⟨hq1, hq2, hq3, hq4, hq5, hq6⟩ := Lo.chk_iff.1 hq.chk
  have hgr : ∀ g ∈ q.b.s.groups, I64 g := fun g hg => by have := Lo.chk_group hq.chk hg; exact ⟨by omega, by omega⟩
  have hqu : ∀ u ∈ q.b.s.queues, (∀ v ∈ u.items, I64 v) ∧ u.items.length ≤ 64 := fun u hu => ⟨hv.items u hu, (Lo.chk_queue hq.chk hu).2.2.1⟩
  have hpc : ∀ k, I64 (q.ts.getD k default).pc := fun k => by
    rw [List.getD_eq_getElem?_getD]
    cases hk : q.ts[k]? with
    | none => exact ⟨by decide, by decide⟩
    | some t =>
      obtain ⟨_, _, _, pc, h1, h2⟩ := hq.ts k t hk
      have : (x.ps.getD k []).length ≤ 60 := by
        rw [List.getD_eq_getElem?_getD]
        cases hk2 : x.ps[k]? with
        | none => simp
        | some l => exact hx.ps.len l (List.mem_of_getElem? hk2)
      show I64 t.pc
      exact ⟨by omega, by omega⟩
  have hT := taskTo_len hv (by omega) hpc
  have hT' : (taskTo q q.ts.length).length ≤ 128000 := by have := hT q.ts.length; have := hq.tn; omega
  have hQ : ∀ k, (quL (q.b.s.queues.take k)).length ≤ 2049 * 16 := fun k => by
    have h1 := quL_len (l := q.b.s.queues.take k) fun u hu => hqu u (List.mem_of_mem_take hu)
    have h2 : (q.b.s.queues.take k).length ≤ 16 := by rw [List.length_take]; omega
    omega
  have hG : ∀ k, (grL (q.b.s.groups.take k)).length ≤ 32 * 16 := fun k => by
    have h1 := grL_len (l := q.b.s.groups.take k) fun u hu => hgr u (List.mem_of_mem_take hu)
    have h2 : (q.b.s.groups.take k).length ≤ 16 := by rw [List.length_take]; omega
    omega
  refine meets tbROk mixed Tryz.func53 pl53 rfl rfl ?_
  simp [Tryz.ntmps53]
  refine vc_loop (OuA x q) ⟨_, _, .mk 0 (Nat.zero_le _), [], _, rfl, by simp [extMem, taskTo, cNo]⟩ ?_
  rintro n σ ⟨k, hk⟩
  by_cases hlt : k < x.ps.length
  · have hlp : x.ps.length < 4294967296 := by omega
    have hkt : k < q.ts.length := by rw [hq.tn]; exact hlt
    obtain ⟨t, ht, e⟩ := at_lt hkt
    have hTk := hT k
    have hsz : (taskTo q k).length + 1 ≤ 4611686018427387904 := by omega
    simp [hlt, extMem, strs_size]
    refine ⟨by show _ + 1 ≤ _; omega, ?_⟩
    refine vc_loop (OuB x q k) ⟨_, _, .mk 0 (Nat.zero_le _), [], _, rfl, by simp [extMem, noteL, c116, strs_app]⟩ ?_
    rintro n σ ⟨j, hj⟩
    have hN : (noteL ((k : Int) + 1) (q.b.rs.take j)).length ≤ 64 * 120 := by
      have h1 := noteL_len (i := (k : Int) + 1) (rs := q.b.rs.take j) fun r hr => hv.rs r (List.mem_of_mem_take hr)
      have h2 : (q.b.rs.take j).length ≤ 120 := by rw [List.length_take]; omega
      omega
    have hw1 : IntKind.i64.wrap ((k : Int) + 1) = (k : Int) + 1 := wrap_in (by omega)
    by_cases hjl : j < q.b.rs.length
    · obtain ⟨r, hr, e2⟩ := at_lt hjl
      have hrv := hv.rs r (List.mem_of_getElem? hr)
      have h1 := digZ_len hrv.1
      have h2 := digZ_len hrv.2
      have htk : noteL ((k : Int) + 1) (q.b.rs.take (j + 1)) = noteL ((k : Int) + 1) (q.b.rs.take j) ++ if r.task = (k : Int) + 1 then 32 :: (digZ r.val ++ 101 :: digZ r.err) else [] := take_flat _ hr
      by_cases ht : r.task = (k : Int) + 1
      · rw [if_pos ht] at htk
        simp [hjl, e2, extMem, hw1, ht, strs_size]
        refine ⟨by show _ + 1 ≤ _; omega, effCall (digits_m r.val hrv.1) ?_⟩
        simp [strs_size, c32, c101, strs_app]
        refine ⟨by omega, by omega, effCall (digits_m r.err hrv.2) ?_⟩
        simp [strs_size, strs_app, wrap_succ hjl (show q.b.rs.length < 4294967296 by omega)]
        refine ⟨by omega, by kernel_rfl, q.b.rs.length - (j + 1), by omega, _, .mk (j + 1) hjl, [], _, rfl, by simp [extMem, htk]⟩
      · rw [if_neg ht, List.append_nil] at htk
        simp [hjl, e2, extMem, hw1, ht, wrap_succ hjl (show q.b.rs.length < 4294967296 by omega)]
        exact ⟨q.b.rs.length - (j + 1), by omega, _, .mk (j + 1) hjl, [], _, rfl, by simp [extMem, htk]⟩
    · obtain rfl : j = q.b.rs.length := by omega
      rw [List.take_length] at hN
      have hgd : q.ts.getD k default = t := by rw [List.getD_eq_getElem?_getD, ht]; rfl
      have hpt := hpc k
      rw [hgd] at hpt
      have h1 := digZ_len hpt
      have hto : taskTo q (k + 1) = taskTo q k ++ 116 :: (noteL ((k : Int) + 1) q.b.rs ++ 32 :: 97 :: 116 :: digZ t.pc) := by rw [taskTo, hgd]
      simp [hlt, hkt, e, extMem]
      refine ⟨by rw [strs_size]; show _ + 3 ≤ _; simp only [List.length_append, List.length_cons]; omega, (digits_m t.pc hpt).mono ?_⟩
      rintro _ rfl
      simp [strs_size, cAt, strs_app, wrap_succ hlt hlp]
      refine ⟨by omega, x.ps.length - (k + 1), by omega, _, .mk (k + 1) hlt, [], _, rfl, by simp [extMem, hto]⟩
  · obtain rfl : k = x.ps.length := by omega
    simp [extMem]
    refine vc_loop (OuC x q) ⟨_, _, .mk 0 (Nat.zero_le _), [], _, rfl, by simp [extMem, quL, hq.tn]⟩ ?_
    rintro n σ ⟨k, hk⟩
    by_cases hlt : k < q.b.s.queues.length
    · obtain ⟨u, hu, e⟩ := at_lt hlt
      have huu := hqu u (List.mem_of_getElem? hu)
      have hQk := hQ k
      have htk : quL (q.b.s.queues.take (k + 1)) = quL (q.b.s.queues.take k) ++ 113 :: itemL u.items := take_flat _ hu
      simp [hlt, extMem, strs_size]
      refine ⟨by show _ + 1 ≤ _; omega, ?_⟩
      refine vc_loop (OuD x q k u) ⟨_, _, .mk 0 (Nat.zero_le _), [], _, rfl, by simp [extMem, itemL, c113, strs_app]⟩ ?_
      rintro n σ ⟨j, hj⟩
      have hI : (itemL (u.items.take j)).length ≤ 32 * 64 := by
        have h1 := itemL_len (l := u.items.take j) fun v hv => huu.1 v (List.mem_of_mem_take hv)
        have h2 : (u.items.take j).length ≤ 64 := by rw [List.length_take]; omega
        omega
      by_cases hjl : j < u.items.length
      · obtain ⟨v, hv, e2⟩ := at_lt hjl
        have hvv := huu.1 v (List.mem_of_getElem? hv)
        have h1 := digZ_len hvv
        have htj : itemL (u.items.take (j + 1)) = itemL (u.items.take j) ++ 32 :: digZ v := take_flat _ hv
        simp [hlt, e, hjl, e2, extMem, strs_size]
        refine ⟨by show _ + 1 ≤ _; omega, (digits_m v hvv).mono ?_⟩
        rintro _ rfl
        simp [strs_size, c32, strs_app, wrap_succ hjl (show u.items.length < 4294967296 by omega)]
        refine ⟨by omega, u.items.length - (j + 1), by omega, _, .mk (j + 1) hjl, [], _, rfl, by simp [extMem, htj]⟩
      · obtain rfl : j = u.items.length := by omega
        simp [hlt, e, extMem, wrap_succ hlt (show q.b.s.queues.length < 4294967296 by omega)]
        refine ⟨q.b.s.queues.length - (k + 1), by omega, _, .mk (k + 1) hlt, [], _, rfl, by simp [extMem, htk]⟩
    · obtain rfl : k = q.b.s.queues.length := by omega
      have hQk := hQ q.b.s.queues.length
      rw [List.take_length] at hQk
      simp [extMem]
      refine vc_loop (OuG x q) ⟨_, _, .mk 0 (Nat.zero_le _), [], _, rfl, by simp [extMem, grL]⟩ ?_
      rintro n σ ⟨k, hk⟩
      have hGk := hG k
      by_cases hlt : k < q.b.s.groups.length
      · obtain ⟨g, hg, e⟩ := at_lt hlt
        have hgg := hgr g (List.mem_of_getElem? hg)
        have h1 := digZ_len hgg
        have htk : grL (q.b.s.groups.take (k + 1)) = grL (q.b.s.groups.take k) ++ 103 :: digZ g := take_flat _ hg
        simp [hlt, e, extMem, strs_size]
        refine ⟨by show _ + 1 ≤ _; omega, (digits_m g hgg).mono ?_⟩
        rintro _ rfl
        simp [strs_size, c103, strs_app, wrap_succ hlt (show q.b.s.groups.length < 4294967296 by omega)]
        refine ⟨by omega, q.b.s.groups.length - (k + 1), by omega, _, .mk (k + 1) hlt, [], _, rfl, by simp [extMem, htk]⟩
      · obtain rfl : k = q.b.s.groups.length := by omega
        simp [extMem]
        refine vcRet_of [] ?_ rfl
        simp [outL]
end Go.Proofs.YtplooifpgmlofaaGreat
namespace Go.Proofs.YtplooifpgmlofaaGreat
open Go.RowKit
open Lo (Sy Lk Qu onLock onQueue addS lockF unlockF rlockF runlockF sendF recvF shutF recvV recvB thereS chk Fits)

structure XOk (x : Sx) : Prop where
  ok : SxOk x
  vals : ∀ l ∈ x.ps, ∀ y ∈ l, I64 y.val
  items : ∀ u ∈ x.s.queues, ∀ v ∈ u.items, I64 v
structure BOk (b : Bn) : Prop where
  rs : ∀ r ∈ b.rs, I64 r.val ∧ I64 r.err
  items : ∀ u ∈ b.s.queues, ∀ v ∈ u.items, I64 v
theorem i64_lit {n : Int} (h : -1000 ≤ n ∧ n ≤ 1000) : I64 n := ⟨by omega, by omega⟩
theorem onLock_q (s : Sy) (lock t : Int) (F : Lk → Int × Lk) : (onLock s lock t F).1.queues = s.queues := by
  unfold onLock
  split
  · rfl
  · split <;> rfl
theorem addS_q (s : Sy) (n v : Int) : (addS s n v).1.queues = s.queues := by
  unfold addS
  split
  · rfl
  · split <;> rfl
theorem onQueue_q {s : Sy} (h : ∀ u ∈ s.queues, ∀ v ∈ u.items, I64 v) (n : Int) {F : Qu → Int × Qu} (hF : ∀ q, (∀ v ∈ q.items, I64 v) → ∀ v ∈ (F q).2.items, I64 v) : ∀ u ∈ (onQueue s n F).1.queues, ∀ v ∈ u.items, I64 v := by
  unfold onQueue
  split
  · exact h
  · split
    · exact h
    · intro u hu
      rcases List.mem_or_eq_of_mem_set hu with hl | rfl
      · exact h u hl
      · refine hF _ fun v hv => ?_
        rw [List.getD_eq_getElem?_getD] at hv
        cases hk : s.queues[n.toNat]? with
        | none => rw [hk] at hv; cases hv
        | some u => rw [hk] at hv; exact h u (List.mem_of_getElem? hk) v hv
theorem chk_small (s : Sy) : -1000 ≤ chk s ∧ chk s ≤ 1000 := by
  unfold chk
  repeat' split
  all_goals omega
theorem known_small (s : Sy) (a b : Int) : -1000 ≤ Lo.known s a b ∧ Lo.known s a b ≤ 1000 := by
  have := chk_small s
  unfold Lo.known
  repeat' split
  all_goals omega
theorem queueE_small (s : Sy) (a : Int) : -1000 ≤ Lo.queueE s a ∧ Lo.queueE s a ≤ 1000 := by
  have := chk_small s
  unfold Lo.queueE
  repeat' split
  all_goals omega
theorem groupE_small (s : Sy) (a : Int) : -1000 ≤ Lo.groupE s a ∧ Lo.groupE s a ≤ 1000 := by
  have := chk_small s
  unfold Lo.groupE
  repeat' split
  all_goals omega
theorem onLock_e (s : Sy) (a b : Int) {F : Lk → Int × Lk} (hF : ∀ l, -1000 ≤ (F l).1 ∧ (F l).1 ≤ 1000) : I64 (onLock s a b F).2 := by
  unfold onLock
  split
  · exact i64_lit (known_small s a b)
  · split
    · exact i64_lit (hF _)
    · exact i64_lit (by omega)
theorem onQueue_e (s : Sy) (a : Int) {F : Qu → Int × Qu} (hF : ∀ l, -1000 ≤ (F l).1 ∧ (F l).1 ≤ 1000) : I64 (onQueue s a F).2 := by
  unfold onQueue
  split
  · exact i64_lit (queueE_small s a)
  · split
    · exact i64_lit (hF _)
    · exact i64_lit (by omega)
theorem addS_e (s : Sy) (a b : Int) : I64 (addS s a b).2 := by
  unfold addS
  split
  · exact i64_lit (groupE_small s a)
  · split
    · exact i64_lit (by omega)
    · exact i64_lit (by omega)
theorem err_act (b : Bn) (t : Int) (y : Ins) : I64 (actB b t y).2 := by
  have z : I64 0 := i64_lit (by omega)
  unfold actB
  split
  · exact z
  split
  · exact onLock_e _ _ _ fun l => by unfold lockF; repeat' split
                                     all_goals simp
  split
  · exact onLock_e _ _ _ fun l => by unfold unlockF; repeat' split
                                     all_goals simp
  split
  · exact onLock_e _ _ _ fun l => by unfold rlockF; repeat' split
                                     all_goals simp
  split
  · exact onLock_e _ _ _ fun l => by unfold runlockF; repeat' split
                                     all_goals simp
  split
  · exact onQueue_e _ _ fun l => by unfold sendF; repeat' split
                                    all_goals simp
  split
  · exact onQueue_e _ _ fun l => by unfold recvF; repeat' split
                                    all_goals simp
  split
  · exact onQueue_e _ _ fun l => by unfold shutF; repeat' split
                                    all_goals simp
  split
  · exact addS_e _ _ _
  split
  · exact addS_e _ _ _
  · exact z
theorem recvV_in {s : Sy} (h : ∀ u ∈ s.queues, ∀ v ∈ u.items, I64 v) (n : Int) : I64 (recvV s n) := by
  have z : I64 0 := i64_lit (by omega)
  unfold recvV
  split
  · rw [List.getD_eq_getElem?_getD]
    cases hk : s.queues[n.toNat]? with
    | none => exact z
    | some u =>
      show I64 (u.items.headD 0)
      cases hu : u.items with
      | nil => exact z
      | cons v l => exact h u (List.mem_of_getElem? hk) v (by rw [hu]; simp)
  · exact z
theorem bok_act {b : Bn} (h : BOk b) (t : Int) {y : Ins} (hy : I64 y.val) : BOk (actB b t y).1 := by
  have z : I64 0 := i64_lit (by omega)
  unfold actB
  split
  · refine ⟨fun r hr => ?_, h.items⟩
    rcases List.mem_append.1 (show r ∈ b.rs ++ [⟨t, y.val, 0⟩] from hr) with hr | hr
    · exact h.rs r hr
    · simp at hr; subst hr; exact ⟨hy, z⟩
  split
  · exact ⟨h.rs, by dsimp only; rw [onLock_q]; exact h.items⟩
  split
  · exact ⟨h.rs, by dsimp only; rw [onLock_q]; exact h.items⟩
  split
  · exact ⟨h.rs, by dsimp only; rw [onLock_q]; exact h.items⟩
  split
  · exact ⟨h.rs, by dsimp only; rw [onLock_q]; exact h.items⟩
  split
  · refine ⟨h.rs, onQueue_q h.items _ fun q hq v hv => ?_⟩
    unfold sendF at hv
    split at hv
    · exact hq v hv
    · split at hv
      · exact hq v hv
      · rcases List.mem_append.1 (show v ∈ q.items ++ [y.val] from hv) with hv | hv
        · exact hq v hv
        · simp at hv; subst hv; exact hy
  split
  · refine ⟨fun r hr => ?_, onQueue_q h.items _ fun q hq v hv => ?_⟩
    · dsimp only at hr
      split at hr
      · rcases List.mem_append.1 hr with hr | hr
        · exact h.rs r hr
        · simp at hr; subst hr
          refine ⟨?_, z⟩
          dsimp only
          split
          · exact recvV_in h.items _
          · exact i64_lit (by omega)
      · exact h.rs r hr
    · unfold recvF at hv
      split at hv
      · exact hq v (List.mem_of_mem_eraseIdx (show v ∈ q.items.eraseIdx 0 from hv))
      · split at hv <;> exact hq v hv
  split
  · refine ⟨h.rs, onQueue_q h.items _ fun q hq v hv => ?_⟩
    unfold shutF at hv
    split at hv <;> exact hq v hv
  split
  · exact ⟨h.rs, by dsimp only; rw [addS_q]; exact h.items⟩
  split
  · exact ⟨h.rs, by dsimp only; rw [addS_q]; exact h.items⟩
  · exact h
theorem bok_step {b : Bn} (h : BOk b) {ps : List Prg} (hp : ∀ l ∈ ps, ∀ y ∈ l, I64 y.val) (t : Tk) : BOk (stepB b ps t).1 := by
  unfold stepB
  split
  · exact h
  · rename_i l hl
    split
    · exact h
    · split
      · exact h
      · rename_i y hy
        have hyv := hp l (List.mem_of_getElem? hl) y (List.mem_of_getElem? hy)
        have := bok_act h t.id hyv
        split
        · refine ⟨fun r hr => ?_, this.items⟩
          rcases List.mem_append.1 hr with hr | hr
          · exact this.rs r hr
          · simp at hr; subst hr
            exact ⟨i64_lit (by dsimp only; omega), err_act _ _ _⟩
        · exact this
theorem bok_at {x : Sx} (h : XOk x) (p : List Int) : BOk (atX x p).b := by
  unfold atX
  have : ∀ (p : List Int) (q : Pl), BOk q.b → BOk (p.foldl (stepX x) q).b := by
    intro p
    induction p with
    | nil => exact fun q h => h
    | cons t p ih =>
      intro q hq
      refine ih _ ?_
      unfold stepX
      split
      · exact bok_step hq h.vals _
      · exact hq
  refine this p _ ?_
  rw [show (startX x).b = ⟨x.s, []⟩ from startTo_b _ _ _]
  exact ⟨fun r hr => by simp at hr, h.items⟩
theorem pl_at {x : Sx} (h : SxOk x) (p : List Int) : PlOk x (atX x p) p.length := by
  have : ∀ (p : List Int) (q : Pl) (m : Nat), PlOk x q m → PlOk x (p.foldl (stepX x) q) (m + p.length) := by
    intro p
    induction p with
    | nil => exact fun q m h => h
    | cons t p ih =>
      intro q m hq
      have := ih _ _ (pl_step hq t)
      rw [List.length_cons, show m + (p.length + 1) = m + 1 + p.length by omega]
      exact this
  have := this p _ 0 (pl_start h)
  rwa [Nat.zero_add] at this
theorem at_snoc (x : Sx) (p : List Int) (t : Int) : atX x (p ++ [t]) = stepX x (atX x p) t := by simp [atX]
def sysX (x : Sx) : Sys where
  en := fun p => enTo (atX x p) x.ps.length
  foot := fun p t => footX x (atX x p) t
  done := fun p => doneX (atX x p)
  out := fun p => strOfNums (outL (atX x p))
theorem mem_enTo {q : Pl} {t : Int} : ∀ {k : Nat}, t ∈ enTo q k → 1 ≤ t ∧ t ≤ k
  | 0, h => by cases h
  | k + 1, h => by
    have ih := fun h => mem_enTo (q := q) (t := t) (k := k) h
    unfold enTo at h
    split at h
    · split at h
      · rcases List.mem_append.1 h with h | h
        · have := ih h; omega
        · simp at h; omega
      · have := ih h; omega
    · have := ih h; omega
theorem uses_len (y : Ins) : (usesI y).length ≤ 1 := by
  unfold usesI
  repeat' split
  all_goals simp
theorem sys_fair {x : Sx} (h : XOk x) : Fair (sysX x) where
  pos := fun p t ht => by
    have := mem_enTo (show t ∈ enTo (atX x p) x.ps.length from ht)
    have := h.ok.ps.many
    omega
  few := fun p => by
    have := enTo_le (atX x p) x.ps.length
    have := h.ok.ps.many
    show (enTo (atX x p) x.ps.length).length < 1000
    omega
  uses := fun p t => by
    show (footX x (atX x p) t).length < 1000
    unfold footX
    split
    · split
      · have := uses_len ‹_›; omega
      · simp
    · simp
def plAt (x : Sx) (q : Option (List Int)) : Hid := holdH (match q with
  | some p => plE x (atX x p)
  | none => [plN x])
theorem plLift {x : Sx} {f : Nat} {args : List PV} {q q' : Pl} {v : PV} (ha : ∀ p ∈ args, p.keys = []) (hv : v.keys = []) (h : Meets Tryz.prog f (.ptr 1000000 0 :: args) (plE x q) (PlR x v q')) :
    Meets Tryz.prog f (.ptr 1000000 0 :: args) [.sys (holdH (plE x q))] (fun r => r = ⟨v, [.sys (holdH (plE x q'))], []⟩) := by
  refine Meets.lift ha (by simp) (h.mono ?_)
  rintro _ ⟨g⟩
  refine ⟨[1000000, 1000001, 1000002, 1000003, 1000004], ?_, ?_⟩
  · cases g <;> simp [liftOk, resObj, flatO, isNest, extMem, rcG] <;> exact hv
  · cases g <;> simp [liftObjs, resObj, extMem, rcG] <;> rfl
theorem plLift0 {x : Sx} {f : Nat} {args : List PV} {q q' : Pl} {v : PV} (ha : ∀ p ∈ args, p.keys = []) (hv : v.keys = []) (h : Meets Tryz.prog f (.ptr 1000000 0 :: args) (plE x q) (fun r => r = ⟨v, plE x q', []⟩)) :
    Meets Tryz.prog f (.ptr 1000000 0 :: args) [.sys (holdH (plE x q))] (fun r => r = ⟨v, [.sys (holdH (plE x q'))], []⟩) :=
  plLift ha hv (h.mono (by rintro _ rfl; exact .mk false))
theorem plBegin {x : Sx} (h : SxOk x) (q : Option (List Int)) : Meets Tryz.prog 28 [.ptr 1000000 0] [.sys (plAt x q)] (fun r => r = ⟨unitV, [.sys (plAt x (some []))], []⟩) := by
  cases q with
  | none =>
    refine Meets.lift (args := []) (by simp) (by simp) ((pStart0_m x h).mono ?_)
    rintro _ rfl
    refine ⟨[1000000, 2000000, 2000001, 2000002, 2000003], ?_, ?_⟩
    · simp [liftOk, resObj, flatO, isNest, extMem]
    · simp [liftObjs, resObj, extMem, plAt, atX]
      rfl
  | some p =>
    refine Meets.lift (args := []) (by simp) (by simp) ((pStart1_m x h (atX x p)).mono ?_)
    rintro _ rfl
    refine ⟨[1000000, 2000000, 2000001, 2000002, 2000003], ?_, ?_⟩
    · simp [liftOk, resObj, flatO, isNest, extMem]
    · simp [liftObjs, resObj, extMem, plAt, atX]
      rfl
def refP (x : Sx) (h : XOk x) : Plr (sysX x) where
  t := 38
  fS := 28
  fE := 52
  fT := 30
  fF := 29
  fD := 74
  fO := 53
  nS := by kernel_rfl
  nE := by kernel_rfl
  nT := by kernel_rfl
  nF := by kernel_rfl
  nD := by kernel_rfl
  nO := by kernel_rfl
  at_ := plAt x
  mS := fun q _ => plBegin h.ok q
  mE := fun p _ => plLift0 (args := []) (by simp) rfl (pEnabled_m x h.ok (atX x p) p.length (pl_at h.ok p))
  mT := fun p t hp ht h60 => by
    have h1 := mem_enTo (show t ∈ enTo (atX x p) x.ps.length from ht)
    obtain ⟨k, rfl⟩ : ∃ k : Nat, t = k := ⟨t.toNat, by omega⟩
    have := pStep_m x h.ok (atX x p) p.length (pl_at h.ok p) (by omega) k (by omega)
    rw [← at_snoc] at this
    exact plLift (args := [.i k]) (by simp) rfl this
  mF := fun p t _ ht => by
    have h1 := mem_enTo (show t ∈ enTo (atX x p) x.ps.length from ht)
    obtain ⟨k, rfl⟩ : ∃ k : Nat, t = k := ⟨t.toNat, by omega⟩
    exact plLift0 (args := [.i k]) (by simp) rfl (pFoot_m x h.ok (atX x p) p.length (pl_at h.ok p) k (by omega))
  mD := fun p _ => plLift0 (args := []) (by simp) rfl (pDone_m x h.ok (atX x p) p.length (pl_at h.ok p))
  mO := fun p hp => plLift0 (args := []) (by simp) rfl (pOut_m x h.ok (atX x p) p.length (pl_at h.ok p) hp.1 ⟨(bok_at h p).rs, (bok_at h p).items⟩)
end Go.Proofs.YtplooifpgmlofaaGreat
