/- Contracts: network 10. No condition. -/
import Derived.Test.YtgoklgibhmddoaaN8
import Derived.Test.YtgoklgibhmddoaaN5
namespace Go.Proofs.Ytgoklgibhmddoaa
open Go.RowKit
set_option maxRecDepth 100000

theorem arr_stop {now : Int} {p : Pc} {r : List Pc} {a : List Int} (h : ¬ p.time ≤ now) : arr now (p :: r) a = (p :: r, a) := by simp [arr, h]
inductive ArrI (d : Dr) (now : Int) : Nat → Sta → Prop
  | mk (q : List Pc) (a : List Int) (f : Bool) (h1 : arr now d.ps d.ar = arr now q a) (h2 : a.length + fly q = d.n) (h3 : f = true → d.due ≤ now) (h4 : f = false → q = d.ps) :
    ArrI d now q.length ⟨61, [(18, .b f), (0, .d (pcs q)), (1, .d (bs a)), (2, .i d.e), (3, .i d.t), (4, .i d.d), (5, .i now)], []⟩
theorem arrive_m (d : Dr) (hd : d.Fits) (now : Int) (hn : now ≤ 1000000000000) : Meets Try.prog 85 [.d (pcs d.ps), .d (bs d.ar), .i d.e, .i d.t, .i d.d, .i now] []
    (Ret (.tup [.d (pcs (tickD now d).ps), .d (bs (tickD now d).ar), .i (tickD now d).e, .i (tickD now d).t, .i (tickD now d).d, .b (decide (d.due ≤ now))])) := by
  refine meetsH [] tbOk mixed Try.func85 pl85 rfl rfl ?_
  simp [Try.ntmps85]
  refine vc_loop (ArrI d now) ?_ ?_
  · exact ⟨_, _, .mk d.ps d.ar false rfl (by unfold Dr.n; omega) nofun fun _ => rfl, [], _, rfl, by simp⟩
  rintro m σ ⟨q, a, f, h1, h2, h3, h4⟩
  have hnb : d.n < 4294967296 := hd.1
  cases q with
  | nil =>
    have e1 : arr now d.ps d.ar = ([], a) := h1
    by_cases he : d.e = 0
    · simp [he]
      refine vcRet_of [] ?_ rfl
      have hdue : decide (d.due ≤ now) = f := by
        cases f with
        | true => simp [h3 rfl]
        | false =>
          have : d.due = never := by unfold Dr.due; rw [← h4 rfl]; simp [he]
          rw [this]; exact decide_eq_false (by unfold never; omega)
      simp [tickD, endD, e1, he, hdue]
    · by_cases ht : d.t ≤ now
      · simp [he, ht]
        refine vcRet_of [] ?_ rfl
        have hdue : decide (d.due ≤ now) = true := by
          cases f with
          | true => simp [h3 rfl]
          | false =>
            have : d.due = d.t := by unfold Dr.due; rw [← h4 rfl]; simp [he]
            rw [this]; simp [ht]
        simp [tickD, endD, e1, he, ht, hdue]
      · simp [he, ht]
        refine vcRet_of [] ?_ rfl
        have hdue : decide (d.due ≤ now) = f := by
          cases f with
          | true => simp [h3 rfl]
          | false =>
            have : d.due = d.t := by unfold Dr.due; rw [← h4 rfl]; simp [he]
            rw [this]; simp [ht]
        simp [tickD, endD, e1, he, ht, hdue]
  | cons p r =>
    have hfl : fly (p :: r) = p.bytes.length + fly r := rfl
    by_cases hp : p.time ≤ now
    · have w1 : a.length < 4294967296 := by omega
      have w2 : a.length + p.bytes.length < 4294967296 := by omega
      simp [hp, w1, w2]
      refine ⟨by kernel_rfl, ?_⟩
      refine ⟨by omega, r.length, by omega, _, .mk r (a ++ p.bytes) true (by rw [h1]; simp [arr, hp]) (by simp; omega) (fun _ => ?_) nofun, [.view 1], _, (by simp [Prep.all, Prep.run]; rfl), by simp [List.take_of_length_le]⟩
      cases f with
      | true => exact h3 rfl
      | false => unfold Dr.due; rw [← h4 rfl]; exact hp
    · have e1 : arr now d.ps d.ar = (p :: r, a) := by rw [h1, arr_stop hp]
      have hr0 : ¬ ((r.length : Int) + 1 = 0) := by omega
      simp [hp, hr0]
      refine vcRet_of [] ?_ rfl
      have hdue : decide (d.due ≤ now) = f := by
        cases f with
        | true => simp [h3 rfl]
        | false =>
          have : d.due = p.time := by unfold Dr.due; rw [← h4 rfl]
          rw [this]; simp [hp]
      simp [tickD, endD, e1, hdue]
end Go.Proofs.Ytgoklgibhmddoaa
namespace Go.Proofs.Ytgoklgibhmddoaa
open Go.RowKit
set_option maxRecDepth 100000

@[simp] def nestN (XS : List (List D)) : MObj := .nest 67 16 XS (fun _ => false) [] none
@[simp] def nestF (XS : List (List D)) (k : Nat) (ps : List PV) : MObj := .nest 67 16 XS (fun _ => false) [] (some (k, ps))
def evs1 (l : List Pl) (to : Int) (c : Cn) : List (Int × Int) := if c.status = 0 ∧ c.ready ≤ to then [(if (planOf l c).fail = 0 then 1 else 2, c.id)] else []
theorem evs1_len (l : List Pl) (to : Int) (c : Cn) : (evs1 l to c).length ≤ 1 := by unfold evs1; split <;> simp
abbrev tickMem (s : Nw) (to : Int) (XS : List (List D)) (k : Nat) (ps : List PV) (E : List (Int × Int)) : Mem :=
  [(10030, nestF XS k ps), (9, .row 46 2 (evr E) false), (8, .box 25 [.i to, .i s.next, .rw 30 s.plans.length, .rw 10030 s.conns.length]), (30, .row 54 3 (s.plans.map Pl.ds) false), (4, .box 25 [.i 0, .i 0, nilv, nilv])]
set_option maxHeartbeats 16000000 in
theorem tickR_m (s : Nw) (hf : Fits s) (to : Int) : Meets Try.prog 53 [s.pv, .i to] [] (Ret (.tup [(tickS s to).1.pv, .d (.sl 2 (evr (tickS s to).2.1)), .i (tickS s to).2.2])) := by
  have hf0 := hf
  obtain ⟨f1, f2, f3⟩ := hf
  refine meetsP [(40, [.focus 10030 10 []]), (12, [.only [1, 4, 8, 9, 10, 11] [10030, 9, 8, 30, 4]]), (177, [.only [1, 4, 8, 9, 10, 11, 12, 13] [10030, 9, 8, 30, 4]])] tbOk mixed Try.func53 pl53 rfl rfl ?_
  simp [Try.ntmps53]
  refine (checkR_m s hf0).mono ?_
  rintro _ rfl
  by_cases hc : chk s = 0
  case neg =>
    simp [hc]
    refine vcRet_of [] ?_ rfl
    simp [tickS, hc]
  simp [hc]
  refine (between_m to s.now 1000000000000).mono ?_
  rintro _ rfl
  cases hto : inR to s.now 1000000000000
  · simp
    refine vcRet_of [] ?_ rfl
    simp [tickS, hc, hto]
  have hto2 : s.now ≤ to ∧ to ≤ 1000000000000 := by unfold inR at hto; simpa using hto
  simp
  refine (copyRD_m s hf0).mono ?_
  rintro _ rfl
  simp
  refine ⟨idx2 (by simp) (by simp), ?_⟩
  refine vc_loop (fun m σ => ∃ k : Nat, m = s.conns.length - k ∧ k ≤ s.conns.length ∧ ∃ l : List Cn, l = mid s.plans to s.conns k ∧ ∃ E : List (Int × Int), E = evUp s.plans to s.conns k ∧ σ = ⟨205, [(10, .i k), (9, .rw 9 E.length), (1, .i to), (8, .ptr 8 0), (4, .ptr 4 0)],
    [(10030, nestN (l.map Cn.ds)), (9, .row 46 2 (evr E) false), (8, .box 25 [.i to, .i s.next, .rw 30 s.plans.length, .rw 10030 s.conns.length]), (30, .row 54 3 (s.plans.map Pl.ds) false), (4, .box 25 [.i 0, .i 0, nilv, nilv])]⟩) ?_ ?_
  · exact ⟨_, _, ⟨0, rfl, Nat.zero_le _, s.conns, by simp [mid], [], by simp [evUp], rfl⟩, [.row 9 46 2], _, rfl, by simp⟩
  rintro m σ ⟨k, rfl, hk, l, hl, E, hE, rfl⟩
  have hll : l.length = s.conns.length := by rw [hl, mid_len]
  by_cases hlt : k < s.conns.length
  case neg =>
    obtain rfl : k = s.conns.length := by omega
    rw [mid_all] at hl
    rw [evUp, List.take_length] at hE
    simp
    refine vcRet_prep [.unnest 10030, .seen 4 2, .seen 4 3, .view 5] [] (by simp [Prep.all, Prep.run, hll]; rfl) ?_ rfl
    simp [tickS, hc, hto, hl, hE, List.take_of_length_le]
  obtain ⟨c, hcm, e0⟩ := at_lt hlt
  have hlt2 : k < l.length := by omega
  have e : l[k] = c := by
    have := mid_at (l := s.plans) (to := to) hcm
    rw [← hl] at this
    exact (List.getElem?_eq_some_iff.1 this).2
  obtain ⟨g1, g2⟩ := f3 c (List.mem_of_getElem? hcm)
  have hcr := chk_conn hc (List.mem_of_getElem? hcm)
  have hb : 0 ≤ c.backend ∧ c.backend < s.plans.length := by
    unfold cnRanges inR at hcr
    simp only [Bool.and_eq_true, decide_eq_true_eq] at hcr
    omega
  have hblt : c.backend.toNat < s.plans.length := by omega
  obtain ⟨p, hpm, ep⟩ := at_lt hblt
  have hpg : planOf s.plans c = p := by unfold planOf; rw [List.getD_eq_getElem?_getD, hpm]; rfl
  have hset := mid_set (l := s.plans) (to := to) hcm
  have hfl := flat_succ (l := s.plans) (to := to) hcm
  have hEl := evflat_len s.plans to (s.conns.take k)
  rw [show (s.conns.take k).flatMap (evsOf s.plans to) = E from hE.symm] at hEl
  have hkl : (s.conns.take k).length ≤ 500 := by have := (chk_zero hc).2.1; rw [List.length_take]; omega
  have hE1 : E.length + 1 < 4294967296 := by omega
  rw [← hl] at hset
  rw [← hE] at hfl
  rw [vc_seq, vc_seq]
  simp [hlt, -vc_seq]
  rw [vc_seq]
  simp [-vc_seq]
  rw [vc_seq]
  simp [hlt, hll, e, cn_explicit c, Prep.run, -vc_seq]
  refine vc_cut (fun σ' => Prep.run σ' (.only [1, 4, 8, 9, 10, 11] [10030, 9, 8, 30, 4]) = some ⟨205, [(1, .i to), (4, .ptr 4 0), (8, .ptr 8 0), (9, .rw 9 (E ++ evs1 s.plans to c).length), (10, .i k), (11, .rp 10030 16 k 0)],
    tickMem s to (l.map Cn.ds) k (cnC { c with status := tickSt s.plans to c } (.d (pcs c.up.ps)) (.d (pcs c.dn.ps)) (.d (bs c.up.ar)) (.d (bs c.dn.ar))) (E ++ evs1 s.plans to c)⟩) ?_ ?_
  case refine_2 =>
    intro T' hT
    by_cases hA : c.status = 0
    case neg =>
      simp [hA]
      exact hT _ (by simp [Prep.run, evs1, tickSt, hA])
    by_cases hR : c.ready ≤ to
    case neg =>
      simp [hA, hR]
      exact hT _ (by simp [Prep.run, evs1, tickSt, hA, hR])
    by_cases hB : p.fail = 0
    · simp [hA, hR, hb.1, hb.2, hblt, ep, hB, hE1]
      refine ⟨by kernel_rfl, ?_⟩
      exact hT _ (by simp [Prep.run, evs1, tickSt, hA, hR, hpg, hB])
    · simp [hA, hR, hb.1, hb.2, hblt, ep, hB, hE1]
      refine ⟨by kernel_rfl, ?_⟩
      exact hT _ (by simp [Prep.run, evs1, tickSt, hA, hR, hpg, hB])
  rintro σ' h
  have hv := evs1_len s.plans to c
  have hev : evsOf s.plans to c = evs1 s.plans to c ++ (if c.up.due ≤ to then [(3, c.id)] else []) ++ (if c.dn.due ≤ to then [(4, c.id)] else []) := rfl
  generalize hE' : E ++ evs1 s.plans to c = E' at h
  have hE2 : E'.length + 1 < 4294967296 := by rw [← hE']; simp; omega
  have hE3 : E'.length + 2 < 4294967296 := by rw [← hE']; simp; omega
  rw [hev, ← List.append_assoc, ← List.append_assoc, hE'] at hfl
  clear hE1 hE'
  rw [vc_seq]
  simp [h, -vc_seq]
  rw [vc_seq]
  simp [-vc_seq]
  refine effCall (arrive_m c.up g1 to hto2.2) ?_
  simp [-vc_seq]
  refine ⟨by kernel_rfl, ?_⟩
  rw [vc_seq]
  simp [-vc_seq]
  refine effCall (arrive_m c.dn g2 to hto2.2) ?_
  simp [-vc_seq]
  refine ⟨by kernel_rfl, ?_⟩
  have hds := tick_ds s.plans to c
  by_cases hd2 : (tickD to c.dn).d = 2
  · by_cases hu : c.up.due ≤ to
    all_goals
      by_cases hw : c.dn.due ≤ to
      all_goals
        simp [Prep.run, hd2, hu, hw, hE2, hE3, wrap_succ hlt f2]
        refine ⟨_, by omega, _, ⟨k + 1, rfl, hlt, rfl⟩, [.cellN 10030 9 800003 5 1, .seenN 10030 9, .close 10030], _, (by simp [Prep.all, Prep.run]; rfl), ?_⟩
        simp [← hset, hfl, List.map_set, hds, clearD, hd2, hu, hw]
  · by_cases hu : c.up.due ≤ to
    all_goals
      by_cases hw : c.dn.due ≤ to
      all_goals
        simp [Prep.run, hd2, hu, hw, hE2, hE3, wrap_succ hlt f2]
        refine ⟨_, by omega, _, ⟨k + 1, rfl, hlt, rfl⟩, [.close 10030], _, (by simp [Prep.all, Prep.run]; rfl), ?_⟩
        simp [← hset, hfl, List.map_set, hds, clearD, hd2, hu, hw]
theorem sameEvents_m (l : List (Int × Int)) (hl : l.length < 4294967296) : Meets Try.prog 54 [.d (.sl 2 (evr l)), .d (.sl 2 (evr l))] [] (Ret (.b true)) := by
  refine meetsH [] tbOk mixed Try.func54 pl54 rfl rfl ?_
  simp [Try.ntmps54]
  refine vc_loop (fun m σ => ∃ k : Nat, m = l.length - k ∧ k ≤ l.length ∧ σ = ⟨26, [(5, .i k), (0, .d (.sl 2 (evr l))), (1, .d (.sl 2 (evr l)))], []⟩) ?_ ?_
  · exact ⟨_, _, ⟨0, rfl, Nat.zero_le _, rfl⟩, [], _, rfl, by simp⟩
  rintro m σ ⟨k, rfl, hk, rfl⟩
  by_cases hlt : k < l.length
  · obtain ⟨p, hp, e⟩ := at_lt hlt
    simp [hlt, e, wrap_succ hlt hl]
    refine ⟨by kernel_rfl, ?_⟩
    exact ⟨_, by omega, _, ⟨k + 1, rfl, hlt, rfl⟩, [], _, rfl, by simp⟩
  obtain rfl : k = l.length := by omega
  simp
  exact vcRet_of [] (by simp) rfl
end Go.Proofs.Ytgoklgibhmddoaa
