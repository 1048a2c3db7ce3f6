/- Locks: contracts (N9). No condition. -/
import Derived.Test.YtnkoibhjnahkiaaN8
import Derived.Test.YtnkoibhjnahkiaaN6
namespace Go.Proofs.Ytnkoibhjnahkiaa
open Go.RowKit
set_option maxRecDepth 100000

@[simp] def bcs (b : Bool) : List D := [.v (.bool b)]
def flC (n k : Nat) : List Bool := (List.range n).map fun i => decide (i < k)
theorem flC_len (n k : Nat) : (flC n k).length = n := by simp [flC]
theorem flC_set {n k : Nat} : (flC n k).set k true = flC n (k + 1) := by
  apply List.ext_getElem?
  intro i
  rw [List.getElem?_set]
  unfold flC
  rcases Nat.lt_or_ge i n with h | h
  · rw [List.getElem?_map, List.getElem?_map, List.getElem?_range h]
    simp only [List.length_map, List.length_range, Option.map_some]
    by_cases e : k = i
    · subst e; simp [h]
    · simp [e]; omega
  · rw [List.getElem?_eq_none (l := List.map (fun i => decide (i < k + 1)) (List.range n)) (by simp; omega), List.getElem?_eq_none (by simp; omega)]
    by_cases e : k = i
    · rw [if_pos e, if_neg (by simp; omega)]
    · rw [if_neg e]
theorem flC_zero (n : Nat) : flC n 0 = List.replicate n false := by
  apply List.ext_getElem?
  intro i
  unfold flC
  rcases Nat.lt_or_ge i n with h | h
  · rw [List.getElem?_map, List.getElem?_range h, List.getElem?_replicate, if_pos h]; simp
  · rw [List.getElem?_eq_none (by simp; omega), List.getElem?_eq_none (by simp; omega)]
theorem flC_all (tasks : List Int) : flC tasks.length tasks.length = flg tasks tasks := by
  apply List.ext_getElem?
  intro i
  unfold flC flg
  rcases Nat.lt_or_ge i tasks.length with h | h
  · obtain ⟨x, hx, _⟩ := at_lt h
    rw [List.getElem?_map, List.getElem?_range h, List.getElem?_map, hx]
    simp [h, List.mem_of_getElem? hx]
  · rw [List.getElem?_eq_none (by simp; omega), List.getElem?_eq_none (by simp; omega)]
theorem flg_at {tasks st : List Int} {k : Nat} {t : Int} (h : tasks[k]? = some t) : (flg tasks st)[k]? = some (decide (t ∈ st)) := by
  unfold flg; rw [List.getElem?_map, h]; rfl
theorem flg_len (tasks st : List Int) : (flg tasks st).length = tasks.length := by simp [flg]
theorem nodup_inj {l : List Int} (h : l.Nodup) {i j : Nat} {x : Int} (hi : l[i]? = some x) (hj : l[j]? = some x) : i = j := by
  obtain ⟨h1, h2⟩ := List.getElem?_eq_some_iff.1 hi
  obtain ⟨h3, h4⟩ := List.getElem?_eq_some_iff.1 hj
  exact (List.getElem_inj h).1 (h2.trans h4.symm)
theorem flg_rest {tasks st : List Int} (hnd : tasks.Nodup) {k : Nat} {t : Int} (h : tasks[k]? = some t) : (flg tasks st).set k false = flg tasks (rest t st) := by
  apply List.ext_getElem?
  intro i
  rw [List.getElem?_set, flg_len]
  rcases Nat.lt_or_ge i tasks.length with hi | hi
  · obtain ⟨x, hx, _⟩ := at_lt hi
    rw [flg_at hx, flg_at hx]
    by_cases e : k = i
    · subst e
      rw [h] at hx; cases hx
      simp [hi, rest]
    · have hne : ¬ x = t := fun e2 => e (nodup_inj hnd h (by rw [hx, e2]))
      simp [e, rest, hne]
  · rw [List.getElem?_eq_none (l := flg tasks st) (by rw [flg_len]; exact hi), List.getElem?_eq_none (l := flg tasks (rest t st)) (by rw [flg_len]; exact hi)]
    by_cases e : k = i
    · rw [if_pos e, if_neg (by omega)]
    · rw [if_neg e]
theorem blks_mem {s : Sy} {w : Wt} {b : Int} (h1 : 1 ≤ b) (h2 : b ≤ 200) : b ∈ blks s w ↔ blocksS s b w = true := by
  unfold blks blocksS
  generalize s.locks.getD w.obj.toNat default = L
  by_cases k1 : w.kind = 1
  · by_cases o : 1 ≤ w.obj ∧ w.obj ≤ 200
    · simp [k1, o]; omega
    · simp [k1, o]; omega
  · by_cases k3 : w.kind = 3
    · by_cases o1 : 0 ≤ w.obj
      · by_cases o2 : w.obj < s.locks.length
        · by_cases t0 : w.til = 0
          · by_cases hh : 0 < L.hold
            · have hcm : (L.hold = b) = (b = L.hold) := propext eq_comm
              have g1 : ¬ w.obj < 0 := by omega
              have g2 : ¬ (s.locks.length : Int) ≤ w.obj := by omega
              simp [k3, o1, o2, t0, hh, hcm, g1, g2]
            · have hcm : ¬ L.hold = b := by omega
              have g1 : ¬ w.obj < 0 := by omega
              have g2 : ¬ (s.locks.length : Int) ≤ w.obj := by omega
              simp [k3, o1, o2, t0, hh, hcm, g1, g2]
          · by_cases t1 : w.til = 1
            · by_cases hh : 0 < L.hold
              · simp only [k3, o1, o2, t1, hh]; simp; omega
              · simp only [k3, o1, o2, t1, hh]; simp; omega
            · simp [k3, t0, t1]
        · have : (s.locks.length : Int) ≤ w.obj := by omega
          simp [k3, o2, this]
      · have : w.obj < 0 := by omega
        simp [k3, o1, this]
    · simp [k1, k3]
theorem held_eq {s : Sy} {w : Wt} {tasks st : List Int} (hin : ∀ t ∈ tasks, 1 ≤ t ∧ t ≤ 200) (hsub : ∀ t ∈ st, t ∈ tasks) : (tasks.any fun t => decide (t ∈ st) && blocksS s t w) = held s w st := by
  rw [Bool.eq_iff_iff]
  unfold held
  simp only [List.any_eq_true, Bool.and_eq_true, decide_eq_true_eq]
  constructor
  · rintro ⟨t, ht, h1, h2⟩
    exact ⟨t, (blks_mem (hin t ht).1 (hin t ht).2).2 h2, h1⟩
  · rintro ⟨b, hb, h1⟩
    have hbt := hsub b h1
    exact ⟨b, hbt, h1, (blks_mem (hin b hbt).1 (hin b hbt).2).1 hb⟩
end Go.Proofs.Ytnkoibhjnahkiaa
namespace Go.Proofs.Ytnkoibhjnahkiaa
open Go.RowKit
set_option maxRecDepth 100000

@[simp] def rowF (fl : List Bool) : MObj := .row 4 1 (fl.map bcs) false
inductive OutR (s : Sy) (tasks : List Int) (waits : List Wt) : Nat → Sta → Prop
  | mk (st : List Int) (ag : Bool) (hsub : ∀ t ∈ st, t ∈ tasks) (hfin : fin s tasks waits st = fin s tasks waits tasks) (hdone : ag = false → fin s tasks waits st = st) :
    OutR s tasks waits (2 * st.length + bif ag then 1 else 0) ⟨150, [(14, .b ag), (12, .rw 70 tasks.length), (3, .ptr 3 0), (1, .d (il tasks)), (2, .d (wts waits))], [(70, rowF (flg tasks st)), (3, s.box)]⟩
set_option maxHeartbeats 8000000 in
theorem refStuck_m (s : Sy) (hf : Fits s) (tasks : List Int) (waits : List Wt) (ht : tasks.length < 4294967296) (_hw : waits.length < 4294967296) :
    Meets Try.prog 15 [s.pv, .d (il tasks), .d (wts waits)] [] (Ret (.tup [.d (il (stuckS s tasks waits).1), .i (stuckS s tasks waits).2])) := by
  refine meetsH [] tbOk mixed Try.func15 pl15 rfl rfl ?_
  simp [Try.ntmps15]
  refine (refCheck_m s hf).mono ?_
  rintro _ rfl
  by_cases hc : chk s = 0
  case neg =>
    simp [hc]
    refine vcRet_of [] ?_ rfl
    simp [stuckS, stuckE, hc]
  by_cases hl : tasks.length = waits.length
  case neg =>
    have hl' : ¬ (tasks.length : Int) = waits.length := by omega
    simp [hc, hl']
    refine vcRet_of [] ?_ rfl
    simp [stuckS, stuckE, hc, hl]
  by_cases h2 : (200 : Int) < tasks.length
  · simp [hc, ← hl, h2]
    refine vcRet_of [] ?_ rfl
    have : 200 < tasks.length := by omega
    simp [stuckS, stuckE, hc, ← hl, this]
  have h2n : ¬ 200 < tasks.length := by omega
  simp [hc, ← hl, h2]
  refine vc_loop (fun m σ => ∃ k : Nat, m = tasks.length - k ∧ k ≤ tasks.length ∧ noneTo (fun t => !inT t) tasks k ∧ σ = ⟨150, [(9, .i k), (3, .ptr 3 0), (1, .d (il tasks)), (2, .d (wts waits))], [(3, s.box)]⟩) ?_ ?_
  · exact ⟨_, _, ⟨0, rfl, Nat.zero_le _, noneTo_zero _ _, rfl⟩, [], _, rfl, by simp⟩
  rintro m σ ⟨k, rfl, hk, hn, rfl⟩
  by_cases hlt : k < tasks.length
  · obtain ⟨t, hx, e⟩ := at_lt hlt
    simp [hlt, e]
    refine (between_m t 1 200).mono ?_
    rintro _ rfl
    cases hb : inT t
    · have hb' : (decide (1 ≤ t) && decide (t ≤ 200)) = false := hb
      simp [hb']
      refine vcRet_of [] ?_ rfl
      have := any_at (p := fun t => !inT t) hx (by simp [hb])
      simp [stuckS, stuckE, hc, ← hl, h2n, this]
    · have hb' : (decide (1 ≤ t) && decide (t ≤ 200)) = true := hb
      simp [hb', wrap_succ hlt ht]
      exact ⟨_, by omega, _, ⟨k + 1, rfl, hlt, noneTo_succ hn hx (by simp [hb]), rfl⟩, [], _, rfl, by simp⟩
  obtain rfl : k = tasks.length := by omega
  have h7 := noneTo_any hn
  have hin : ∀ t ∈ tasks, 1 ≤ t ∧ t ≤ 200 := fun t h => by
    have := List.any_eq_false.1 h7 t h
    simpa [inT] using this
  simp
  refine vc_loop (fun m σ => ∃ k : Nat, m = tasks.length - k ∧ k ≤ tasks.length ∧ (tasks.take k).Nodup ∧ σ = ⟨150, [(10, .i k), (3, .ptr 3 0), (1, .d (il tasks)), (2, .d (wts waits))], [(3, s.box)]⟩) ?_ ?_
  · exact ⟨_, _, ⟨0, rfl, Nat.zero_le _, by simp, rfl⟩, [], _, rfl, by simp⟩
  rintro m σ ⟨k, rfl, hk, hnd, rfl⟩
  by_cases hlt : k < tasks.length
  · obtain ⟨t, hx, e⟩ := at_lt hlt
    have htk : tasks.take (k + 1) = tasks.take k ++ [t] := by rw [List.take_add_one, hx]; rfl
    simp [hlt]
    refine vc_loop (fun m' σ => ∃ j : Nat, m' = k - j ∧ j ≤ k ∧ noneTo (fun y => decide (y = t)) tasks j ∧ σ = ⟨150, [(11, .i j), (10, .i k), (3, .ptr 3 0), (1, .d (il tasks)), (2, .d (wts waits))], [(3, s.box)]⟩) ?_ ?_
    · exact ⟨_, _, ⟨0, rfl, Nat.zero_le _, noneTo_zero _ _, rfl⟩, [], _, rfl, by simp⟩
    rintro m' σ ⟨j, rfl, hj, hnj, rfl⟩
    by_cases hjk : j < k
    · have hjt : j < tasks.length := by omega
      obtain ⟨y, hy, ey⟩ := at_lt hjt
      by_cases hyt : t = y
      · simp [hjk, hlt, e, hjt, ey, hyt]
        refine ⟨by kernel_rfl, ?_⟩
        refine vcRet_of [] ?_ rfl
        have hno : ¬ tasks.Nodup := fun h => by
          have := nodup_inj h hx (by rw [hy, hyt])
          omega
        simp [stuckS, stuckE, hc, ← hl, h2n, h7, hno]
      · simp [hjk, hlt, e, hjt, ey, hyt, wrap_succ hjt ht]
        refine ⟨by kernel_rfl, ?_⟩
        exact ⟨_, by omega, _, ⟨j + 1, rfl, hjk, noneTo_succ hnj hy (by simp; exact fun h => hyt h.symm), rfl⟩, [], _, rfl, by simp⟩
    obtain rfl : j = k := by omega
    simp [wrap_succ hlt ht]
    refine ⟨_, by omega, _, ⟨j + 1, rfl, hlt, ?_, rfl⟩, [], _, rfl, by simp⟩
    rw [htk, List.nodup_append]
    refine ⟨hnd, by simp, fun a ha b hb => ?_⟩
    simp at hb
    subst hb
    obtain ⟨i, hi⟩ := List.getElem?_of_mem ha
    rw [List.getElem?_take] at hi
    split at hi
    · rename_i hij
      have := hnj i a hij hi
      simpa using this
    · cases hi
  obtain rfl : k = tasks.length := by omega
  rw [List.take_of_length_le (Nat.le_refl _)] at hnd
  have hE : stuckE s tasks waits = 0 := by simp [stuckE, hc, ← hl, h2n, h7, hnd]
  have hC0 : List.replicate tasks.length [D.v (Value.bool false)] = (flC tasks.length 0).map bcs := by rw [flC_zero, List.map_replicate]; rfl
  simp
  refine ⟨by omega, ?_⟩
  refine vc_loop (fun m σ => ∃ k : Nat, m = tasks.length - k ∧ k ≤ tasks.length ∧ σ = ⟨150, [(13, .i k), (12, .rw 70 tasks.length), (3, .ptr 3 0), (1, .d (il tasks)), (2, .d (wts waits))], [(70, rowF (flC tasks.length k)), (3, s.box)]⟩) ?_ ?_
  · refine ⟨_, _, ⟨0, rfl, Nat.zero_le _, rfl⟩, [], _, rfl, ?_⟩
    simp [hC0]
  rintro m σ ⟨k, rfl, hk, rfl⟩
  by_cases hlt : k < tasks.length
  · have hset : (List.map bcs (flC tasks.length k)).set k [D.v (Value.bool true)] = List.map bcs (flC tasks.length (k + 1)) := by rw [← flC_set, List.map_set]; rfl
    simp [hlt, flC_len, wrap_succ hlt ht]
    exact ⟨_, by omega, _, ⟨k + 1, rfl, hlt, rfl⟩, [], _, rfl, by simp [hset]⟩
  obtain rfl : k = tasks.length := by omega
  rw [flC_all]
  simp
  refine vc_loop (OutR s tasks waits) ?_ ?_
  · refine ⟨_, _, .mk tasks true (fun _ h => h) rfl (by simp), [], _, rfl, ?_⟩
    simp
  rintro m σ ⟨st, ag, hsub, hfin, hdone⟩
  cases ag
  case false =>
    have hst := hdone rfl
    have h0 : ¬ (0 : Int) ∈ st := fun h => by have := (hin 0 (hsub 0 h)).1; omega
    have ho1 : outTo st 1 = [] := by simp [outTo, h0]
    simp
    refine vc_loop (fun m σ => ∃ k : Nat, m = 201 - k ∧ 1 ≤ k ∧ k ≤ 201 ∧ σ = ⟨150, [(19, .i k), (18, .rw 18 (outTo st k).length), (12, .rw 70 tasks.length), (1, .d (il tasks))], [(18, .row 3 1 ((outTo st k).map ics) false), (70, rowF (flg tasks st))]⟩) ?_ ?_
    · refine ⟨_, _, ⟨1, rfl, Nat.le_refl _, by omega, rfl⟩, [.row 18 3 1], _, rfl, ?_⟩
      simp [ho1]
    rintro m σ ⟨k, rfl, hk1, hk, rfl⟩
    have hle := outTo_len st k
    by_cases hlt : k < 201
    · have hI : (k : Int) ≤ 200 := by omega
      simp [hI]
      refine vc_loop (fun m' σ => ∃ j : Nat, m' = tasks.length - j ∧ j ≤ tasks.length ∧ σ = ⟨150, [(20, .i j), (19, .i k), (18, .rw 18 (outTo st k ++ if (k : Int) ∈ tasks.take j ∧ (k : Int) ∈ st then [(k : Int)] else []).length), (12, .rw 70 tasks.length), (1, .d (il tasks))], [(18, .row 3 1 ((outTo st k ++ if (k : Int) ∈ tasks.take j ∧ (k : Int) ∈ st then [(k : Int)] else []).map ics) false), (70, rowF (flg tasks st))]⟩) ?_ ?_
      · refine ⟨_, _, ⟨0, rfl, Nat.zero_le _, rfl⟩, [], _, rfl, ?_⟩
        simp
      rintro m' σ ⟨j, rfl, hj, rfl⟩
      by_cases hjt : j < tasks.length
      · obtain ⟨u, hu, eu⟩ := at_lt hjt
        have hfa := flg_at (st := st) hu
        obtain ⟨hfl, hfg⟩ := List.getElem?_eq_some_iff.1 hfa
        have htk : tasks.take (j + 1) = tasks.take j ++ [u] := by rw [List.take_add_one, hu]; rfl
        by_cases huk : u = (k : Int)
        · have hnot : ¬ (k : Int) ∈ tasks.take j := fun h => by
            obtain ⟨i, hi⟩ := List.getElem?_of_mem h
            rw [List.getElem?_take] at hi
            split at hi
            · have := nodup_inj hnd hi (by rw [hu, huk]); omega
            · cases hi
          by_cases hm : (k : Int) ∈ st
          · have hfk : (flg tasks st)[j] = true := by rw [hfg, huk]; simp [hm]
            simp [hjt, eu, huk, hfk, hnot, flg_len, wrap_succ hjt ht]
            exact ⟨by omega, _, by omega, _, ⟨j + 1, rfl, hjt, rfl⟩, [], _, rfl, by simp [htk, huk, hm]⟩
          · have hfk : (flg tasks st)[j] = false := by rw [hfg, huk]; simp [hm]
            simp [hjt, eu, huk, hfk, hm, flg_len, wrap_succ hjt ht]
            exact ⟨_, by omega, _, ⟨j + 1, rfl, hjt, rfl⟩, [], _, rfl, by simp⟩
        · have hku : ¬ (k : Int) = u := fun h => huk h.symm
          have hiff : ((k : Int) ∈ tasks.take (j + 1) ∧ (k : Int) ∈ st) = ((k : Int) ∈ tasks.take j ∧ (k : Int) ∈ st) := by rw [htk]; simp [hku]
          simp [hjt, eu, huk, wrap_succ hjt ht]
          exact ⟨_, by omega, _, ⟨j + 1, rfl, hjt, rfl⟩, [], _, rfl, by simp [hiff]⟩
      obtain rfl : j = tasks.length := by omega
      have hout : (outTo st k ++ if (k : Int) ∈ tasks.take tasks.length ∧ (k : Int) ∈ st then [(k : Int)] else []) = outTo st (k + 1) := by
        rw [List.take_of_length_le (Nat.le_refl _)]
        by_cases hm : (k : Int) ∈ st
        · simp [outTo, hm, hsub _ hm]
        · simp [outTo, hm]
      rw [hout]
      simp [wrap_succ hlt (by omega)]
      exact ⟨_, by omega, _, ⟨k + 1, rfl, by omega, hlt, rfl⟩, [], _, rfl, by simp⟩
    obtain rfl : k = 201 := by omega
    simp
    refine vcRet_of [] ?_ rfl
    have : stuckS s tasks waits = (outTo st 201, 0) := by simp [stuckS, hE, ← hfin, hst]
    simp [this, List.take_of_length_le]
  simp
  refine vc_loop (fun m σ => ∃ k : Nat, m = tasks.length - k ∧ k ≤ tasks.length ∧ σ = ⟨150, [(15, .i k), (14, .b (decide ((passTo s tasks waits st k).length < st.length))), (12, .rw 70 tasks.length), (3, .ptr 3 0), (1, .d (il tasks)), (2, .d (wts waits))], [(70, rowF (flg tasks (passTo s tasks waits st k))), (3, s.box)]⟩) ?_ ?_
  · refine ⟨_, _, ⟨0, rfl, Nat.zero_le _, rfl⟩, [], _, rfl, ?_⟩
    simp [passTo]
  rintro m σ ⟨k, rfl, hk, rfl⟩
  have hple := passTo_len s tasks waits st k
  have hsubP : ∀ t ∈ passTo s tasks waits st k, t ∈ tasks := fun t h => hsub t (passTo_sub _ h)
  by_cases hlt : k < tasks.length
  · obtain ⟨t, hx, e⟩ := at_lt hlt
    have hlt2 : k < waits.length := by omega
    obtain ⟨w, hy, ey⟩ := at_lt hlt2
    have hstep : passTo s tasks waits st (k + 1) = stepK s t w (passTo s tasks waits st k) := by simp [passTo, hx, hy]
    obtain ⟨P, hP⟩ : ∃ P, passTo s tasks waits st k = P := ⟨_, rfl⟩
    simp only [hP] at hstep hple hsubP ⊢
    have hheld := held_eq (s := s) (w := w) hin hsubP
    simp [hlt]
    refine vc_loop (fun m' σ => ∃ j : Nat, m' = tasks.length - j ∧ j ≤ tasks.length ∧ σ = ⟨150, [(17, .i j), (16, .b ((tasks.take j).any fun t => decide (t ∈ P) && blocksS s t w)), (15, .i k), (14, .b (decide (P.length < st.length))), (12, .rw 70 tasks.length), (3, .ptr 3 0), (1, .d (il tasks)), (2, .d (wts waits))], [(70, rowF (flg tasks P)), (3, s.box)]⟩) ?_ ?_
    · refine ⟨_, _, ⟨0, rfl, Nat.zero_le _, rfl⟩, [], _, rfl, ?_⟩
      simp
    rintro m' σ ⟨j, rfl, hj, rfl⟩
    by_cases hjt : j < tasks.length
    · obtain ⟨u, hu, eu⟩ := at_lt hjt
      have hfa := flg_at (st := P) hu
      obtain ⟨hfl, hfg⟩ := List.getElem?_eq_some_iff.1 hfa
      have hnext : (tasks.take (j + 1)).any (fun t => decide (t ∈ P) && blocksS s t w) = ((tasks.take j).any (fun t => decide (t ∈ P) && blocksS s t w) || (decide (u ∈ P) && blocksS s u w)) := by
        rw [List.take_add_one, hu, List.any_append]; simp
      cases hbl : (tasks.take j).any fun t => decide (t ∈ P) && blocksS s t w
      case true =>
        simp [hjt, wrap_succ hjt ht]
        refine ⟨by kernel_rfl, ?_⟩
        exact ⟨_, by omega, _, ⟨j + 1, rfl, hjt, rfl⟩, [], _, rfl, by simp [hnext, hbl]⟩
      by_cases hm : u ∈ P
      · simp [hjt, hlt2, eu, ey, hfg, hm, flg_len]
        refine effCall (blocks_m s hf u w) ?_
        simp [wrap_succ hjt ht]
        refine ⟨by kernel_rfl, ?_⟩
        exact ⟨_, by omega, _, ⟨j + 1, rfl, hjt, rfl⟩, [], _, rfl, by simp [hnext, hbl, hm]⟩
      · simp [hjt, hfg, hm, flg_len, wrap_succ hjt ht]
        refine ⟨by kernel_rfl, ?_⟩
        exact ⟨_, by omega, _, ⟨j + 1, rfl, hjt, rfl⟩, [], _, rfl, by simp [hnext, hbl, hm]⟩
    obtain rfl : j = tasks.length := by omega
    rw [List.take_of_length_le (Nat.le_refl _), hheld]
    have hfa := flg_at (st := P) hx
    obtain ⟨hfl, hfg⟩ := List.getElem?_eq_some_iff.1 hfa
    by_cases hm : t ∈ P
    case neg =>
      have hs2 : passTo s tasks waits st (k + 1) = P := by rw [hstep]; simp [stepK, hm]
      simp [hlt, hfg, hm, flg_len, wrap_succ hlt ht]
      exact ⟨_, by omega, _, ⟨k + 1, rfl, hlt, rfl⟩, [], _, rfl, by simp [hs2]⟩
    cases hh : held s w P
    · have hs2 : passTo s tasks waits st (k + 1) = rest t P := by rw [hstep]; simp [stepK, hm, hh]
      have hset : (List.map bcs (flg tasks P)).set k [D.v (Value.bool false)] = List.map bcs (flg tasks (rest t P)) := by rw [← flg_rest hnd hx, List.map_set]; rfl
      have hrl := rest_lt hm
      simp [hlt, hfg, hm, flg_len, wrap_succ hlt ht]
      exact ⟨_, by omega, _, ⟨k + 1, rfl, hlt, rfl⟩, [], _, rfl, by simp [hs2, hset]; omega⟩
    · have hs2 : passTo s tasks waits st (k + 1) = P := by rw [hstep]; simp [stepK, hh]
      simp [hlt, hfg, hm, flg_len, wrap_succ hlt ht]
      exact ⟨_, by omega, _, ⟨k + 1, rfl, hlt, rfl⟩, [], _, rfl, by simp [hs2]⟩
  obtain rfl : k = tasks.length := by omega
  simp
  have hfst : (passTo s tasks waits st tasks.length).length < st.length → fin s tasks waits (passTo s tasks waits st tasks.length) = fin s tasks waits st := fun h => by rw [fin.eq_def s tasks waits st, if_pos h]
  by_cases hch : (passTo s tasks waits st tasks.length).length < st.length
  · refine ⟨_, ?_, _, .mk (passTo s tasks waits st tasks.length) true hsubP ((hfst hch).trans hfin) (by simp), [], _, rfl, ?_⟩
    · simp; omega
    · simp [hch]
  · have heq : passTo s tasks waits st tasks.length = st := passTo_same (by omega)
    have hf0 : fin s tasks waits st = st := by rw [fin.eq_def s tasks waits st, if_neg hch]
    refine ⟨_, ?_, _, .mk st false hsub hfin (fun _ => hf0), [], _, rfl, ?_⟩
    · simp
    · simp [heq]
end Go.Proofs.Ytnkoibhjnahkiaa
namespace Go.Proofs.Ytnkoibhjnahkiaa
open Go.RowKit

theorem stuckS_len (s : Sy) (tasks : List Int) (waits : List Wt) : (stuckS s tasks waits).1.length < 4294967296 := by
  unfold stuckS
  split
  · simp
  · have := outTo_len (fin s tasks waits tasks) 201
    simp only; omega
set_option maxRecDepth 100000 in
set_option maxHeartbeats 1000000 in
theorem lawStuck_m (s : Sy) (hs : Lens s) (tasks : List Int) (waits : List Wt) : Meets Try.prog 4 [s.pv, .d (il tasks), .d (wts waits)] [] (Ret (.b true)) := by
  refine meetsH [] tbOk mixed Try.func4 pl4 rfl rfl ?_
  simp [Try.ntmps4]
  refine (far_m s hs).mono ?_
  rintro _ rfl
  cases hfr : far s
  case true =>
    simp
    refine awake_m.mono ?_
    rintro _ rfl
    simp
    exact vcRet_of [] (by simp) rfl
  have hf := far_Fits hfr
  by_cases h : (250 : Int) < tasks.length
  · simp [h]
    refine awake_m.mono ?_
    rintro _ rfl
    simp
    exact vcRet_of [] (by simp) rfl
  by_cases h2 : (250 : Int) < waits.length
  · simp [h, h2]
    refine awake_m.mono ?_
    rintro _ rfl
    simp
    exact vcRet_of [] (by simp) rfl
  simp [h, h2]
  refine (stuck_m s hf tasks waits (by omega) (by omega)).mono ?_
  rintro _ rfl
  simp
  refine (refStuck_m s hf tasks waits (by omega) (by omega)).mono ?_
  rintro _ rfl
  simp
  refine (sameInts_m (stuckS s tasks waits).1 (stuckS s tasks waits).1 (stuckS_len s tasks waits)).mono ?_
  rintro _ rfl
  simp
  refine awake_m.mono ?_
  rintro _ rfl
  simp
  exact vcRet_of [] (by simp) rfl
end Go.Proofs.Ytnkoibhjnahkiaa
