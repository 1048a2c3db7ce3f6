/- Contracts: Run, the reference s; Up, Same, New. No condition. -/
import Derived.Test.YticgikpccbgjbaaK11
import Derived.Test.YticgikpccbgjbaaK4
namespace Go.Proofs.Yticgikpccbgjbaa
open Go.RowKit

structure Sp where
  e : Int
  cs : List Ch
deriving DecidableEq
instance : Inhabited Sp := ⟨⟨0, []⟩⟩
@[simp] def Sp.ds (x : Sp) : List D := [.v (.int .i64 x.e), chl x.cs]
@[simp] def spl (l : List Sp) : D := .sl 2 (l.map Sp.ds)
@[simp] def evl (l : List Ev) : D := .sl 5 (l.map Ev.ds)
theorem stepM_err {s : Hs} {x : Ev} (h : (stepM s x).2.2 ≠ 0) : (stepM s x).1 = s ∧ (stepM s x).2.1 = [] := by
  unfold stepM at h ⊢
  split
  · exact ⟨rfl, rfl⟩
  · rename_i he
    rw [if_neg he] at h
    unfold stepK at h ⊢
    split
    · rename_i h1
      rw [if_pos h1] at h
      split
      · exact ⟨rfl, rfl⟩
      · rename_i h2
        rw [if_neg h2] at h
        exact absurd rfl h
    · rename_i h1
      rw [if_neg h1] at h
      split
      · rename_i h2
        rw [if_pos h2] at h
        split
        · exact ⟨rfl, rfl⟩
        · rename_i h3
          rw [if_neg h3] at h
          split
          · exact ⟨rfl, rfl⟩
          · rename_i h4
            rw [if_neg h4] at h
            exact absurd rfl h
      · rename_i h2
        rw [if_neg h2] at h
        split
        · rename_i h3
          rw [if_pos h3] at h
          split
          · exact ⟨rfl, rfl⟩
          · rename_i h4
            rw [if_neg h4] at h
            exact absurd rfl h
        · rename_i h3
          rw [if_neg h3] at h
          exact absurd rfl h
theorem stepM_ok {s : Hs} (h : Good s) (x : Ev) : Good (stepM s x).1 := by
  by_cases he : (stepM s x).2.2 = 0
  · exact stepM_good h he
  · rw [(stepM_err he).1]; exact h
def runF (s : Hs) : List Ev → Hs × List Sp
  | [] => (s, [])
  | x :: l => ((runF (stepM s x).1 l).1, ⟨(stepM s x).2.2, (stepM s x).2.1⟩ :: (runF (stepM s x).1 l).2)
/-- What Run hands back. -/
def runR (s : Hs) (l : List Ev) : List Sp × Hs × Int := if chk s ≠ 0 then ([], Hs.zero, chk s) else if 500 < (l.length : Int) then ([], Hs.zero, 3) else ((runF s l).2, (runF s l).1, 0)
set_option maxRecDepth 100000 in
set_option maxHeartbeats 8000000 in
theorem run_m (s : Hs) (hl : s.bs.length < 4294967296) (l : List Ev) : Meets Try.prog 12 [s.pv, .d (evl l)] [] (Ret (.tup [.d (spl (runR s l).1), (runR s l).2.1.pv, .i (runR s l).2.2])) := by
  refine meetsH [] tbOk mixed Try.func12 pl12 rfl rfl ?_
  simp [Try.ntmps12]
  refine (check_m s hl).mono ?_
  rintro _ rfl
  by_cases hc : chk s = 0
  case neg =>
    simp [hc]
    refine vcRet_of [] ?_ rfl
    simp [runR, hc]
  have hg := chk_good hc
  by_cases h5 : 500 < (l.length : Int)
  · simp [hc, h5]
    refine vcRet_of [] ?_ rfl
    simp [runR, hc, h5]
  have hR : runR s l = ((runF s l).2, (runF s l).1, 0) := by rw [runR, if_neg (by simp [hc]), if_neg h5]
  simp [hc, h5]
  refine (clone_m s.bs (fine_ne hg.fine) hl).mono ?_
  rintro _ rfl
  simp
  refine vc_loop (fun n σ => ∃ (k : Nat) (t : Hs) (acc : List Sp), n = l.length - k ∧ k ≤ l.length ∧ Good t ∧ acc.length = k ∧ (runF s l).1 = (runF t (l.drop k)).1 ∧ (runF s l).2 = acc ++ (runF t (l.drop k)).2 ∧
    σ = ⟨60, [(35, .i k), (34, .i l.length), (33, .d (evl l)), (9, .rw 9 acc.length), (8, .ptr 25 0), (5, .ptr 5 0)], [(25, .box 76 (mcells t 29 .any)), (29, .row 42 5 (t.bs.map Bk.ds) false), (9, .row 73 2 (acc.map Sp.ds) false), (5, .box 26 [.any, .any, .any, .any, .any, .any, .any])]⟩) ?_ ?_
  · exact ⟨_, _, ⟨0, s, [], rfl, Nat.zero_le _, hg, rfl, rfl, rfl, rfl⟩, [.row 9 73 2], _, rfl, by simp⟩
  rintro n σ ⟨k, t, acc, rfl, hk, ht, ha, ho1, ho2, rfl⟩
  by_cases hlt : k < l.length
  · obtain ⟨x, hx, ex⟩ := at_lt hlt
    have w := wrap_succ hlt (by omega)
    have hdrop : l.drop k = x :: l.drop (k + 1) := by rw [List.drop_eq_getElem_cons hlt, ex]
    rw [hdrop, runF] at ho1 ho2
    simp [hlt, ex]
    refine (apply_m t (good_chk ht) x).mono ?_
    rintro _ rfl
    simp [w]
    refine ⟨by omega, _, ?_, _, ⟨k + 1, rfl, hlt, (stepM t x).1, stepM_ok ht x, acc ++ [⟨(stepM t x).2.2, (stepM t x).2.1⟩], by simp [ha], ho1, by rw [ho2]; simp, rfl⟩, [], _, rfl, ?_⟩
    · omega
    · simp
  · have hkl : k = l.length := by omega
    rw [hkl, List.drop_length, runF] at ho1 ho2
    simp only [List.append_nil] at ho2
    simp [hlt]
    refine ⟨by kernel_rfl, ?_⟩
    refine vcRet_of [] ?_ rfl
    simp [hR, ho1, ho2]
    exact ⟨List.take_of_length_le (by simp), List.take_of_length_le (by simp)⟩
set_option maxRecDepth 100000 in
set_option maxHeartbeats 8000000 in
theorem refRun_m (s : Hs) (hl : s.bs.length < 4294967296) (l : List Ev) (hll : l.length < 4294967296) : Meets Try.prog 13 [s.pv, .d (evl l)] [] (Ret (.tup [.d (spl (runR s l).1), (runR s l).2.1.pv, .i (runR s l).2.2])) := by
  refine meetsH [] tbOk mixed Try.func13 pl13 rfl rfl ?_
  simp [Try.ntmps13]
  refine (refCheck_m s hl).mono ?_
  rintro _ rfl
  by_cases hc : chk s = 0
  case neg =>
    simp [hc]
    refine vcRet_of [] ?_ rfl
    simp [runR, hc]
  have hg := chk_good hc
  by_cases h5 : 500 < (l.length : Int)
  · simp [hc, h5]
    refine vcRet_of [] ?_ rfl
    simp [runR, hc, h5]
  have hR : runR s l = ((runF s l).2, (runF s l).1, 0) := by rw [runR, if_neg (by simp [hc]), if_neg h5]
  simp [hc, h5]
  refine (copied_m s hl).mono ?_
  rintro _ rfl
  simp
  refine vc_loop (fun n σ => ∃ (k : Nat) (t : Hs) (acc : List Sp), n = l.length - k ∧ k ≤ l.length ∧ Good t ∧ acc.length = k ∧ (runF s l).1 = (runF t (l.drop k)).1 ∧ (runF s l).2 = acc ++ (runF t (l.drop k)).2 ∧
    σ = ⟨55, [(9, .i k), (1, .d (evl l)), (8, .rw 8 acc.length), (2, .ptr 2 0), (5, .ptr 5 0)], [(2, .box 26 t.ps), (8, .row 73 2 (acc.map Sp.ds) false), (5, .box 26 [.any, .any, .any, .any, .any, .any, .any])]⟩) ?_ ?_
  · refine ⟨_, _, ⟨0, s, [], rfl, Nat.zero_le _, hg, rfl, rfl, rfl, rfl⟩, [.seen 2 6, .row 8 73 2], _, (by simp [Prep.all, Prep.run]; rfl), ?_⟩
    simp
    exact List.take_of_length_le (by simp)
  rintro n σ ⟨k, t, acc, rfl, hk, ht, ha, ho1, ho2, rfl⟩
  by_cases hlt : k < l.length
  · obtain ⟨x, hx, ex⟩ := at_lt hlt
    have w := wrap_succ hlt (by omega)
    have hdrop : l.drop k = x :: l.drop (k + 1) := by rw [List.drop_eq_getElem_cons hlt, ex]
    rw [hdrop, runF] at ho1 ho2
    have h16 := ht.fine.len
    simp [hlt, ex]
    refine effCall (refStep_m t (by omega) x) ?_
    by_cases he : (stepM t x).2.2 = 0
    · have hSt : stepR t x = stepM t x := by rw [stepR, if_neg (by simp [good_chk ht]), if_neg (by simp [he])]
      rw [hSt]
      simp [he, w]
      refine ⟨by kernel_rfl, by omega, _, ?_, _, ⟨k + 1, rfl, hlt, (stepM t x).1, stepM_ok ht x, acc ++ [⟨(stepM t x).2.2, (stepM t x).2.1⟩], by simp [ha], ho1, by rw [ho2]; simp, rfl⟩, [], _, rfl, ?_⟩
      · omega
      · simp [he]
    · have hSt : stepR t x = (Hs.zero, [], (stepM t x).2.2) := by rw [stepR, if_neg (by simp [good_chk ht]), if_pos he]
      obtain ⟨e1, e2⟩ := stepM_err he
      rw [hSt]
      rw [e1] at ho1 ho2
      rw [e2] at ho2
      simp [he, w]
      refine ⟨by kernel_rfl, by omega, _, ?_, _, ⟨k + 1, rfl, hlt, t, ht, acc ++ [⟨(stepM t x).2.2, []⟩], by simp [ha], ho1, by rw [ho2]; simp, rfl⟩, [], _, rfl, ?_⟩
      · omega
      · simp
  · have hkl : k = l.length := by omega
    rw [hkl, List.drop_length, runF] at ho1 ho2
    simp only [List.append_nil] at ho2
    simp [hlt]
    refine ⟨by kernel_rfl, ?_⟩
    refine vcRet_of [] ?_ rfl
    simp [hR, ho1, ho2]
    exact List.take_of_length_le (by simp)

theorem fill_set {α : Type} {xs : List α} {k n : Nat} {y z : α} (hk : k < xs.length) (hy : xs[k]? = some y) (hn : xs.length = n := by simp) : (xs.take k ++ List.replicate (n - k) z).set k y = xs.take (k + 1) ++ List.replicate (n - (k + 1)) z := by
  subst hn
  have h1 : (xs.take k).length = k := by rw [List.length_take]; omega
  rw [List.set_append_right _ _ (by omega), h1, Nat.sub_self, List.take_add_one, hy, show xs.length - k = (xs.length - (k + 1)) + 1 by omega, List.replicate_succ, List.set_cons_zero]
  simp
def ups (s : Hs) : List Bool × Int := if chk s ≠ 0 then ([], chk s) else (s.bs.map Bk.up, 0)
set_option maxRecDepth 20000 in
set_option maxHeartbeats 2000000 in
theorem up_m (s : Hs) (hl : s.bs.length < 4294967296) : Meets Try.prog 26 [s.pv] [] (Ret (.tup [.d (bol (ups s).1), .i (ups s).2])) := by
  refine meetsH [] tbOk mixed Try.func26 pl26 rfl rfl ?_
  simp [Try.ntmps26]
  refine (check_m s hl).mono ?_
  rintro _ rfl
  by_cases hc : chk s = 0
  case neg =>
    simp [hc]
    refine vcRet_of [] ?_ rfl
    simp [ups, hc]
  have hf := chk_fine hc
  have h16 := hf.len
  simp [hc]
  refine ⟨by omega, ?_⟩
  refine vc_loop (fun n σ => ∃ k : Nat, n = s.bs.length - k ∧ k ≤ s.bs.length ∧ σ = ⟨32, [(20, .i k), (19, .i s.bs.length), (18, .d (bl s.bs)), (1, .ptr 1 0), (5, .rw 16 s.bs.length)], [(1, .box 26 s.ps), (16, .row 4 1 (((s.bs.take k).map (fun b => bds b.up)) ++ List.replicate (s.bs.length - k) (bds false)) false)]⟩) ?_ ?_
  · exact ⟨_, _, ⟨0, rfl, Nat.zero_le _, rfl⟩, [], _, rfl, by simp⟩
  rintro n σ ⟨k, rfl, hk, rfl⟩
  by_cases hlt : k < s.bs.length
  · obtain ⟨b, hb, e⟩ := at_lt hlt
    have w := wrap_succ hlt hl
    simp [hlt, e, w]
    refine ⟨by omega, _, ?_, _, ⟨k + 1, rfl, hlt, rfl⟩, [], _, rfl, ?_⟩
    · omega
    · simp
      exact fill_set (by simpa using hlt) (by simp [hb])
  · obtain rfl : k = s.bs.length := by omega
    simp
    refine vcRet_of [] ?_ rfl
    simp [ups, hc]
    rw [List.take_of_length_le (by simp)]
    rfl
set_option maxHeartbeats 1000000 in
theorem refUp_m (s : Hs) (hl : s.bs.length < 4294967296) : Meets Try.prog 27 [s.pv] [] (Ret (.tup [.d (bol (ups s).1), .i (ups s).2])) := by
  refine meetsH [] tbOk mixed Try.func27 pl27 rfl rfl ?_
  simp [Try.ntmps27]
  refine (refCheck_m s hl).mono ?_
  rintro _ rfl
  by_cases hc : chk s = 0
  case neg =>
    simp [hc]
    refine vcRet_of [] ?_ rfl
    simp [ups, hc]
  simp [hc]
  refine vc_loop (fun n σ => ∃ k : Nat, n = s.bs.length - k ∧ k ≤ s.bs.length ∧ σ = ⟨29, [(6, .i k), (1, .ptr 1 0), (5, .rw 5 k)], [(1, .box 26 s.ps), (5, .row 4 1 ((s.bs.take k).map (fun b => bds b.up)) false)]⟩) ?_ ?_
  · exact ⟨_, _, ⟨0, rfl, Nat.zero_le _, rfl⟩, [.row 5 4 1], _, rfl, by simp⟩
  rintro n σ ⟨k, rfl, hk, rfl⟩
  by_cases hlt : k < s.bs.length
  · obtain ⟨b, hb, e⟩ := at_lt hlt
    have w := wrap_succ hlt hl
    have hmin : min k s.bs.length = k := by omega
    simp [hlt, e, w, hmin]
    refine ⟨by omega, _, ?_, _, ⟨k + 1, rfl, hlt, rfl⟩, [], _, rfl, ?_⟩
    · omega
    · have : (s.bs.take (k + 1)).map (fun b => bds b.up) = (s.bs.take k).map (fun b => bds b.up) ++ [bds b.up] := by rw [List.take_add_one, hb]; simp
      simp at this
      simp [this]
  · obtain rfl : k = s.bs.length := by omega
    simp
    refine vcRet_of [] ?_ rfl
    simp [ups, hc]
    rw [List.take_of_length_le (by simp)]
    rfl
set_option maxRecDepth 20000 in
set_option maxHeartbeats 4000000 in
theorem same_m (a b : Hs) (hl : a.bs.length < 4294967296) : Meets Try.prog 15 [a.pv, b.pv] [] (Ret (.b (decide (a = b)))) := by
  obtain ⟨⟨a1, a2, a3, a4, a5⟩, na, as0⟩ := a
  obtain ⟨⟨b1, b2, b3, b4, b5⟩, nb, bs⟩ := b
  refine meetsH [] tbOk mixed Try.func15 pl15 rfl rfl ?_
  by_cases h1 : a1 = b1
  case neg =>
    simp [Try.ntmps15, h1]
    exact vcRet_of [] (by simp) rfl
  subst h1
  by_cases h2 : a2 = b2
  case neg =>
    simp [Try.ntmps15, h2]
    exact vcRet_of [] (by simp) rfl
  subst h2
  by_cases h3 : a3 = b3
  case neg =>
    simp [Try.ntmps15, h3]
    exact vcRet_of [] (by simp) rfl
  subst h3
  by_cases h4 : a4 = b4
  case neg =>
    simp [Try.ntmps15, h4]
    exact vcRet_of [] (by simp) rfl
  subst h4
  by_cases h5 : a5 = b5
  case neg =>
    simp [Try.ntmps15, h5]
    exact vcRet_of [] (by simp) rfl
  subst h5
  by_cases h6 : na = nb
  case neg =>
    simp [Try.ntmps15, h6]
    exact vcRet_of [] (by simp) rfl
  subst h6
  by_cases h7 : as0.length = bs.length
  case neg =>
    have h8 : ¬ ((as0.length : Int) = bs.length) := by omega
    have h9 : ¬ as0 = bs := fun e => h7 (by rw [e])
    simp [Try.ntmps15, h8, h9]
    exact vcRet_of [] (by simp) rfl
  simp [Try.ntmps15, ← h7]
  refine vc_loop (fun m σ => ∃ k : Nat, m = as0.length - k ∧ k ≤ as0.length ∧ as0.take k = bs.take k ∧ σ = ⟨45, [(5, .i k), (2, .ptr 2 0), (3, .ptr 3 0)], [(2, .box 26 (⟨⟨a1, a2, a3, a4, a5⟩, na, as0⟩ : Hs).ps), (3, .box 26 (⟨⟨a1, a2, a3, a4, a5⟩, na, bs⟩ : Hs).ps)]⟩) ?_ ?_
  · exact ⟨_, _, ⟨0, rfl, Nat.zero_le _, rfl, rfl⟩, [], _, rfl, by simp⟩
  · rintro m σ ⟨k, rfl, hk, hn, rfl⟩
    by_cases hlt : k < as0.length
    · obtain ⟨x, hx, e⟩ := at_lt hlt
      obtain ⟨y, hy, e'⟩ := at_lt (show k < bs.length by omega)
      have hlt' : k < bs.length := by omega
      simp at hl
      simp [hlt, hlt', e, e', wrap_succ hlt hl]
      refine ⟨by kernel_rfl, fun h => vcRet_of [] ?_ rfl, fun h1 h2 h3 h4 h5 => ⟨_, ?_, _, ⟨k + 1, rfl, hlt, ?_, rfl⟩, [], _, rfl, by simp⟩⟩
      · have : as0 ≠ bs := fun e2 => by
          subst e2
          rw [hx] at hy
          cases hy
          simp at h
        simp [this]
      · omega
      · rw [List.take_add_one, List.take_add_one, hn, hx, hy]
        obtain ⟨c1, c2, c3, c4, c5⟩ := x
        obtain ⟨d1, d2, d3, d4, d5⟩ := y
        simp at h1 h2 h3 h4 h5
        rw [h1, h2, h3, h4, h5]
    · obtain rfl : k = as0.length := by omega
      simp
      refine vcRet_of [] ?_ rfl
      have : as0 = bs := by rw [List.take_length, h7, List.take_length] at hn; exact hn
      simp [this]
set_option maxRecDepth 100000 in
set_option maxHeartbeats 2000000 in
theorem refNew_m (c : Cf) (up : Bool) : Meets Try.prog 22 [c.pv, .b up] [] (Ret (.tup [(newR c up).1.pv, .i (newR c up).2])) := by
  refine meetsH [] tbOk mixed Try.func22 pl22 rfl rfl ?_
  simp [Try.ntmps22]
  refine (config_m c).mono ?_
  rintro _ rfl
  cases hv : validC c
  · simp
    refine vcRet_of [] ?_ rfl
    simp [newR, hv]
  obtain ⟨hn, _⟩ := validC_iff.1 hv
  simp
  refine vc_loop (fun n σ => ∃ k : Nat, n = c.n.toNat - k ∧ k ≤ c.n.toNat ∧ σ = ⟨31, [(7, .i k), (1, .b up), (2, .ptr 2 0), (4, .ptr 4 0), (6, .ptr 6 0)], [(2, .box 23 c.ps), (4, .box 26 [.any, .any, .any, .any, .any, .any, .any]), (6, .box 26 [.i c.n, .i c.iv, .i c.tm, .i c.ri, .i c.fa, .i 0, .rw 30 k]), (30, .row 42 5 ((news c up k).map Bk.ds) false)]⟩) ?_ ?_
  · exact ⟨_, _, ⟨0, rfl, Nat.zero_le _, rfl⟩, [.cell 6 6 30 42 5], _, rfl, by simp [news]⟩
  rintro n σ ⟨k, rfl, hk, rfl⟩
  by_cases hlt : k < c.n.toNat
  · have hlt2 : (k : Int) < c.n := by omega
    have w1 : IntKind.i64.wrap ((k : Int) + 1) = ((k + 1 : Nat) : Int) := by rw [small_wrap (by omega)]; omega
    simp [hlt2]
    refine effCall (refFirst_m c hv k (by omega)) ?_
    simp [news_len, w1]
    refine ⟨by omega, by kernel_rfl, _, ?_, _, ⟨k + 1, rfl, hlt, rfl⟩, [], _, rfl, ?_⟩
    · omega
    · simp [news_succ]
  · obtain rfl : k = c.n.toNat := by omega
    have hlt2 : ¬ max c.n 0 < c.n := by omega
    simp [hlt2]
    refine vcRet_of [] ?_ rfl
    simp [newR, hv, new, news_len]
    exact List.take_of_length_le (by simp [news_len])
end Go.Proofs.Yticgikpccbgjbaa
