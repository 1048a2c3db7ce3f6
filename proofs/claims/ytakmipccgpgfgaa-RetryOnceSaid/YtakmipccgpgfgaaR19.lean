/- Contract: Run. No condition. -/
import Derived.Test.YtakmipccgpgfgaaR18
namespace Go.Proofs.Ytakmipccgpgfgaa
open Go.RowKit

def sumL : List Int → Int
  | [] => 0
  | x :: r => x + sumL r
theorem sum_app (a b : List Int) : sumL (a ++ b) = sumL a + sumL b := by
  induction a with
  | nil => simp [sumL]
  | cons x r ih => simp only [List.cons_append, sumL, ih]; omega
/-- What is known of the tries that were made. -/
structure Made (l : List Fl) (p : Pl) (now N : Int) (Ds : List Int) : Prop where
  len : Ds.length ≤ l.length
  d : ∀ x ∈ Ds, 0 ≤ x ∧ x ≤ p.top
  yes : ∀ (i : Nat) x, i < Ds.length → l[i]? = some x → why x p.most = 1
  n : N = now + sumL Ds
  exp : N ≤ p.exp
  now : 0 ≤ now ∧ now ≤ N
structure Ran (l : List Fl) (p : Pl) (js : List Int) (now A W N : Int) (Ds : List Int) : Prop where
  rdy : Rdy l p js
  made : Made l p now N Ds
  a : A = Ds.length + 1
  w : W = 1 ↔ Ds.length = l.length
def RunRes (l : List Fl) (p : Pl) (js : List Int) (now : Int) (r : Res) : Prop :=
  (∃ e : Int, e ≠ 0 ∧ r = ⟨.tup [.agg [.i 0, .i 0, .d (il []), .i 0], zeroB.pv, .i e], [], []⟩) ∨
  (∃ (A W N : Int) (Ds : List Int) (B : Bu), Ran l p js now A W N Ds ∧ r = ⟨.tup [.agg [.i A, .i W, .d (il Ds), .i N], B.pv, .i 0], [], []⟩)
theorem Made.push {l : List Fl} {p : Pl} {now N : Int} {Ds : List Int} {x : Fl} {d : Int} (h : Made l p now N Ds) (hx : l[Ds.length]? = some x) (hw : why x p.most = 1) (hd : 0 ≤ d ∧ d ≤ p.top) (he : N + d ≤ p.exp) : Made l p now (N + d) (Ds ++ [d]) := by
  have hlt := (List.getElem?_eq_some_iff.1 hx).1
  refine ⟨by simp; omega, fun y hy => ?_, fun i y hi hy => ?_, ?_, he, ⟨h.now.1, by have := h.now.2; omega⟩⟩
  · rcases List.mem_append.1 hy with hy | hy
    · exact h.d y hy
    · simp at hy; rw [hy]; exact hd
  · by_cases hik : i = Ds.length
    · subst hik; rw [hx] at hy; cases hy; exact hw
    · exact h.yes i y (by simp at hi; omega) hy
  · rw [h.n, sum_app]; simp [sumL]; omega
theorem delay_top {base top n j : Int} (h1 : 1 ≤ base) (h2 : base ≤ top) : 0 ≤ (delay base top n j).1 ∧ (delay base top n j).1 ≤ top := by
  unfold delay
  split
  · rename_i h
    have hr := delayOk_rng h
    have hd := dbl_rng h1 h2 (n - 1).toNat
    have a1 := cut_half (d := dbl base top (n - 1).toNat) (j := j) (by omega) (by omega)
    have a2 := cut_anti (d := dbl base top (n - 1).toNat) (j := 0) (j' := j) (by omega) (Int.le_refl _) (by omega)
    rw [cut_zero (by omega)] at a2
    show 0 ≤ cut _ _ ∧ cut _ _ ≤ top
    omega
  · show (0 : Int) ≤ 0 ∧ (0 : Int) ≤ top
    omega
set_option maxRecDepth 20000 in
set_option maxHeartbeats 8000000 in
theorem run_m (l : List Fl) (p : Pl) (b : Bu) (now : Int) (js : List Int) (h1 : b.reqs.length < 4294967296) (h2 : b.rets.length < 4294967296) : Meets Try.prog 24 [.d (fl l), .agg p.cs, b.pv, .i now, .d (il js)] [] (RunRes l p js now) := by
  refine meetsH [] tbOk mixed Try.func24 pl24 rfl rfl ?_
  have fail : ∀ e : Int, e ≠ 0 → RunRes l p js now ⟨.tup [.agg [.i 0, .i 0, .d (il []), .i 0], zeroB.pv, .i e], [], []⟩ := fun e h => .inl ⟨e, h, rfl⟩
  simp [Try.ntmps24]
  refine (ready_m l p js).mono ?_
  rintro _ ⟨e, he, rfl⟩
  by_cases he0 : e = 0
  case neg =>
    simp [he0]
    exact vcRet_of [] (by simp [zeroB]) (fail e he0)
  have hR := he he0
  subst he0
  have hlen := hR.len
  have hjen := hR.jen
  have hmost := hR.most
  have hbase := hR.base
  have htop := hR.top
  have hexp := hR.exp
  simp
  refine (enter_m b now h1 h2).mono ?_
  rintro _ (⟨ha, rfl⟩ | ⟨ha, Z1, Z2, rfl⟩)
  · simp [ha, zeroB]
    exact vcRet_of [] (by simp [zeroB]) (fail _ ha)
  have hnow := asked_rng ha
  obtain ⟨hok, hbl, _⟩ := chk_all (asked_chk ha)
  by_cases hnx : p.exp < now
  · simp [hnx]
    refine ⟨fun i hi => by rcases (show i = 0 ∨ i = 1 by omega) with rfl | rfl <;> rfl, ?_⟩
    exact vcRet_of [] (by simp [zeroB]) (fail 7 (by decide))
  simp [hnx]
  refine ⟨fun i hi => by rcases (show i = 0 ∨ i = 1 by omega) with rfl | rfl <;> rfl, ?_⟩
  refine effCall (cloneD_m b.reqs h1) ?_
  simp
  refine effCall (cloneD_m b.rets h2) ?_
  simp
  refine ⟨by kernel_rfl, ?_⟩
  refine vc_loop (fun m σ => ∃ (N : Int) (Ds : List Int) (C : Bu), m = l.length - Ds.length ∧ Made l p now N Ds ∧ (C.reqs.length ≤ 1000 + Ds.length ∧ C.rets.length ≤ 1000 + Ds.length) ∧
    σ = ⟨140, [(60, .i Ds.length), (59, .i l.length), (58, .d (fl l)), (4, .d (il js)), (6, .ptr 6 0), (7, .ptr 7 0), (10, .ptr 10 0), (11, .ptr 11 0), (14, .ptr 14 0)],
      [(6, .box 57 p.cs), (7, .box 36 [.i C.ratio, .i C.least, .i C.window, .d (il C.reqs), .d (il C.rets)]), (10, .box 62 [.i 0, .i 0, .d (.v (.slice none 0 0)), .i 0]), (11, .box 36 [.i 0, .i 0, .i 0, .d (.v (.slice none 0 0)), .d (.v (.slice none 0 0))]),
       (14, .box 62 [.i ((Ds.length : Int) + 1), .i 1, .rw 999999 Ds.length, .i N]), (999999, .row 2 1 (Ds.map ics) false)]⟩) ?_ ?_
  · exact ⟨_, _, ⟨now, [], b, rfl, ⟨by simp, by simp, fun i x h => absurd h (by simp), by simp [sumL], by omega, by omega⟩, by simp; omega, rfl⟩, [.cell 14 2 999999 2 1], _, rfl, by simp⟩
  rintro m σ ⟨N, Ds, C, rfl, hM, hC, rfl⟩
  have stop : ∀ W : Int, (W = 1 ↔ Ds.length = l.length) → RunRes l p js now ⟨.tup [.agg [.i ((Ds.length : Int) + 1), .i W, .d (il Ds), .i N], C.pv, .i 0], [], []⟩ := fun W h => .inr ⟨_, W, N, Ds, C, ⟨hR, hM, rfl, h⟩, rfl⟩
  have stop' : ∀ (W : Int) (C' : Bu), (W = 1 ↔ Ds.length = l.length) → RunRes l p js now ⟨.tup [.agg [.i ((Ds.length : Int) + 1), .i W, .d (il Ds), .i N], C'.pv, .i 0], [], []⟩ := fun W C' h => .inr ⟨_, W, N, Ds, C', ⟨hR, hM, rfl, h⟩, rfl⟩
  have hMl := hM.len
  have hMe := hM.exp
  have hMn := hM.now
  by_cases hlt : Ds.length < l.length
  · obtain ⟨x, hx, e⟩ := at_lt hlt
    have w1 := wrap_succ hlt (show l.length < 4294967296 by omega)
    have w4 := IntWalk.i64_in ((Ds.length : Int) + 1 + 1) (by omega)
    simp [hlt, e]
    refine (reason_m x p.most).mono ?_
    rintro _ rfl
    by_cases hw : why x p.most = 1
    case neg =>
      simp [hw]
      refine ⟨by kernel_rfl, ?_⟩
      exact vcRet_of [] (by simp [take_all]) (stop (why x p.most) ⟨fun h => absurd h hw, fun h => by omega⟩)
    simp [hw]
    refine (retry_m C N (by omega) (by omega)).mono ?_
    rintro _ rfl
    have hrl := retry_len C N
    generalize retry C N = q at hrl
    obtain ⟨C', al, er⟩ := q
    have hrl : C'.reqs.length ≤ C.reqs.length + 1 ∧ C'.rets.length ≤ C.rets.length + 1 := hrl
    by_cases her : er = 0
    case neg =>
      simp [her]
      exact vcRet_of [] (by simp [zeroB]) (fail er her)
    subst her
    by_cases hj : Ds.length < js.length
    · obtain ⟨y, hy, ey⟩ := at_lt hj
      simp [hj, ey, w1]
      refine (delay_m p.base p.top ((Ds.length : Int) + 1) y).mono ?_
      rintro _ rfl
      have hd := delay_top (n := (Ds.length : Int) + 1) (j := y) hbase.1 hbase.2
      generalize delay p.base p.top ((Ds.length : Int) + 1) y = q at hd
      obtain ⟨d, er⟩ := q
      have hd : 0 ≤ d ∧ d ≤ p.top := hd
      have w2 := IntWalk.i64_in (N + d) (by omega)
      cases al
      · simp
        refine ⟨by kernel_rfl, ?_⟩
        exact vcRet_of [] (by simp [take_all]) (stop' 7 C' (by omega))
      by_cases hx2 : p.exp < N + d
      · simp [w2, hx2]
        refine ⟨by kernel_rfl, ?_⟩
        exact vcRet_of [] (by simp [take_all]) (stop' 8 C' (by omega))
      simp [w2, hx2]
      refine ⟨by omega, _, ?_, _, ⟨N + d, Ds ++ [d], rfl, hM.push hx hw hd (by omega), C', by simp; omega, rfl⟩, [], _, rfl, by simp [w1, w4]⟩
      simp; omega
    · simp [hj, w1]
      refine (delay_m p.base p.top ((Ds.length : Int) + 1) 0).mono ?_
      rintro _ rfl
      have hd := delay_top (n := (Ds.length : Int) + 1) (j := 0) hbase.1 hbase.2
      generalize delay p.base p.top ((Ds.length : Int) + 1) 0 = q at hd
      obtain ⟨d, er⟩ := q
      have hd : 0 ≤ d ∧ d ≤ p.top := hd
      have w2 := IntWalk.i64_in (N + d) (by omega)
      cases al
      · simp
        refine ⟨by kernel_rfl, ?_⟩
        exact vcRet_of [] (by simp [take_all]) (stop' 7 C' (by omega))
      by_cases hx2 : p.exp < N + d
      · simp [w2, hx2]
        refine ⟨by kernel_rfl, ?_⟩
        exact vcRet_of [] (by simp [take_all]) (stop' 8 C' (by omega))
      simp [w2, hx2]
      refine ⟨by omega, _, ?_, _, ⟨N + d, Ds ++ [d], rfl, hM.push hx hw hd (by omega), C', by simp; omega, rfl⟩, [], _, rfl, by simp [w1, w4]⟩
      simp; omega
  have heq : Ds.length = l.length := by omega
  simp [heq]
  refine ⟨by kernel_rfl, ?_⟩
  exact vcRet_of [] (by simp; exact ⟨by omega, by omega, by rw [← heq]; exact take_all Ds⟩) (stop 1 ⟨fun _ => heq, fun _ => rfl⟩)
end Go.Proofs.Ytakmipccgpgfgaa
