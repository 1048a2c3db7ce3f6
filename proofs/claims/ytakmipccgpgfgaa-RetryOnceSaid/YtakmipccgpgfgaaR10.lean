/- Contracts: enter, Request, Retry of both. No condition. -/
import Derived.Test.YtakmipccgpgfgaaR9
namespace Go.Proofs.Ytakmipccgpgfgaa
open Go.RowKit

def EnterRes (b : Bu) (now : Int) (q : Res) : Prop := (asked b now ≠ 0 ∧ q = ⟨.tup [zeroB.pv, .i (asked b now)], [], []⟩) ∨
  (asked b now = 0 ∧ ∃ Z1 Z2 : List (List D), q = ⟨.tup [.agg [.i b.ratio, .i b.least, .i b.window, .rw 2000000 (left b.reqs b.window now).length, .rw 2000001 (left b.rets b.window now).length], .i 0], [],
    [.row 2 1 ((left b.reqs b.window now).map ics ++ Z1) false, .row 2 1 ((left b.rets b.window now).map ics ++ Z2) false]⟩)
theorem asked_chk {b : Bu} {now : Int} (h : asked b now = 0) : chk b = 0 := by
  unfold asked at h
  split at h
  · rename_i hc; exact absurd h hc
  · rename_i hc; simpa using hc
theorem chk_all {b : Bu} (h : chk b = 0) : newOk b.ratio b.least b.window = true ∧ (b.reqs.length ≤ 1000 ∧ b.rets.length ≤ 1000) ∧ times b.reqs b.window (lastT b) = true ∧ times b.rets b.window (lastT b) = true := by
  unfold chk at h
  split at h
  · omega
  rename_i h1
  split at h
  · omega
  rename_i h2
  split at h
  · rename_i h3
    simp only [Bool.and_eq_true] at h3
    exact ⟨by simpa using h1, by omega, h3.1, h3.2⟩
  · omega
theorem times_rng {l : List Int} {w t : Int} (h : times l w t = true) : ∀ x ∈ l, 0 ≤ x ∧ x ≤ 1000000000000 := fun x hx => by
  obtain ⟨j, hj⟩ := List.getElem?_of_mem hx
  exact (((times_iff l w t).1 h).1 j x hj).1
theorem asked_rng {b : Bu} {now : Int} (h : asked b now = 0) : 0 ≤ now ∧ now ≤ 1000000000000 := by
  have hc := asked_chk h
  unfold asked at h
  rw [if_neg (by omega)] at h
  split at h
  · omega
  · rename_i ho
    have : 0 ≤ lastT b := by unfold lastT; omega
    simp [outs] at ho; omega
set_option maxRecDepth 8000 in
set_option maxHeartbeats 4000000 in
theorem enter_m (b : Bu) (now : Int) (h1 : b.reqs.length < 4294967296) (h2 : b.rets.length < 4294967296) : Meets Try.prog 33 [b.pv, .i now] [] (EnterRes b now) := by
  refine meetsH [] tbOk mixed Try.func33 pl33 rfl rfl ?_
  simp [Try.ntmps33]
  refine (check_m b h1 h2).mono ?_
  rintro _ rfl
  by_cases hc : chk b = 0
  case neg =>
    have ha : asked b now = chk b := by rw [asked, if_pos hc]
    have hres : EnterRes b now ⟨.tup [zeroB.pv, .i (asked b now)], [], []⟩ := .inl ⟨by rw [ha]; exact hc, rfl⟩
    simp [hc]
    exact vcRet_of [] (by simp [zeroB, ha]) hres
  simp [hc]
  refine effCall (last_m b h1 h2) ?_
  simp
  refine effCall (outside_m now (lastT b) 1000000000000) ?_
  cases ho : outs now (lastT b) 1000000000000
  case true =>
    have ha : asked b now = 7 := by rw [asked, if_neg (by omega), if_pos ho]
    have hres : EnterRes b now ⟨.tup [zeroB.pv, .i (asked b now)], [], []⟩ := .inl ⟨by rw [ha]; decide, rfl⟩
    simp
    exact ⟨by kernel_rfl, vcRet_of [] (by simp [zeroB, ha]) hres⟩
  have ha : asked b now = 0 := by rw [asked, if_neg (by omega), if_neg (by rw [ho]; decide)]
  have hr := asked_rng ha
  obtain ⟨_, _, t1, t2⟩ := chk_all hc
  have x1 : ∀ x ∈ b.reqs, IntKind.i64.wrap (now - x) = now - x := fun x hx => by have := times_rng t1 x hx; exact IntWalk.i64_in _ (by omega)
  have x2 : ∀ x ∈ b.rets, IntKind.i64.wrap (now - x) = now - x := fun x hx => by have := times_rng t2 x hx; exact IntWalk.i64_in _ (by omega)
  simp
  refine ⟨by kernel_rfl, ?_⟩
  refine (clone_m b.reqs h1).mono ?_
  rintro _ rfl
  simp
  refine (deleteA_m b.ratio b.least b.window now (il b.rets) (il b.reqs) b.reqs h1 x1).mono ?_
  rintro _ ⟨Z1, rfl⟩
  simp
  refine (clone_m b.rets h2).mono ?_
  rintro _ rfl
  simp
  refine (deleteB_m b.ratio b.least b.window now (il b.rets) _ _ b.rets h2 x2).mono ?_
  rintro _ ⟨Z2, rfl⟩
  simp
  refine vcRet_of [22, 28] ?_ (.inr ⟨ha, Z1, Z2, rfl⟩)
  simp
  decide
theorem take_snoc (L : List Int) (a : List D) (R : List (List D)) : List.take (L.length + 1) (L.map ics ++ a :: R) = L.map ics ++ [a] := by
  rw [show L.length + 1 = (L.map ics ++ [a]).length by simp, show L.map ics ++ a :: R = (L.map ics ++ [a]) ++ R by simp]
  exact List.take_left
theorem take_all (L : List Int) : List.take L.length (L.map ics) = L.map ics := List.take_of_length_le (by simp)
theorem left_le (b : Bu) (now : Int) (h : b.reqs.length ≤ 1000 ∧ b.rets.length ≤ 1000) : (left b.reqs b.window now).length ≤ 1000 ∧ (left b.rets b.window now).length ≤ 1000 := by
  have h1 := List.length_filter_le (fun x => decide (now < x + b.window)) b.reqs
  have h2 := List.length_filter_le (fun x => decide (now < x + b.window)) b.rets
  unfold left
  omega
set_option maxRecDepth 8000 in
set_option maxHeartbeats 4000000 in
theorem request_m (b : Bu) (now : Int) (h1 : b.reqs.length < 4294967296) (h2 : b.rets.length < 4294967296) : Meets Try.prog 19 [b.pv, .i now] [] (Ret (.tup [(request b now).1.pv, .i (request b now).2])) := by
  refine meetsH [] tbOk mixed Try.func19 pl19 rfl rfl ?_
  simp [Try.ntmps19]
  refine (enter_m b now h1 h2).mono ?_
  rintro _ (⟨ha, rfl⟩ | ⟨ha, Z1, Z2, rfl⟩)
  · simp [ha, zeroB]
    exact vcRet_of [] (by simp [request, ha, zeroB]) rfl
  obtain ⟨_, hlen, _⟩ := chk_all (asked_chk ha)
  have hf := left_le b now hlen
  by_cases hL : (left b.reqs b.window now).length = 1000
  · have hL' : ((left b.reqs b.window now).length : Int) = 1000 := by omega
    simp [hL']
    refine ⟨fun i hi => by rcases (show i = 0 ∨ i = 1 by omega) with rfl | rfl <;> rfl, vcRet_of [] (by simp [request, ha, gone, hL, zeroB]) rfl⟩
  have hL' : ¬ ((left b.reqs b.window now).length : Int) = 1000 := by omega
  have hq : request b now = (⟨b.ratio, b.least, b.window, left b.reqs b.window now ++ [now], left b.rets b.window now⟩, 0) := by simp [request, ha, gone, hL]
  rw [hq]
  by_cases hZ : Z1 = []
  · subst hZ
    simp [hL']
    refine ⟨fun i hi => by rcases (show i = 0 ∨ i = 1 by omega) with rfl | rfl <;> rfl, by omega, vcRet_of [] ?_ rfl⟩
    simp [take_snoc, take_all]
  · have hZl : 0 < Z1.length := List.length_pos_iff.2 hZ
    simp [hL', hZ]
    refine ⟨fun i hi => by rcases (show i = 0 ∨ i = 1 by omega) with rfl | rfl <;> rfl, by omega, vcRet_of [] ?_ rfl⟩
    simp [take_snoc, take_all]
theorem newOk_rng {r l w : Int} (h : newOk r l w = true) : (0 ≤ r ∧ r ≤ 100) ∧ (0 ≤ l ∧ l ≤ 100) := by
  simp [newOk, outs] at h; omega
theorem ratio_wrap {r l : Int} {n : Nat} (hr : 0 ≤ r ∧ r ≤ 100) (hl : 0 ≤ l ∧ l ≤ 100) (hn : n ≤ 1000) : IntKind.i64.wrap (r * n) = r * n ∧ IntKind.i64.wrap ((r * n).tdiv 100) = (r * n).tdiv 100 ∧ IntKind.i64.wrap (l + (r * n).tdiv 100) = l + (r * n).tdiv 100 := by
  have h1 : 0 ≤ r * n := Int.mul_nonneg hr.1 (by omega)
  have h2 : r * n ≤ 100 * 1000 := Int.mul_le_mul hr.2 (by omega) (by omega) (by omega)
  have h3 : (r * (n : Int)).tdiv 100 = r * n / 100 := Int.tdiv_eq_ediv_of_nonneg h1
  rw [h3]
  refine ⟨IntWalk.i64_in _ (by omega), IntWalk.i64_in _ (by omega), IntWalk.i64_in _ (by omega)⟩
set_option maxRecDepth 8000 in
set_option maxHeartbeats 4000000 in
theorem retry_m (b : Bu) (now : Int) (h1 : b.reqs.length < 4294967296) (h2 : b.rets.length < 4294967296) : Meets Try.prog 21 [b.pv, .i now] [] (Ret (.tup [(retry b now).1.pv, .b (retry b now).2.1, .i (retry b now).2.2])) := by
  refine meetsH [] tbOk mixed Try.func21 pl21 rfl rfl ?_
  simp [Try.ntmps21]
  refine (enter_m b now h1 h2).mono ?_
  rintro _ (⟨ha, rfl⟩ | ⟨ha, Z1, Z2, rfl⟩)
  · simp [ha, zeroB]
    exact vcRet_of [] (by simp [retry, ha, zeroB]) rfl
  obtain ⟨hok, hlen, _⟩ := chk_all (asked_chk ha)
  have hf := left_le b now hlen
  have hrl := newOk_rng hok
  obtain ⟨w1, w2, w3⟩ := ratio_wrap hrl.1 hrl.2 hf.1
  by_cases hA : b.least + (b.ratio * (left b.reqs b.window now).length).tdiv 100 ≤ ((left b.rets b.window now).length : Int)
  · have hal : allowed (gone b now) = false := decide_eq_false (by show ¬ ((left b.rets b.window now).length : Int) < b.least + (b.ratio * (left b.reqs b.window now).length).tdiv 100; omega)
    have hq : retry b now = (gone b now, false, 0) := by unfold retry; rw [if_neg (by omega), hal]; rfl
    rw [hq]
    simp [w1, w2, w3, hA]
    refine ⟨fun i hi => by rcases (show i = 0 ∨ i = 1 by omega) with rfl | rfl <;> rfl, vcRet_of [] (by simp [gone, take_all]) rfl⟩
  have hal : allowed (gone b now) = true := decide_eq_true (by show ((left b.rets b.window now).length : Int) < b.least + (b.ratio * (left b.reqs b.window now).length).tdiv 100; omega)
  by_cases hL : (left b.rets b.window now).length = 1000
  · have hL' : ((left b.rets b.window now).length : Int) = 1000 := by omega
    have hA' : ¬ b.least + (b.ratio * (left b.reqs b.window now).length).tdiv 100 ≤ 1000 := by omega
    have hq : retry b now = (zeroB, false, 5) := by unfold retry; rw [if_neg (by omega), hal]; simp [gone, hL]
    rw [hq]
    simp [w1, w2, w3, hA, hA', hL']
    refine ⟨fun i hi => by rcases (show i = 0 ∨ i = 1 by omega) with rfl | rfl <;> rfl, vcRet_of [] (by simp [zeroB]) rfl⟩
  have hL' : ¬ ((left b.rets b.window now).length : Int) = 1000 := by omega
  have hq : retry b now = (⟨b.ratio, b.least, b.window, left b.reqs b.window now, left b.rets b.window now ++ [now]⟩, true, 0) := by unfold retry; rw [if_neg (by omega), hal]; simp [gone, hL]
  rw [hq]
  by_cases hZ : Z2 = []
  · subst hZ
    simp [w1, w2, w3, hA, hL']
    refine ⟨fun i hi => by rcases (show i = 0 ∨ i = 1 by omega) with rfl | rfl <;> rfl, by omega, vcRet_of [] ?_ rfl⟩
    simp [take_snoc, take_all]
  · have hZl : 0 < Z2.length := List.length_pos_iff.2 hZ
    simp [w1, w2, w3, hA, hL', hZ]
    refine ⟨fun i hi => by rcases (show i = 0 ∨ i = 1 by omega) with rfl | rfl <;> rfl, by omega, vcRet_of [] ?_ rfl⟩
    simp [take_snoc, take_all]
set_option maxRecDepth 8000 in
set_option maxHeartbeats 4000000 in
theorem refRequest_m (b : Bu) (now : Int) (h1 : b.reqs.length < 4294967296) (h2 : b.rets.length < 4294967296) : Meets Try.prog 20 [b.pv, .i now] [] (Ret (.tup [(request b now).1.pv, .i (request b now).2])) := by
  refine meetsH [] tbOk mixed Try.func20 pl20 rfl rfl ?_
  simp [Try.ntmps20]
  refine (asked_m b now h1 h2).mono ?_
  rintro _ rfl
  by_cases ha : asked b now = 0
  case neg =>
    simp [ha]
    exact vcRet_of [] (by simp [request, ha, zeroB]) rfl
  obtain ⟨hok, hlen, t1, t2⟩ := chk_all (asked_chk ha)
  have hf := left_le b now hlen
  have hw := newOk_win hok
  simp [ha]
  refine (gone_m b now h1 h2 (times_rng t1) (times_rng t2) (by omega)).mono ?_
  rintro _ rfl
  by_cases hL : (left b.reqs b.window now).length = 1000
  · have hL' : ((left b.reqs b.window now).length : Int) = 1000 := by omega
    simp [goneRes, gone, hL']
    refine ⟨fun i hi => by rcases (show i = 0 ∨ i = 1 by omega) with rfl | rfl <;> rfl, vcRet_of [] (by simp [request, ha, gone, hL, zeroB]) rfl⟩
  have hL' : ¬ ((left b.reqs b.window now).length : Int) = 1000 := by omega
  have hq : request b now = (⟨b.ratio, b.least, b.window, left b.reqs b.window now ++ [now], left b.rets b.window now⟩, 0) := by simp [request, ha, gone, hL]
  rw [hq]
  simp [goneRes, gone, hL']
  refine ⟨fun i hi => by rcases (show i = 0 ∨ i = 1 by omega) with rfl | rfl <;> rfl, by omega, vcRet_of [] ?_ rfl⟩
  simp [take_snoc, take_all]
set_option maxRecDepth 8000 in
set_option maxHeartbeats 4000000 in
theorem refRetry_m (b : Bu) (now : Int) (h1 : b.reqs.length < 4294967296) (h2 : b.rets.length < 4294967296) : Meets Try.prog 22 [b.pv, .i now] [] (Ret (.tup [(retry b now).1.pv, .b (retry b now).2.1, .i (retry b now).2.2])) := by
  refine meetsH [] tbOk mixed Try.func22 pl22 rfl rfl ?_
  simp [Try.ntmps22]
  refine (asked_m b now h1 h2).mono ?_
  rintro _ rfl
  by_cases ha : asked b now = 0
  case neg =>
    simp [ha]
    exact vcRet_of [] (by simp [retry, ha, zeroB]) rfl
  obtain ⟨hok, hlen, t1, t2⟩ := chk_all (asked_chk ha)
  have hf := left_le b now hlen
  have hw := newOk_win hok
  have hrl := newOk_rng hok
  obtain ⟨w1, w2, w3⟩ := ratio_wrap hrl.1 hrl.2 hf.1
  simp [ha]
  refine (gone_m b now h1 h2 (times_rng t1) (times_rng t2) (by omega)).mono ?_
  rintro _ rfl
  by_cases hA : b.least + (b.ratio * (left b.reqs b.window now).length).tdiv 100 ≤ ((left b.rets b.window now).length : Int)
  · have hal : allowed (gone b now) = false := decide_eq_false (by show ¬ ((left b.rets b.window now).length : Int) < b.least + (b.ratio * (left b.reqs b.window now).length).tdiv 100; omega)
    have hq : retry b now = (gone b now, false, 0) := by unfold retry; rw [if_neg (by omega), hal]; rfl
    rw [hq]
    simp [goneRes, gone, w1, w2, w3, hA]
    refine ⟨fun i hi => by rcases (show i = 0 ∨ i = 1 by omega) with rfl | rfl <;> rfl, vcRet_of [] (by simp [take_all]) rfl⟩
  have hal : allowed (gone b now) = true := decide_eq_true (by show ((left b.rets b.window now).length : Int) < b.least + (b.ratio * (left b.reqs b.window now).length).tdiv 100; omega)
  by_cases hL : (left b.rets b.window now).length = 1000
  · have hL' : ((left b.rets b.window now).length : Int) = 1000 := by omega
    have hA' : ¬ b.least + (b.ratio * (left b.reqs b.window now).length).tdiv 100 ≤ 1000 := by omega
    have hq : retry b now = (zeroB, false, 5) := by unfold retry; rw [if_neg (by omega), hal]; simp [gone, hL]
    rw [hq]
    simp [goneRes, gone, w1, w2, w3, hA, hA', hL']
    refine ⟨fun i hi => by rcases (show i = 0 ∨ i = 1 by omega) with rfl | rfl <;> rfl, vcRet_of [] (by simp [zeroB]) rfl⟩
  have hL' : ¬ ((left b.rets b.window now).length : Int) = 1000 := by omega
  have hq : retry b now = (⟨b.ratio, b.least, b.window, left b.reqs b.window now, left b.rets b.window now ++ [now]⟩, true, 0) := by unfold retry; rw [if_neg (by omega), hal]; simp [gone, hL]
  rw [hq]
  simp [goneRes, gone, w1, w2, w3, hA, hL']
  refine ⟨fun i hi => by rcases (show i = 0 ∨ i = 1 by omega) with rfl | rfl <;> rfl, by omega, vcRet_of [] ?_ rfl⟩
  simp [take_snoc, take_all]
end Go.Proofs.Ytakmipccgpgfgaa
