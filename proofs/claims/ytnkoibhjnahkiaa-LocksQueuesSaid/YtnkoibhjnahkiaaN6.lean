/- Locks: contracts (N6). No condition. -/
import Derived.Test.YtnkoibhjnahkiaaN1
import Derived.Test.YtnkoibhjnahkiaaN3
import Derived.Test.YtnkoibhjnahkiaaN4
namespace Go.Proofs.Ytnkoibhjnahkiaa
open Go.RowKit

theorem take_same {α : Type} {a b : List α} {k : Nat} {x : α} (h : a.take k = b.take k) (hx : a[k]? = some x) (hy : b[k]? = some x) : a.take (k + 1) = b.take (k + 1) := by
  rw [List.take_add_one, List.take_add_one, h, hx, hy]
theorem ne_at {α : Type} {a b : List α} {k : Nat} {x y : α} (hx : a[k]? = some x) (hy : b[k]? = some y) (h : ¬ x = y) : ¬ a = b := fun e => h (by rw [e, hy] at hx; exact (Option.some.inj hx).symm)
theorem take_all {α : Type} {a b : List α} (hl : a.length = b.length) (h : a.take a.length = b.take a.length) : a = b := by
  rw [List.take_length, hl, List.take_length] at h
  exact h
set_option maxRecDepth 100000 in
set_option maxHeartbeats 1000000 in
theorem sameInts_m (a b : List Int) (ha : a.length < 4294967296) : Meets Try.prog 16 [.d (il a), .d (il b)] [] (Ret (.b (decide (a = b)))) := by
  refine meetsH [] tbOk mixed Try.func16 pl16 rfl rfl ?_
  by_cases hl : a.length = b.length
  case neg =>
    have hl' : ¬ (a.length : Int) = b.length := by omega
    simp [Try.ntmps16, hl']
    refine vcRet_of [] ?_ rfl
    have : ¬ a = b := fun e => hl (by rw [e])
    simp [this]
  simp [Try.ntmps16, hl]
  refine vc_loop (fun n σ => ∃ k : Nat, n = a.length - k ∧ k ≤ a.length ∧ a.take k = b.take k ∧ σ = ⟨26, [(5, .i k), (0, .d (il a)), (1, .d (il b))], []⟩) ?_ ?_
  · exact ⟨_, _, ⟨0, rfl, Nat.zero_le _, rfl, rfl⟩, [], _, rfl, by simp⟩
  rintro n σ ⟨k, rfl, hk, hn, rfl⟩
  by_cases hlt : k < a.length
  · obtain ⟨x, hx, e⟩ := at_lt hlt
    have hlt2 : k < b.length := by omega
    obtain ⟨y, hy, ey⟩ := at_lt hlt2
    by_cases h : x = y
    · subst h
      simp [hlt, hlt2, e, ey, wrap_succ hlt ha]
      refine ⟨by kernel_rfl, ?_⟩
      exact ⟨_, by omega, _, ⟨k + 1, rfl, hlt, take_same hn hx hy, rfl⟩, [], _, rfl, by simp⟩
    · simp [hlt, hlt2, e, ey, h]
      refine ⟨by kernel_rfl, ?_⟩
      refine vcRet_of [] ?_ rfl
      simp [ne_at hx hy h]
  obtain rfl : k = a.length := by omega
  simp
  refine vcRet_of [] ?_ rfl
  simp [take_all hl hn]
theorem Sy.ne1 {s u : Sy} (h : ¬ s.locks = u.locks) : ¬ s = u := fun e => h (by rw [e])
theorem Sy.ne2 {s u : Sy} (h : ¬ s.queues = u.queues) : ¬ s = u := fun e => h (by rw [e])
theorem Sy.ne3 {s u : Sy} (h : ¬ s.groups = u.groups) : ¬ s = u := fun e => h (by rw [e])
theorem ne_len {α : Type} {a b : List α} (h : ¬ a.length = b.length) : ¬ a = b := fun e => h (by rw [e])
set_option maxRecDepth 100000 in
set_option maxHeartbeats 4000000 in
theorem same_m (s u : Sy) (hf : Fits s) : Meets Try.prog 12 [s.pv, u.pv] [] (Ret (.b (decide (s = u)))) := by
  obtain ⟨f1, f2, f3, f4, f5⟩ := hf
  refine meetsH [] tbOk mixed Try.func12 pl12 rfl rfl ?_
  by_cases l1 : s.locks.length = u.locks.length
  case neg =>
    have l1' : ¬ (s.locks.length : Int) = u.locks.length := by omega
    simp [Try.ntmps12, l1']
    refine vcRet_of [] ?_ rfl
    simp [Sy.ne1 (ne_len l1)]
  by_cases l2 : s.queues.length = u.queues.length
  case neg =>
    have l2' : ¬ (s.queues.length : Int) = u.queues.length := by omega
    simp [Try.ntmps12, l1, l2']
    refine vcRet_of [] ?_ rfl
    simp [Sy.ne2 (ne_len l2)]
  simp [Try.ntmps12, l1, l2]
  refine (sameInts_m s.groups u.groups f3).mono ?_
  rintro _ rfl
  by_cases hg : s.groups = u.groups
  case neg =>
    simp [hg]
    refine vcRet_of [] ?_ rfl
    simp [Sy.ne3 hg]
  simp [hg]
  refine vc_loop (fun n σ => ∃ k : Nat, n = s.locks.length - k ∧ k ≤ s.locks.length ∧ s.locks.take k = u.locks.take k ∧ σ = ⟨126, [(5, .i k), (2, .ptr 2 0), (3, .ptr 3 0)], [(2, s.box), (3, u.box)]⟩) ?_ ?_
  · exact ⟨_, _, ⟨0, rfl, Nat.zero_le _, rfl, rfl⟩, [], _, rfl, by simp [hg]⟩
  rintro n σ ⟨k, rfl, hk, hn, rfl⟩
  by_cases hlt : k < s.locks.length
  · obtain ⟨x, hx, e⟩ := at_lt hlt
    have hlt2 : k < u.locks.length := by omega
    obtain ⟨y, hy, ey⟩ := at_lt hlt2
    by_cases h : x.hold = y.hold
    case neg =>
      simp [hlt, hlt2, e, ey, h]
      refine ⟨by kernel_rfl, ?_⟩
      refine vcRet_of [] ?_ rfl
      simp [Sy.ne1 (ne_at hx hy fun e => h (by rw [e]))]
    simp [hlt, hlt2, e, ey, h]
    refine effCall (sameInts_m x.rd y.rd (f4 x (List.mem_of_getElem? hx))) ?_
    by_cases hr : x.rd = y.rd
    case neg =>
      simp [hr]
      refine ⟨by kernel_rfl, ?_⟩
      refine vcRet_of [] ?_ rfl
      simp [Sy.ne1 (ne_at hx hy fun e => hr (by rw [e]))]
    have hxy : x = y := by cases x; cases y; simp_all
    subst hxy
    simp [wrap_succ hlt f1]
    refine ⟨by kernel_rfl, ?_⟩
    exact ⟨_, by omega, _, ⟨k + 1, rfl, hlt, take_same hn hx hy, rfl⟩, [], _, rfl, by simp⟩
  obtain rfl : k = s.locks.length := by omega
  have hlk := take_all l1 hn
  simp
  refine vc_loop (fun n σ => ∃ k : Nat, n = s.queues.length - k ∧ k ≤ s.queues.length ∧ s.queues.take k = u.queues.take k ∧ σ = ⟨126, [(6, .i k), (2, .ptr 2 0), (3, .ptr 3 0)], [(2, s.box), (3, u.box)]⟩) ?_ ?_
  · exact ⟨_, _, ⟨0, rfl, Nat.zero_le _, rfl, rfl⟩, [], _, rfl, by simp⟩
  rintro n σ ⟨k, rfl, hk, hn, rfl⟩
  by_cases hlt : k < s.queues.length
  · obtain ⟨x, hx, e⟩ := at_lt hlt
    have hlt2 : k < u.queues.length := by omega
    obtain ⟨y, hy, ey⟩ := at_lt hlt2
    have hxl := f5 x (List.mem_of_getElem? hx)
    by_cases h : x.room = y.room
    case neg =>
      simp [hlt, hlt2, e, ey, h]
      refine ⟨by kernel_rfl, ?_⟩
      refine vcRet_of [] ?_ rfl
      simp [Sy.ne2 (ne_at hx hy fun e => h (by rw [e]))]
    by_cases h2 : x.shut = y.shut
    case neg =>
      simp [hlt, hlt2, e, ey, h, h2]
      refine ⟨by kernel_rfl, ?_⟩
      refine vcRet_of [] ?_ rfl
      simp [Sy.ne2 (ne_at hx hy fun e => h2 (by rw [e]))]
    by_cases h3 : x.items.length = y.items.length
    case neg =>
      have h3' : ¬ (x.items.length : Int) = y.items.length := by omega
      simp [hlt, hlt2, e, ey, h, h2, h3']
      refine ⟨by kernel_rfl, ?_⟩
      refine vcRet_of [] ?_ rfl
      simp [Sy.ne2 (ne_at hx hy fun e => h3 (by rw [e]))]
    simp [hlt, hlt2, e, ey, h, h2, h3]
    refine ⟨by kernel_rfl, ?_⟩
    refine vc_loop (fun n' σ => ∃ j : Nat, n' = x.items.length - j ∧ j ≤ x.items.length ∧ x.items.take j = y.items.take j ∧ σ = ⟨126, [(9, .i j), (7, .ptr 7 0), (8, .ptr 8 0), (6, .i k), (2, .ptr 2 0), (3, .ptr 3 0)], [(7, .box 55 [.i x.room, .d (il x.items), .b x.shut]), (8, .box 55 [.i y.room, .d (il y.items), .b y.shut]), (2, s.box), (3, u.box)]⟩) ?_ ?_
    · exact ⟨_, _, ⟨0, rfl, Nat.zero_le _, rfl, rfl⟩, [], _, rfl, by simp [h, h2]⟩
    rintro n' σ ⟨j, rfl, hj, hnj, rfl⟩
    by_cases hjt : j < x.items.length
    · obtain ⟨a, ha, ea⟩ := at_lt hjt
      have hjt2 : j < y.items.length := by omega
      obtain ⟨b, hb, eb⟩ := at_lt hjt2
      by_cases hab : a = b
      · subst hab
        simp [hjt, hjt2, ea, eb, wrap_succ hjt hxl]
        refine ⟨by kernel_rfl, ?_⟩
        exact ⟨_, by omega, _, ⟨j + 1, rfl, hjt, take_same hnj ha hb, rfl⟩, [], _, rfl, by simp⟩
      · simp [hjt, hjt2, ea, eb, hab]
        refine ⟨by kernel_rfl, ?_⟩
        refine vcRet_of [] ?_ rfl
        simp [Sy.ne2 (ne_at hx hy fun e => ne_at ha hb hab (by rw [e]))]
    obtain rfl : j = x.items.length := by omega
    have hit := take_all h3 hnj
    have hxy : x = y := by cases x; cases y; simp_all
    subst hxy
    simp [wrap_succ hlt f2]
    exact ⟨_, by omega, _, ⟨k + 1, rfl, hlt, take_same hn hx hy, rfl⟩, [], _, rfl, by simp⟩
  obtain rfl : k = s.queues.length := by omega
  have hqu := take_all l2 hn
  simp
  refine vcRet_of [] ?_ rfl
  have : s = u := by cases s; cases u; simp_all
  simp [this]
end Go.Proofs.Ytnkoibhjnahkiaa
namespace Go.Proofs.Ytnkoibhjnahkiaa
open Go.RowKit

set_option maxRecDepth 100000 in
set_option maxHeartbeats 4000000 in
theorem refNew_m (n : Int) (rooms : List Int) (hl : rooms.length < 4294967296) (g : Int) : Meets Try.prog 11 [.i n, .d (il rooms), .i g] [] (Ret (.tup [(newS n rooms g).1.pv, .i (newS n rooms g).2])) := by
  refine meetsH [] tbOk mixed Try.func11 pl11 rfl rfl ?_
  by_cases m1 : 16 < n
  · simp [Try.ntmps11, m1]
    refine vcRet_of [] ?_ rfl
    simp [newS, m1, noSy]
  by_cases m2 : (16 : Int) < rooms.length
  · simp [Try.ntmps11, m1, m2]
    refine vcRet_of [] ?_ rfl
    have : 16 < rooms.length := by omega
    simp [newS, this, noSy]
  by_cases m3 : 16 < g
  · simp [Try.ntmps11, m1, m2, m3]
    refine vcRet_of [] ?_ rfl
    simp [newS, m3, noSy]
  have hm' : ¬ (16 < n ∨ 16 < rooms.length ∨ 16 < g) := by omega
  simp [Try.ntmps11, m1, m2, m3]
  refine vc_loop (fun m σ => ∃ k : Nat, m = rooms.length - k ∧ k ≤ rooms.length ∧ (rooms.take k).all roomOk = true ∧ σ = ⟨77, [(9, .i k), (0, .i n), (2, .i g), (1, .d (il rooms)), (8, .ptr 8 0), (6, .ptr 6 0)], [(8, .box 27 [.d (.v (.slice none 0 0)), .rw 900001 k, .d (.v (.slice none 0 0))]), (900001, .row 55 3 ((rooms.take k).map fun r => Qu.ds ⟨r, [], false⟩) false), (6, .box 27 [.d (.v (.slice none 0 0)), .d (.v (.slice none 0 0)), .d (.v (.slice none 0 0))])]⟩) ?_ ?_
  · refine ⟨_, _, ⟨0, rfl, Nat.zero_le _, rfl, rfl⟩, [.cell 8 1 900001 55 3], _, rfl, ?_⟩
    simp
  rintro m σ ⟨k, rfl, hk, hr, rfl⟩
  by_cases hlt : k < rooms.length
  · obtain ⟨x, hx, e⟩ := at_lt hlt
    have hall : roomOk x = false → rooms.all roomOk = false := fun h => all_at hx h
    simp [hlt, e]
    refine (between_m x 1 64).mono ?_
    rintro _ rfl
    cases hb : roomOk x
    · have hb' : (decide (1 ≤ x) && decide (x ≤ 64)) = false := hb
      simp [hb']
      refine vcRet_of [] ?_ rfl
      have := hall hb
      simp [newS, this, hm', noSy]
    have hb' : (decide (1 ≤ x) && decide (x ≤ 64)) = true := hb
    have hm2 : min k rooms.length = k := by omega
    simp [hb', hlt, e, wrap_succ hlt hl, hm2]
    refine ⟨by omega, by kernel_rfl, _, ?_, _, ⟨k + 1, rfl, hlt, ?_, rfl⟩, [.soft 900001 1 1], _, rfl, ?_⟩
    · omega
    · rw [← List.all_eq_true, List.take_add_one, hx, List.all_append, hr]
      simp [hb]
    · simp [List.take_add_one, hx, Function.comp_def]
  obtain rfl : k = rooms.length := by omega
  rw [List.take_of_length_le (Nat.le_refl _)] at hr
  by_cases h0 : n < 0
  · simp [h0]
    refine vcRet_of [] ?_ rfl
    simp [newS, h0, hm', noSy]
  by_cases h1 : g < 0
  · simp [h0, h1]
    refine vcRet_of [] ?_ rfl
    simp [newS, h0, h1, hm', noSy]
  obtain ⟨n, rfl⟩ : ∃ m : Nat, n = m := ⟨n.toNat, by omega⟩
  obtain ⟨g, rfl⟩ : ∃ m : Nat, g = m := ⟨g.toNat, by omega⟩
  simp [h0, h1]
  have htk : ∀ f : Int → List D, List.take rooms.length (List.map f rooms) = List.map f rooms := fun f => List.take_of_length_le (by simp)
  refine vc_loop (fun m σ => ∃ k : Nat, m = n - k ∧ k ≤ n ∧ σ = ⟨77, [(10, .i k), (0, .i n), (2, .i g), (8, .ptr 8 0), (6, .ptr 6 0)], [(8, .box 27 [.rw 900002 k, .rw 900001 rooms.length, .d (.v (.slice none 0 0))]), (900001, .row 55 3 (rooms.map fun r => Qu.ds ⟨r, [], false⟩) false), (900002, .row 57 2 (List.replicate k (Lk.ds ⟨0, []⟩)) false), (6, .box 27 [.d (.v (.slice none 0 0)), .d (.v (.slice none 0 0)), .d (.v (.slice none 0 0))])]⟩) ?_ ?_
  · refine ⟨_, _, ⟨0, rfl, Nat.zero_le _, rfl⟩, [.cell 8 0 900002 57 2], _, rfl, ?_⟩
    simp
  rintro m σ ⟨k, rfl, hk, rfl⟩
  by_cases hlt : k < n
  · simp [hlt, wrap_succ hlt (show n < 4294967296 by omega)]
    refine ⟨by omega, _, ?_, _, ⟨k + 1, rfl, hlt, rfl⟩, [.soft 900002 1 1], _, rfl, ?_⟩
    · omega
    · simp [List.replicate_succ']
  obtain rfl : k = n := by omega
  simp
  refine vc_loop (fun m σ => ∃ j : Nat, m = g - j ∧ j ≤ g ∧ σ = ⟨77, [(11, .i j), (2, .i g), (8, .ptr 8 0), (6, .ptr 6 0)], [(8, .box 27 [.rw 900002 k, .rw 900001 rooms.length, .rw 900003 j]), (900001, .row 55 3 (rooms.map fun r => Qu.ds ⟨r, [], false⟩) false), (900002, .row 57 2 (List.replicate k (Lk.ds ⟨0, []⟩)) false), (900003, .row 3 1 (List.replicate j (ics 0)) false), (6, .box 27 [.d (.v (.slice none 0 0)), .d (.v (.slice none 0 0)), .d (.v (.slice none 0 0))])]⟩) ?_ ?_
  · refine ⟨_, _, ⟨0, rfl, Nat.zero_le _, rfl⟩, [.cell 8 2 900003 3 1], _, rfl, ?_⟩
    simp
  rintro m σ ⟨j, rfl, hj, rfl⟩
  by_cases hlt : j < g
  · simp [hlt, wrap_succ hlt (show g < 4294967296 by omega)]
    refine ⟨by omega, _, ?_, _, ⟨j + 1, rfl, hlt, rfl⟩, [], _, rfl, ?_⟩
    · omega
    · simp [List.replicate_succ']
  obtain rfl : j = g := by omega
  simp
  refine vcRet_of [] ?_ rfl
  simp [newS, hr, hm', h0, h1, Function.comp_def, htk]
/-- Who blocks whoever waits so. -/
def blocksS (s : Sy) (t : Int) (w : Wt) : Bool :=
  if w.kind = 1 then decide (w.obj = t)
  else if w.kind ≠ 3 ∨ (w.til ≠ 0 ∧ w.til ≠ 1) ∨ w.obj < 0 ∨ (s.locks.length : Int) ≤ w.obj then false
  else decide ((s.locks.getD w.obj.toNat default).hold = t) || (decide (w.til = 0) && decide (t ∈ (s.locks.getD w.obj.toNat default).rd))
@[simp] def Wt.pv2 (w : Wt) : PV := .agg [.i w.kind, .i w.obj, .i w.til]
set_option maxRecDepth 100000 in
set_option maxHeartbeats 4000000 in
theorem blocks_m (s : Sy) (hf : Fits s) (t : Int) (w : Wt) : Meets Try.prog 24 [s.pv, .i t, w.pv2] [] (Ret (.b (blocksS s t w))) := by
  obtain ⟨f1, f2, f3, f4, f5⟩ := hf
  refine meetsH [] tbOk mixed Try.func24 pl24 rfl rfl ?_
  by_cases h1 : w.kind = 1
  · simp [Try.ntmps24, h1]
    refine vcRet_of [] ?_ rfl
    simp [blocksS, h1]
  by_cases h3 : w.kind = 3
  case neg =>
    simp [Try.ntmps24, h1, h3]
    refine vcRet_of [] ?_ rfl
    simp [blocksS, h1, h3]
  by_cases ht : ¬ w.til = 0 ∧ ¬ w.til = 1
  · obtain ⟨t0, t1⟩ := ht
    simp [Try.ntmps24, h3, t0, t1]
    refine vcRet_of [] ?_ rfl
    simp [blocksS, h3, t0, t1]
  have ht : w.til = 0 ∨ w.til = 1 := by omega
  rcases ht with t0 | t0
  all_goals
    by_cases o1 : w.obj < 0
    · simp [Try.ntmps24, h3, t0, o1]
      refine vcRet_of [] ?_ rfl
      simp [blocksS, h3, t0, o1]
    by_cases o2 : (s.locks.length : Int) ≤ w.obj
    · simp [Try.ntmps24, h3, t0, o1, o2]
      refine vcRet_of [] ?_ rfl
      simp [blocksS, h3, t0, o2]
    have hlt : w.obj.toNat < s.locks.length := by omega
    obtain ⟨x, hx, e⟩ := at_lt hlt
    have g1 : 0 ≤ w.obj := by omega
    have g2 : w.obj < s.locks.length := by omega
    by_cases hh : x.hold = t
    · simp [Try.ntmps24, h3, t0, o1, o2, hlt, e, g1, g2, hh]
      refine vcRet_of [] ?_ rfl
      simp [blocksS, h3, t0, o1, o2, hx, hh]
    simp [Try.ntmps24, h3, t0, o1, o2, hlt, e, g1, g2, hh]
    first
    | refine vcRet_of [] ?_ rfl
      simp [blocksS, h3, t0, o1, o2, hx, hh]
      done
    | refine (reads_m x (f4 x (List.mem_of_getElem? hx)) t).mono ?_
      rintro _ rfl
      simp
      refine vcRet_of [] ?_ rfl
      simp [blocksS, h3, t0, o1, o2, hx, hh]
end Go.Proofs.Ytnkoibhjnahkiaa
namespace Go.Proofs.Ytnkoibhjnahkiaa
open Go.RowKit

def aw0 : Sy := ⟨[⟨0, []⟩, ⟨0, []⟩], [⟨1, [], false⟩], [0]⟩
def aw1 : Sy := ⟨[⟨1, []⟩, ⟨0, []⟩], [⟨1, [], false⟩], [0]⟩
def aw2 : Sy := ⟨[⟨1, []⟩, ⟨0, []⟩], [⟨1, [5], false⟩], [0]⟩
theorem aw_new : newS 2 [1] 1 = (aw0, 0) := by decide
theorem aw_lock : onLock aw0 0 1 (lockF 1) = (aw1, 0) := by decide
theorem aw_lock2 : onLock aw1 0 2 (lockF 2) = (aw1, 9) := by decide
theorem aw_send : onQueue aw1 0 (sendF 5) = (aw2, 0) := by decide
theorem aw_send2 : onQueue aw2 0 (sendF 6) = (aw2, 5) := by decide
theorem aw_recv : onQueue aw2 0 recvF = (aw1, 0) := by decide
theorem aw_recvV : recvV aw2 0 = 5 := by decide
theorem aw_recvB : recvB aw2 0 = true := by decide
theorem aw_there : thereS aw1 ⟨3, 0, 0⟩ = (false, 0) := by decide
theorem aw_fits0 : Fits aw0 := by simp [Fits, aw0]
theorem aw_fits1 : Fits aw1 := by simp [Fits, aw1]
theorem aw_fits2 : Fits aw2 := by simp [Fits, aw2]
set_option maxRecDepth 100000 in
set_option maxHeartbeats 2000000 in
theorem awake_m : Meets Try.prog 9 [] [] (Ret (.b true)) := by
  refine meetsH [] tbOk mixed Try.func9 pl9 rfl rfl ?_
  simp [Try.ntmps9]
  refine (new_m 2 [1] (by simp) 1).mono ?_
  rintro _ rfl
  simp [aw_new]
  refine (lock_m aw0 aw_fits0 0 1).mono ?_
  rintro _ rfl
  simp [aw_lock]
  refine (lock_m aw1 aw_fits1 0 2).mono ?_
  rintro _ rfl
  simp [aw_lock2]
  refine (send_m aw1 aw_fits1 0 5).mono ?_
  rintro _ rfl
  simp [aw_send]
  refine (send_m aw2 aw_fits2 0 6).mono ?_
  rintro _ rfl
  simp [aw_send2]
  refine (recv_m aw2 aw_fits2 0).mono ?_
  rintro _ rfl
  simp [aw_recv, aw_recvV, aw_recvB]
  refine (there_m aw1 aw_fits1 ⟨3, 0, 0⟩).mono ?_
  rintro _ rfl
  simp [aw_there]
  exact vcRet_of [] (by simp) rfl
end Go.Proofs.Ytnkoibhjnahkiaa
namespace Go.Proofs.Ytnkoibhjnahkiaa
open Go.RowKit

def far (s : Sy) : Bool := s.locks.any (fun l => decide (300 < l.rd.length)) || (s.queues.any (fun q => decide (100 < q.items.length)) || (decide (60 < s.locks.length) || (decide (60 < s.queues.length) || decide (60 < s.groups.length))))
/-- The lists that are gone through before any is known to be short. -/
def Lens (s : Sy) : Prop := s.locks.length ≤ maxLen ∧ s.queues.length ≤ maxLen
theorem wrap_suc2 {k n : Nat} (h : k < n) (hn : n ≤ maxLen) : IntKind.i64.wrap ((k : Int) + 1) = (k : Int) + 1 := IntWalk.i64_in _ (by unfold maxLen at hn; omega)
theorem far_fits {s : Sy} (h : far s = false) : s.locks.length ≤ 60 ∧ s.queues.length ≤ 60 ∧ s.groups.length ≤ 60 ∧ (∀ l ∈ s.locks, l.rd.length ≤ 300) ∧ ∀ q ∈ s.queues, q.items.length ≤ 100 := by
  unfold far at h
  simp only [Bool.or_eq_false_iff, decide_eq_false_iff_not] at h
  obtain ⟨h1, h2, h3, h4, h5⟩ := h
  refine ⟨by omega, by omega, by omega, fun l hl => ?_, fun q hq => ?_⟩
  · have := List.any_eq_false.1 h1 l hl
    simp at this; omega
  · have := List.any_eq_false.1 h2 q hq
    simp at this; omega
theorem far_Fits {s : Sy} (h : far s = false) : Fits s := by
  obtain ⟨h1, h2, h3, h4, h5⟩ := far_fits h
  exact ⟨by omega, by omega, by omega, fun l hl => by have := h4 l hl; omega, fun q hq => by have := h5 q hq; omega⟩
set_option maxRecDepth 100000 in
set_option maxHeartbeats 1000000 in
theorem far_m (s : Sy) (hf : Lens s) : Meets Try.prog 13 [s.pv] [] (Ret (.b (far s))) := by
  obtain ⟨f1, f2⟩ := hf
  refine meetsH [] tbOk mixed Try.func13 pl13 rfl rfl ?_
  simp [Try.ntmps13]
  refine vc_loop (fun n σ => ∃ k : Nat, n = s.locks.length - k ∧ k ≤ s.locks.length ∧ noneTo (fun l => decide (300 < l.rd.length)) s.locks k ∧ σ = ⟨51, [(3, .i k), (1, .ptr 1 0)], [(1, s.box)]⟩) ?_ ?_
  · exact ⟨_, _, ⟨0, rfl, Nat.zero_le _, noneTo_zero _ _, rfl⟩, [], _, rfl, by simp⟩
  rintro n σ ⟨k, rfl, hk, hn, rfl⟩
  by_cases hlt : k < s.locks.length
  · obtain ⟨x, hx, e⟩ := at_lt hlt
    by_cases h : (300 : Int) < x.rd.length
    · simp [hlt, e, h]
      refine vcRet_of [] ?_ rfl
      have := any_at (p := fun l : Lk => decide (300 < l.rd.length)) hx (by simp; omega)
      simp only [far, this]
      simp
    · simp [hlt, e, h, wrap_suc2 hlt f1]
      exact ⟨_, by omega, _, ⟨k + 1, rfl, hlt, noneTo_succ hn hx (by simp; omega), rfl⟩, [], _, rfl, by simp⟩
  obtain rfl : k = s.locks.length := by omega
  have h1 := noneTo_any hn
  simp
  refine vc_loop (fun n σ => ∃ k : Nat, n = s.queues.length - k ∧ k ≤ s.queues.length ∧ noneTo (fun q => decide (100 < q.items.length)) s.queues k ∧ σ = ⟨51, [(4, .i k), (1, .ptr 1 0)], [(1, s.box)]⟩) ?_ ?_
  · exact ⟨_, _, ⟨0, rfl, Nat.zero_le _, noneTo_zero _ _, rfl⟩, [], _, rfl, by simp⟩
  rintro n σ ⟨k, rfl, hk, hn, rfl⟩
  by_cases hlt : k < s.queues.length
  · obtain ⟨x, hx, e⟩ := at_lt hlt
    by_cases h : (100 : Int) < x.items.length
    · simp [hlt, e, h]
      refine vcRet_of [] ?_ rfl
      have := any_at (p := fun q : Qu => decide (100 < q.items.length)) hx (by simp; omega)
      simp only [far, this]
      simp
    · simp [hlt, e, h, wrap_suc2 hlt f2]
      exact ⟨_, by omega, _, ⟨k + 1, rfl, hlt, noneTo_succ hn hx (by simp; omega), rfl⟩, [], _, rfl, by simp⟩
  obtain rfl : k = s.queues.length := by omega
  have h2 := noneTo_any hn
  have hfar : far s = (decide (60 < s.locks.length) || (decide (60 < s.queues.length) || decide (60 < s.groups.length))) := by
    unfold far
    rw [h1, h2]; rfl
  by_cases b1 : (60 : Int) < s.locks.length
  · simp [b1]
    refine vcRet_of [] ?_ rfl
    simp [hfar, show 60 < s.locks.length by omega]
  by_cases b2 : (60 : Int) < s.queues.length
  · simp [b1, b2]
    refine vcRet_of [] ?_ rfl
    simp [hfar, show 60 < s.queues.length by omega]
  simp [b1, b2]
  refine vcRet_of [] ?_ rfl
  simp [hfar, show ¬ 60 < s.locks.length by omega, show ¬ 60 < s.queues.length by omega]
  omega
end Go.Proofs.Ytnkoibhjnahkiaa
namespace Go.Proofs.Ytnkoibhjnahkiaa
open Go.RowKit

theorem newS_fits (n : Int) (rooms : List Int) (g : Int) : Fits (newS n rooms g).1 := by
  unfold newS
  split
  · simp [noSy, Fits]
  · rename_i h
    split
    · simp [noSy, Fits]
    · split
      · simp [noSy, Fits]
      · refine ⟨?_, ?_, ?_, ?_, ?_⟩
        · simp; omega
        · simp; omega
        · simp; omega
        · intro l hl; obtain ⟨_, rfl⟩ := List.mem_replicate.1 hl; simp
        · intro q hq; obtain ⟨r, _, rfl⟩ := List.mem_map.1 hq; simp
set_option maxRecDepth 100000 in
set_option maxHeartbeats 1000000 in
theorem lawNew_m (n : Int) (rooms : List Int) (g : Int) : Meets Try.prog 3 [.i n, .d (il rooms), .i g] [] (Ret (.b true)) := by
  refine meetsH [] tbOk mixed Try.func3 pl3 rfl rfl ?_
  by_cases h : (100 : Int) < rooms.length
  · simp [Try.ntmps3, h]
    refine awake_m.mono ?_
    rintro _ rfl
    simp
    exact vcRet_of [] (by simp) rfl
  have hl : rooms.length < 4294967296 := by omega
  simp [Try.ntmps3, h]
  refine (new_m n rooms hl g).mono ?_
  rintro _ rfl
  simp
  refine (refNew_m n rooms hl g).mono ?_
  rintro _ rfl
  simp
  refine (same_m (newS n rooms g).1 (newS n rooms g).1 (newS_fits n rooms g)).mono ?_
  rintro _ rfl
  simp
  refine awake_m.mono ?_
  rintro _ rfl
  simp
  exact vcRet_of [] (by simp) rfl
end Go.Proofs.Ytnkoibhjnahkiaa
