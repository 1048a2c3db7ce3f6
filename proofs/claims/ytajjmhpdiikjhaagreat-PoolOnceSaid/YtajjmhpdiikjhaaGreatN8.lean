/- The reference: numbers and checks. No condition. -/
import Derived.Test.YtajjmhpdiikjhaaGreatN7
namespace Go.Proofs.YtajjmhpdiikjhaaGreat.Po
set_option maxRecDepth 100000
open Go.RowKit

theorem refTime_m (n : Int) : Meets Tryz.prog 77 [.i n] [] (Ret (.b (timeOk n))) := by
  refine meetsH [] tbOk mixed Tryz.func77 pl77 rfl rfl ?_
  by_cases h : 0 ≤ n
  · simp [Tryz.ntmps77, h]
    refine vcRet_of [] ?_ rfl
    simp [timeOk, h]
  · simp [Tryz.ntmps77, h]
    refine vcRet_of [] ?_ rfl
    simp [timeOk, h]
theorem refNumber_m (n : Int) : Meets Tryz.prog 80 [.i n] [] (Ret (.b (numOk n))) := by
  refine meetsH [] tbOk mixed Tryz.func80 pl80 rfl rfl ?_
  by_cases h : 1 ≤ n
  · simp [Tryz.ntmps80, h]
    refine vcRet_of [] ?_ rfl
    simp [numOk, h]
  · simp [Tryz.ntmps80, h]
    refine vcRet_of [] ?_ rfl
    simp [numOk, h]
theorem many_m (s : Po) (hh : Held s) : Meets Tryz.prog 95 [s.pv] [] (Ret (.i ((s.idle.cs.length : Int) + s.ls.length + s.ds.length))) := by
  refine meetsH [] tbOk mixed Tryz.func95 pl95 rfl rfl ?_
  have h1 := hh.i
  have h2 := hh.l
  have h3 := hh.d
  have w1 : IntKind.i64.wrap ((s.idle.cs.length : Int) + s.ls.length) = (s.idle.cs.length : Int) + s.ls.length := IntWalk.i64_in _ (by omega)
  have w2 : IntKind.i64.wrap ((s.idle.cs.length : Int) + s.ls.length + s.ds.length) = (s.idle.cs.length : Int) + s.ls.length + s.ds.length := IntWalk.i64_in _ (by omega)
  simp [Tryz.ntmps95, w1, w2]
  exact vcRet_of [] (by simp) rfl
theorem any_none {α : Type} {p : α → Bool} {xs : List α} (h : Wa.noneTo p xs xs.length) : xs.any p = false := by
  rw [List.any_eq_false]
  intro x hx
  obtain ⟨i, hi⟩ := List.getElem?_of_mem hx
  simp [h i x (lt_some hi) hi]
theorem any_hit {α : Type} {p : α → Bool} {xs : List α} {k : Nat} {x : α} (hx : xs[k]? = some x) (hp : p x = true) : xs.any p = true := List.any_eq_true.2 ⟨x, List.mem_of_getElem? hx, hp⟩
set_option maxHeartbeats 2000000 in
theorem where_m (s : Po) (hh : Held s) (c : Int) : Meets Tryz.prog 46 [s.pv, .i c] [] (Ret (.i (role s c))) := by
  have hl1 := hh.l
  have hl2 := hh.d
  have hl3 := hh.w
  refine meetsH [] tbOk mixed Tryz.func46 pl46 rfl rfl ?_
  simp [Tryz.ntmps46]
  refine vc_loop (fun n σ => ∃ j : Nat, n = s.ls.length - j ∧ j ≤ s.ls.length ∧ Wa.noneTo (fun x : Ls => x.call == c) s.ls j ∧ σ = ⟨55, [(5, .i j), (2, .ptr 2 0), (1, .i c)], [(2, .box 31 s.cells)]⟩) ?_ ?_
  · exact ⟨_, _, ⟨0, rfl, Nat.zero_le _, Wa.noneTo_zero _ _, rfl⟩, [], _, rfl, by simp⟩
  rintro n σ ⟨j, rfl, hj, h1, rfl⟩
  by_cases hlt : j < s.ls.length
  · obtain ⟨x, hx, e⟩ := at_lt hlt
    by_cases hp : x.call = c
    · simp [hlt, e, hp]
      refine vcRet_of [] ?_ rfl
      have : role s c = 1 := by rw [role, any_hit hx (by simpa using hp)]; rfl
      simp [this]
    · simp [hlt, e, hp, wrap_succ hlt (by omega)]
      refine ⟨_, ?_, _, ⟨j + 1, rfl, hlt, Wa.noneTo_succ h1 hx (by simpa using hp), rfl⟩, [], _, rfl, by simp⟩
      omega
  obtain rfl : j = s.ls.length := by omega
  have a1 := any_none h1
  simp
  refine vc_loop (fun n σ => ∃ j : Nat, n = s.ds.length - j ∧ j ≤ s.ds.length ∧ Wa.noneTo (fun x : Dl => x.call == c) s.ds j ∧ σ = ⟨55, [(6, .i j), (2, .ptr 2 0), (1, .i c)], [(2, .box 31 s.cells)]⟩) ?_ ?_
  · exact ⟨_, _, ⟨0, rfl, Nat.zero_le _, Wa.noneTo_zero _ _, rfl⟩, [], _, rfl, by simp⟩
  rintro n σ ⟨j, rfl, hj, h2, rfl⟩
  by_cases hlt : j < s.ds.length
  · obtain ⟨x, hx, e⟩ := at_lt hlt
    by_cases hp : x.call = c
    · simp [hlt, e, hp]
      refine vcRet_of [] ?_ rfl
      have : role s c = 2 := by rw [role, a1, any_hit hx (by simpa using hp)]; rfl
      simp [this]
    · simp [hlt, e, hp, wrap_succ hlt (by omega)]
      refine ⟨_, ?_, _, ⟨j + 1, rfl, hlt, Wa.noneTo_succ h2 hx (by simpa using hp), rfl⟩, [], _, rfl, by simp⟩
      omega
  obtain rfl : j = s.ds.length := by omega
  have a2 := any_none h2
  simp
  refine vc_loop (fun n σ => ∃ j : Nat, n = s.wt.ws.length - j ∧ j ≤ s.wt.ws.length ∧ Wa.noneTo (fun x : Wa.Wt => x.call == c) s.wt.ws j ∧ σ = ⟨55, [(7, .i j), (2, .ptr 2 0), (1, .i c)], [(2, .box 31 s.cells)]⟩) ?_ ?_
  · exact ⟨_, _, ⟨0, rfl, Nat.zero_le _, Wa.noneTo_zero _ _, rfl⟩, [], _, rfl, by simp⟩
  rintro n σ ⟨j, rfl, hj, h3, rfl⟩
  by_cases hlt : j < s.wt.ws.length
  · obtain ⟨x, hx, e⟩ := at_lt hlt
    by_cases hp : x.call = c
    · simp [hlt, e, hp]
      refine vcRet_of [] ?_ rfl
      have : role s c = 3 := by rw [role, a1, a2, any_hit hx (by simpa using hp)]; rfl
      simp [this]
    · simp [hlt, e, hp, wrap_succ hlt (by omega)]
      refine ⟨_, ?_, _, ⟨j + 1, rfl, hlt, Wa.noneTo_succ h3 hx (by simpa using hp), rfl⟩, [], _, rfl, by simp⟩
      omega
  obtain rfl : j = s.wt.ws.length := by omega
  have a3 := any_none h3
  simp
  refine vcRet_of [] ?_ rfl
  simp [role, a1, a2, a3]
set_option maxHeartbeats 2000000 in
theorem there_m (s : Po) (hh : Held s) (c : Int) : Meets Tryz.prog 47 [s.pv, .i c] [] (Ret (.b (there s c))) := by
  have hl1 := hh.l
  have hl2 := hh.i
  refine meetsH [] tbOk mixed Tryz.func47 pl47 rfl rfl ?_
  simp [Tryz.ntmps47]
  refine vc_loop (fun n σ => ∃ j : Nat, n = s.ls.length - j ∧ j ≤ s.ls.length ∧ Wa.noneTo (fun x : Ls => x.conn == c) s.ls j ∧ σ = ⟨39, [(5, .i j), (2, .ptr 2 0), (1, .i c)], [(2, .box 31 s.cells)]⟩) ?_ ?_
  · exact ⟨_, _, ⟨0, rfl, Nat.zero_le _, Wa.noneTo_zero _ _, rfl⟩, [], _, rfl, by simp⟩
  rintro n σ ⟨j, rfl, hj, h1, rfl⟩
  by_cases hlt : j < s.ls.length
  · obtain ⟨x, hx, e⟩ := at_lt hlt
    by_cases hp : x.conn = c
    · simp [hlt, e, hp]
      refine vcRet_of [] ?_ rfl
      have : there s c = true := by rw [there, any_hit hx (by simpa using hp)]; rfl
      simp [this]
    · simp [hlt, e, hp, wrap_succ hlt (by omega)]
      refine ⟨_, ?_, _, ⟨j + 1, rfl, hlt, Wa.noneTo_succ h1 hx (by simpa using hp), rfl⟩, [], _, rfl, by simp⟩
      omega
  obtain rfl : j = s.ls.length := by omega
  have a1 := any_none h1
  simp
  refine vc_loop (fun n σ => ∃ j : Nat, n = s.idle.cs.length - j ∧ j ≤ s.idle.cs.length ∧ Wa.noneTo (fun x : Id.Cn => x.conn == c) s.idle.cs j ∧ σ = ⟨39, [(6, .i j), (2, .ptr 2 0), (1, .i c)], [(2, .box 31 s.cells)]⟩) ?_ ?_
  · exact ⟨_, _, ⟨0, rfl, Nat.zero_le _, Wa.noneTo_zero _ _, rfl⟩, [], _, rfl, by simp⟩
  rintro n σ ⟨j, rfl, hj, h2, rfl⟩
  by_cases hlt : j < s.idle.cs.length
  · obtain ⟨x, hx, e⟩ := at_lt hlt
    by_cases hp : x.conn = c
    · simp [hlt, e, hp]
      refine vcRet_of [] ?_ rfl
      have : there s c = true := by rw [there, a1, any_hit hx (by simpa using hp)]; rfl
      simp [this]
    · simp [hlt, e, hp, wrap_succ hlt (by omega)]
      refine ⟨_, ?_, _, ⟨j + 1, rfl, hlt, Wa.noneTo_succ h2 hx (by simpa using hp), rfl⟩, [], _, rfl, by simp⟩
      omega
  obtain rfl : j = s.idle.cs.length := by omega
  have a2 := any_none h2
  simp
  refine vcRet_of [] ?_ rfl
  simp [there, a1, a2]
end Go.Proofs.YtajjmhpdiikjhaaGreat.Po
namespace Go.Proofs.YtajjmhpdiikjhaaGreat.Po
set_option maxRecDepth 100000
open Go.RowKit

theorem form_no {s : Po} (h : ¬ Form s) : decide (Form s) = false := decide_eq_false h
theorem up_le {α : Type} {key : α → Int} {l : List α} {k : Nat} {x y : α} (hx : l[k + 1]? = some x) (hy : l[k]? = some y) (hu : Up (l.map key)) : key y < key x := by
  have hu2 : Up ((l.take (k + 1)).map key) := by
    refine List.Pairwise.sublist ?_ hu
    exact (List.take_sublist _ _).map _
  have hu3 : Up ((l.take (k + 1 + 1)).map key) := by
    refine List.Pairwise.sublist ?_ hu
    exact (List.take_sublist _ _).map _
  exact (up_step hx hy hu2).1 hu3
set_option maxHeartbeats 16000000 in
theorem numbers_m (s : Po) (hh : Held s) : Meets Tryz.prog 45 [s.pv] [] (Ret (.b (decide (Form s)))) := by
  have hl1 := hh.l
  have hl2 := hh.d
  have hl3 := hh.i
  have hl4 := hh.w
  refine meetsH [] tbOk mixed Tryz.func45 pl45 rfl rfl ?_
  by_cases c1 : s.back < 0
  case pos =>
    have hb := form_no fun g : Form s => absurd g.n.b0 (by omega)
    simp [Tryz.ntmps45, c1]
    refine ⟨by kernel_rfl, vcRet_of [] ?_ rfl⟩
    simp [hb]
  by_cases c2 : 16 ≤ s.back
  case pos =>
    have hb := form_no fun g : Form s => absurd g.n.b1 (by omega)
    simp [Tryz.ntmps45, c1, c2]
    refine ⟨by kernel_rfl, vcRet_of [] ?_ rfl⟩
    simp [hb]
  by_cases c3 : s.max < 1
  case pos =>
    have hb := form_no fun g : Form s => absurd g.n.m0 (by omega)
    simp [Tryz.ntmps45, c1, c2, c3]
    refine ⟨by kernel_rfl, vcRet_of [] ?_ rfl⟩
    simp [hb]
  by_cases c4 : 64 < s.max
  case pos =>
    have hb := form_no fun g : Form s => absurd g.n.m1 (by omega)
    simp [Tryz.ntmps45, c1, c2, c3, c4]
    refine ⟨by kernel_rfl, vcRet_of [] ?_ rfl⟩
    simp [hb]
  simp [Tryz.ntmps45, c1, c2, c3, c4]
  refine effCall (refTime_m s.now) ?_
  cases c5 : timeOk s.now
  · have hb := form_no fun g : Form s => by rw [g.n.now] at c5; cases c5
    simp
    refine ⟨by kernel_rfl, vcRet_of [] ?_ rfl⟩
    simp [hb]
  by_cases c6 : s.idle.most = s.max
  case neg =>
    have hb := form_no fun g : Form s => c6 g.n.most
    simp [c6]
    refine ⟨by kernel_rfl, vcRet_of [] ?_ rfl⟩
    simp [hb]
  simp [c6]
  have hic := Id.refCheck_m s.idle (by omega)
  simp [c6] at hic
  refine effCall hic ?_
  by_cases c7 : Id.chk s.idle = 0
  case neg =>
    have hb := form_no fun g : Form s => c7 g.n.idle
    simp [c7]
    refine ⟨by kernel_rfl, vcRet_of [] ?_ rfl⟩
    simp [hb]
  simp [c7]
  refine effCall (Wa.refCheck_m s.wt (by omega)) ?_
  by_cases c8 : Wa.chk s.wt = 0
  case neg =>
    have hb := form_no fun g : Form s => c8 g.n.wt
    simp [c8]
    refine ⟨by kernel_rfl, vcRet_of [] ?_ rfl⟩
    simp [hb]
  simp [c8]
  have hmm := many_m s hh
  simp [c6] at hmm
  refine effCall hmm ?_
  by_cases c9 : s.max < (s.idle.cs.length : Int) + s.ls.length + s.ds.length
  case pos =>
    have hb := form_no fun g : Form s => absurd g.n.many (by omega)
    simp [c9]
    refine ⟨by kernel_rfl, vcRet_of [] ?_ rfl⟩
    simp [hb]
  have hN : Nums s := ⟨by omega, by omega, by omega, by omega, c5, c6, c7, c8, by omega⟩
  have hnow := timeOk_iff.1 c5
  simp [c9]
  refine ⟨by kernel_rfl, ?_⟩
  refine vc_loop (fun n σ => ∃ k : Nat, n = s.ls.length - k ∧ k ≤ s.ls.length ∧ ((∀ x ∈ s.ls.take k, lsOk s.now x) ∧ Up ((s.ls.take k).map Ls.call)) ∧ σ = ⟨213, [(3, .i k), (1, .ptr 1 0), (2, .b false)], [(1, .box 31 s.cells)]⟩) ?_ ?_
  · exact ⟨_, _, ⟨0, rfl, Nat.zero_le _, by simp [Up], rfl⟩, [], _, rfl, by simp [c6]⟩
  rintro n σ ⟨k, rfl, hk, ⟨i1, i2⟩, rfl⟩
  by_cases hlt : k < s.ls.length
  · obtain ⟨x, hx, e⟩ := at_lt hlt
    have hxm := List.mem_of_getElem? hx
    have wk := wrap_succ hlt (by omega)
    simp [hlt, e, -vc_drawn]
    simp
    refine effCall (refNumber_m x.call) ?_
    cases a1 : numOk x.call
    · have hb := form_no fun g : Form s => by rw [(g.ls x hxm).1] at a1; cases a1
      simp
      refine ⟨by kernel_rfl, vcRet_of [] ?_ rfl⟩
      simp [hb]
    simp
    refine effCall (refNumber_m x.conn) ?_
    cases a2 : numOk x.conn
    · have hb := form_no fun g : Form s => by rw [(g.ls x hxm).2.1] at a2; cases a2
      simp
      refine ⟨by kernel_rfl, vcRet_of [] ?_ rfl⟩
      simp [hb]
    by_cases a3 : x.born < 0
    case pos =>
      have hb := form_no fun g : Form s => absurd (g.ls x hxm).2.2.1 (by omega)
      simp [a3]
      refine ⟨by kernel_rfl, vcRet_of [] ?_ rfl⟩
      simp [hb]
    by_cases a4 : s.now < x.born
    case pos =>
      have hb := form_no fun g : Form s => absurd (g.ls x hxm).2.2.2 (by omega)
      simp [a3, a4]
      refine ⟨by kernel_rfl, vcRet_of [] ?_ rfl⟩
      simp [hb]
    have i1' : ∀ y ∈ s.ls.take (k + 1), lsOk s.now y := fun y hy => by
      rw [take_succ hx] at hy
      rcases List.mem_append.1 hy with hy | hy
      · exact i1 y hy
      · rw [List.mem_singleton.1 hy]; exact ⟨a1, a2, by omega, by omega⟩
    cases k with
    | zero =>
      simp at wk
      simp [a3, a4, wk]
      refine ⟨by kernel_rfl, _, ?_, _, ⟨1, rfl, hlt, ⟨i1', by rw [← List.map_take]; exact up_step0 hx⟩, rfl⟩, [], _, rfl, by simp [c6]⟩
      omega
    | succ j =>
      have hjl : j < s.ls.length := by omega
      obtain ⟨y, hy, e'⟩ := at_lt hjl
      have wj : IntKind.i64.wrap (j : Int) = (j : Int) := IntWalk.i64_in _ (by omega)
      have hj0 : (0 : Int) < (j : Int) + 1 := by omega
      simp at wk
      by_cases a5 : x.call ≤ y.call
      case neg =>
        simp [a3, a4, hj0, wj, hjl, e', a5, wk]
        refine ⟨by kernel_rfl, _, ?_, _, ⟨j + 1 + 1, rfl, hlt, ⟨i1', by rw [← List.map_take]; exact (up_step hx hy i2).2 (by omega)⟩, rfl⟩, [], _, rfl, by simp [c6]⟩
        omega
      · have hb := form_no fun g : Form s => absurd (up_le hx hy g.lu) (by omega)
        simp [a3, a4, hj0, wj, hjl, e', a5]
        refine ⟨by kernel_rfl, vcRet_of [] ?_ rfl⟩
        simp [hb]
  obtain rfl : k = s.ls.length := by omega
  rw [List.take_length] at i1 i2
  simp
  refine vc_loop (fun n σ => ∃ k : Nat, n = s.ds.length - k ∧ k ≤ s.ds.length ∧ ((∀ x ∈ s.ds.take k, numOk x.call = true) ∧ Up ((s.ds.take k).map Dl.call)) ∧ σ = ⟨213, [(5, .i k), (1, .ptr 1 0), (2, .b false)], [(1, .box 31 s.cells)]⟩) ?_ ?_
  · exact ⟨_, _, ⟨0, rfl, Nat.zero_le _, by simp [Up], rfl⟩, [], _, rfl, by simp [c6]⟩
  rintro n σ ⟨k, rfl, hk, ⟨j1, j2⟩, rfl⟩
  by_cases hlt : k < s.ds.length
  · obtain ⟨x, hx, e⟩ := at_lt hlt
    have hxm := List.mem_of_getElem? hx
    have wk := wrap_succ hlt (by omega)
    simp [hlt, e]
    refine effCall (refNumber_m x.call) ?_
    cases a1 : numOk x.call
    · have hb := form_no fun g : Form s => by rw [g.ds x hxm] at a1; cases a1
      simp
      refine ⟨by kernel_rfl, vcRet_of [] ?_ rfl⟩
      simp [hb]
    have i1' : ∀ y ∈ s.ds.take (k + 1), numOk y.call = true := fun y hy => by
      rw [take_succ hx] at hy
      rcases List.mem_append.1 hy with hy | hy
      · exact j1 y hy
      · rw [List.mem_singleton.1 hy]; exact a1
    cases k with
    | zero =>
      simp at wk
      simp [wk]
      refine ⟨by kernel_rfl, _, ?_, _, ⟨1, rfl, hlt, ⟨i1', by rw [← List.map_take]; exact up_step0 hx⟩, rfl⟩, [], _, rfl, by simp [c6]⟩
      omega
    | succ j =>
      have hjl : j < s.ds.length := by omega
      obtain ⟨y, hy, e'⟩ := at_lt hjl
      have wj : IntKind.i64.wrap (j : Int) = (j : Int) := IntWalk.i64_in _ (by omega)
      have hj0 : (0 : Int) < (j : Int) + 1 := by omega
      have hlt' : (j : Int) + 1 < (s.ds.length : Int) := by omega
      have hj1 : (0 : Int) ≤ (j : Int) + 1 := by omega
      have tj : ((j : Int) + 1).toNat = j + 1 := by omega
      simp at wk
      by_cases a5 : x.call ≤ y.call
      case neg =>
        simp [hj0, wj, hjl, hlt', hj1, tj, hlt, e, e', a5, wk]
        refine ⟨by kernel_rfl, _, ?_, _, ⟨j + 1 + 1, rfl, hlt, ⟨i1', by rw [← List.map_take]; exact (up_step hx hy j2).2 (by omega)⟩, rfl⟩, [], _, rfl, by simp [c6]⟩
        omega
      · have hb := form_no fun g : Form s => absurd (up_le hx hy g.du) (by omega)
        simp [hj0, wj, hjl, hlt', hj1, tj, hlt, e, e', a5]
        refine ⟨by kernel_rfl, vcRet_of [] ?_ rfl⟩
        simp [hb]
  obtain rfl : k = s.ds.length := by omega
  rw [List.take_length] at j1 j2
  simp
  refine vc_loop (fun n σ => ∃ k : Nat, n = s.idle.cs.length - k ∧ k ≤ s.idle.cs.length ∧ (∀ x ∈ s.idle.cs.take k, idOk s.idle.idle s.idle.age s.now x) ∧ σ = ⟨213, [(6, .i k), (1, .ptr 1 0), (2, .b false)], [(1, .box 31 s.cells)]⟩) ?_ ?_
  · exact ⟨_, _, ⟨0, rfl, Nat.zero_le _, by simp, rfl⟩, [], _, rfl, by simp [c6]⟩
  rintro n σ ⟨k, rfl, hk, k1, rfl⟩
  by_cases hlt : k < s.idle.cs.length
  · obtain ⟨x, hx, e⟩ := at_lt hlt
    have hxm := List.mem_of_getElem? hx
    have hxc := Id.chk_mem c7 hxm
    have v1 := small_wrap (a := s.now - x.since) (by omega)
    have v2 := small_wrap (a := s.now - x.born) (by omega)
    have wk := wrap_succ hlt (by omega)
    by_cases a1 : s.now < x.since
    case pos =>
      have hb := form_no fun g : Form s => absurd (g.id x hxm).1 (by omega)
      simp [hlt, e, a1]
      refine vcRet_of [] ?_ rfl
      simp [hb]
    by_cases a2 : s.idle.idle ≤ s.now - x.since
    case pos =>
      have hb := form_no fun g : Form s => absurd (g.id x hxm).2.1 (by omega)
      simp [hlt, e, v1, a1, a2]
      refine vcRet_of [] ?_ rfl
      simp [hb]
    by_cases a3 : s.idle.age ≤ s.now - x.born
    case pos =>
      have hb := form_no fun g : Form s => absurd (g.id x hxm).2.2 (by omega)
      simp [hlt, e, v1, v2, a1, a2, a3]
      refine vcRet_of [] ?_ rfl
      simp [hb]
    simp [hlt, e, v1, v2, a1, a2, a3, wk]
    refine ⟨_, ?_, _, ⟨k + 1, rfl, hlt, fun y hy => ?_, rfl⟩, [], _, rfl, by simp [c6]⟩
    · omega
    · rw [take_succ hx] at hy
      rcases List.mem_append.1 hy with hy | hy
      · exact k1 y hy
      · rw [List.mem_singleton.1 hy]; exact ⟨by omega, by omega, by omega⟩
  obtain rfl : k = s.idle.cs.length := by omega
  rw [List.take_length] at k1
  simp
  refine vc_loop (fun n σ => ∃ k : Nat, n = s.wt.ws.length - k ∧ k ≤ s.wt.ws.length ∧ (∀ x ∈ s.wt.ws.take k, wtOk s.now x) ∧ σ = ⟨213, [(8, .i k), (1, .ptr 1 0), (2, .b false)], [(1, .box 31 s.cells)]⟩) ?_ ?_
  · exact ⟨_, _, ⟨0, rfl, Nat.zero_le _, by simp, rfl⟩, [], _, rfl, by simp [c6]⟩
  rintro n σ ⟨k, rfl, hk, w1, rfl⟩
  by_cases hlt : k < s.wt.ws.length
  · obtain ⟨x, hx, e⟩ := at_lt hlt
    have hxm := List.mem_of_getElem? hx
    have wk := wrap_succ hlt (by omega)
    by_cases a1 : s.now < x.since
    case pos =>
      have hb := form_no fun g : Form s => absurd (g.wt x hxm).1 (by omega)
      simp [hlt, e, a1]
      refine vcRet_of [] ?_ rfl
      simp [hb]
    by_cases a2 : x.dead ≤ s.now
    case pos =>
      have hb := form_no fun g : Form s => absurd (g.wt x hxm).2 (by omega)
      simp [hlt, e, a1, a2]
      refine vcRet_of [] ?_ rfl
      simp [hb]
    simp [hlt, e, a1, a2, wk]
    refine ⟨_, ?_, _, ⟨k + 1, rfl, hlt, fun y hy => ?_, rfl⟩, [], _, rfl, by simp [c6]⟩
    · omega
    · rw [take_succ hx] at hy
      rcases List.mem_append.1 hy with hy | hy
      · exact w1 y hy
      · rw [List.mem_singleton.1 hy]; exact ⟨by omega, by omega⟩
  obtain rfl : k = s.wt.ws.length := by omega
  rw [List.take_length] at w1
  simp
  refine vcRet_of [] ?_ rfl
  have hF : Form s := ⟨hN, i1, i2, j1, j2, k1, w1⟩
  simp [hF]
end Go.Proofs.YtajjmhpdiikjhaaGreat.Po
namespace Go.Proofs.YtajjmhpdiikjhaaGreat.Po
set_option maxRecDepth 100000
open Go.RowKit

theorem Held.eraseL {s : Po} (h : Held s) (i : Nat) : Held { s with ls := s.ls.eraseIdx i } := ⟨h.i, by
  have := h.l
  have h2 : (s.ls.eraseIdx i).length ≤ s.ls.length := List.length_eraseIdx_le _ _
  show (s.ls.eraseIdx i).length < _; omega, h.d, h.w⟩
theorem Held.noD {s : Po} (h : Held s) : Held { s with ds := [] } := ⟨h.i, h.l, by show ([] : List Dl).length < _; simp, h.w⟩
theorem map_erase {α β : Type} (f : α → β) (l : List α) (i : Nat) : (l.eraseIdx i).map f = (l.map f).take i ++ (l.map f).drop (i + 1) := by
  rw [List.eraseIdx_eq_take_drop_succ, List.map_append, List.map_take, List.map_drop]
set_option maxHeartbeats 8000000 in
theorem refCheck_m (s : Po) (hh : Held s) : Meets Tryz.prog 17 [s.pv] [] (Ret (.i (chk s))) := by
  have hl1 := hh.l
  have hl2 := hh.d
  refine meetsH [(64, [(false, 5)])] tbOk mixed Tryz.func17 pl17 rfl rfl ?_
  simp [Tryz.ntmps17]
  have hn := numbers_m s hh
  simp at hn
  refine hn.mono ?_
  rintro _ rfl
  by_cases hf : Form s
  case neg =>
    have h6 : chk s = 6 := chk_bad fun g => hf g.f
    simp [hf]
    refine vcRet_of [] ?_ rfl
    simp [h6]
  have wl : IntKind.i64.wrap ((s.ls.length : Int) + s.ds.length) = (s.ls.length : Int) + s.ds.length := IntWalk.i64_in _ (by omega)
  have wm : IntKind.i64.wrap s.max = s.max := small_wrap (by have := hf.n.m0; have := hf.n.m1; omega)
  have hrf := ref_fine hf
  have h6 : endB s = false → chk s = 6 := fun h => chk_bad fun g => by rw [(hrf.2 g).1] at h; cases h
  by_cases d1 : 0 < s.wt.ws.length
  · by_cases d2 : (s.ls.length : Int) + s.ds.length = s.max
    · cases d3 : s.shut
      · have he : endB s = true := by simp [endB, d2, d3]
        simp [hf, d1, wm, d2]
        refine vc_loop (fun n σ => ∃ k : Nat, n = s.ls.length - k ∧ k ≤ s.ls.length ∧ (∀ i x, i < k → s.ls[i]? = some x → alone s i x) ∧ σ = ⟨101, [(4, .i k), (1, .ptr 1 0), (2, .i 0)], [(1, .box 31 s.cells)]⟩) ?_ ?_
        · exact ⟨_, _, ⟨0, rfl, Nat.zero_le _, fun i x hi => absurd hi (by omega), rfl⟩, [], _, rfl, by simp [d3]⟩
        rintro n σ ⟨k, rfl, hk, i1, rfl⟩
        by_cases hlt : k < s.ls.length
        · obtain ⟨x, hx, e⟩ := at_lt hlt
          have wk := wrap_succ hlt (by omega)
          have hk1 : k + 1 ≤ s.ls.length := hlt
          have hk2 : (k : Int) + 1 ≤ s.ls.length := by omega
          have ew := where_m { s with ls := s.ls.eraseIdx k } (hh.eraseL k) x.call
          have et := there_m { s with ls := s.ls.eraseIdx k } (hh.eraseL k) x.conn
          have bad1 : role { s with ls := s.ls.eraseIdx k } x.call ≠ 0 → chk s = 6 := fun h => chk_bad fun g => h ((hrf.2 g).2.1 k x hx).1
          have bad2 : there { s with ls := s.ls.eraseIdx k } x.conn = true → chk s = 6 := fun h => chk_bad fun g => by rw [((hrf.2 g).2.1 k x hx).2] at h; cases h
          have good1 : role { s with ls := s.ls.eraseIdx k } x.call = 0 → there { s with ls := s.ls.eraseIdx k } x.conn = false → alone s k x := fun h1 h2 => ⟨h1, h2⟩
          generalize role { s with ls := s.ls.eraseIdx k } x.call = r at ew bad1 good1
          generalize there { s with ls := s.ls.eraseIdx k } x.conn = b at et bad2 good1
          simp [d3, map_erase] at ew et
          have tk : List.take (k + (s.ls.length - (k + 1))) (List.take k (List.map Ls.dd s.ls) ++ List.drop (k + 1) (List.map Ls.dd s.ls)) = List.take k (List.map Ls.dd s.ls) ++ List.drop (k + 1) (List.map Ls.dd s.ls) := List.take_of_length_le (by simp; omega)
          simp [hlt, d3, -vc_drawn]
          simp [wk, Nat.le_of_lt hlt, hk2, -vc_seq]
          refine ⟨by omega, by omega, by omega, by kernel_rfl, ?_⟩
          have tl : List.take s.ls.length (List.map Ls.dd s.ls) = List.map Ls.dd s.ls := List.take_of_length_le (by simp)
          simp [hlt, e, Nat.le_of_lt hlt, tk, tl]
          refine effCall ew ?_
          by_cases hr : r = 0
          case neg =>
            simp [hr]
            refine ⟨by kernel_rfl, vcRet_of [] ?_ rfl⟩
            simp [bad1 hr]
          simp [hr, hlt, e]
          refine effCall et ?_
          cases hb : b
          · simp
            refine ⟨by kernel_rfl, _, ?_, _, ⟨k + 1, rfl, hlt, fun i y hi hy => ?_, rfl⟩, [], _, rfl, by simp [wk]⟩
            · omega
            · by_cases hik : i = k
              · subst hik
                rw [hx] at hy; cases hy
                exact good1 hr hb
              · exact i1 i y (by omega) hy
          · simp
            refine ⟨by kernel_rfl, vcRet_of [] ?_ rfl⟩
            simp [bad2 hb]
        obtain rfl : k = s.ls.length := by omega
        have i1' : ∀ i x, s.ls[i]? = some x → alone s i x := fun i x hx => i1 i x (lt_some hx) hx
        simp
        refine vc_loop (fun n σ => ∃ k : Nat, n = s.ds.length - k ∧ k ≤ s.ds.length ∧ (∀ i x, i < k → s.ds[i]? = some x → role { s with ds := [] } x.call = 0) ∧ σ = ⟨101, [(6, .i k), (1, .ptr 1 0), (2, .i 0)], [(1, .box 31 s.cells)]⟩) ?_ ?_
        · exact ⟨_, _, ⟨0, rfl, Nat.zero_le _, fun i x hi => absurd hi (by omega), rfl⟩, [], _, rfl, by simp [d3]⟩
        rintro n σ ⟨k, rfl, hk, j1, rfl⟩
        by_cases hlt : k < s.ds.length
        · obtain ⟨x, hx, e⟩ := at_lt hlt
          have wk := wrap_succ hlt (by omega)
          have ew := where_m { s with ds := [] } hh.noD x.call
          have bad1 : role { s with ds := [] } x.call ≠ 0 → chk s = 6 := fun h => chk_bad fun g => h ((hrf.2 g).2.2 x (List.mem_of_getElem? hx))
          have good1 : ∀ q, role { s with ds := [] } x.call = q → q = 0 → role { s with ds := [] } x.call = 0 := fun q h h2 => h.trans h2
          generalize hq : role { s with ds := [] } x.call = r at ew bad1
          simp [d3] at ew
          simp [hlt, e, d3]
          refine effCall (ew.le (by simp)) ?_
          by_cases hr : r = 0
          case neg =>
            simp [hr]
            refine ⟨by kernel_rfl, vcRet_of [] ?_ rfl⟩
            simp [bad1 hr]
          simp [hr, wk]
          refine ⟨by kernel_rfl, _, ?_, _, ⟨k + 1, rfl, hlt, fun i y hi hy => ?_, rfl⟩, [], _, rfl, by simp⟩
          · omega
          · by_cases hik : i = k
            · subst hik
              rw [hx] at hy; cases hy
              exact good1 _ hq hr
            · exact j1 i y (by omega) hy
        obtain rfl : k = s.ds.length := by omega
        have hF : Fine s := hrf.1 ⟨he, i1', fun x hx => by
          obtain ⟨i, hi⟩ := List.getElem?_of_mem hx
          exact j1 i x (lt_some hi) hi⟩
        have h0 : chk s = 0 := if_pos hF
        simp
        refine vcRet_of [] ?_ rfl
        simp [h0]
      · simp [hf, d1, wm, d2]
        refine vcRet_of [] ?_ rfl
        simp [h6 (by simp [endB, d1, d3])]
    · simp [hf, d1, wl, d2]
      refine vcRet_of [] ?_ rfl
      simp [h6 (by simp [endB, d1, d2])]
  · cases d3 : s.shut
    · have he : endB s = true := by simp [endB, d1, d3]
      simp [hf, d1]
      refine vc_loop (fun n σ => ∃ k : Nat, n = s.ls.length - k ∧ k ≤ s.ls.length ∧ (∀ i x, i < k → s.ls[i]? = some x → alone s i x) ∧ σ = ⟨101, [(4, .i k), (1, .ptr 1 0), (2, .i 0)], [(1, .box 31 s.cells)]⟩) ?_ ?_
      · exact ⟨_, _, ⟨0, rfl, Nat.zero_le _, fun i x hi => absurd hi (by omega), rfl⟩, [], _, rfl, by simp [d3]⟩
      rintro n σ ⟨k, rfl, hk, i1, rfl⟩
      by_cases hlt : k < s.ls.length
      · obtain ⟨x, hx, e⟩ := at_lt hlt
        have wk := wrap_succ hlt (by omega)
        have hk1 : k + 1 ≤ s.ls.length := hlt
        have hk2 : (k : Int) + 1 ≤ s.ls.length := by omega
        have ew := where_m { s with ls := s.ls.eraseIdx k } (hh.eraseL k) x.call
        have et := there_m { s with ls := s.ls.eraseIdx k } (hh.eraseL k) x.conn
        have bad1 : role { s with ls := s.ls.eraseIdx k } x.call ≠ 0 → chk s = 6 := fun h => chk_bad fun g => h ((hrf.2 g).2.1 k x hx).1
        have bad2 : there { s with ls := s.ls.eraseIdx k } x.conn = true → chk s = 6 := fun h => chk_bad fun g => by rw [((hrf.2 g).2.1 k x hx).2] at h; cases h
        have good1 : role { s with ls := s.ls.eraseIdx k } x.call = 0 → there { s with ls := s.ls.eraseIdx k } x.conn = false → alone s k x := fun h1 h2 => ⟨h1, h2⟩
        generalize role { s with ls := s.ls.eraseIdx k } x.call = r at ew bad1 good1
        generalize there { s with ls := s.ls.eraseIdx k } x.conn = b at et bad2 good1
        simp [d3, map_erase] at ew et
        have tk : List.take (k + (s.ls.length - (k + 1))) (List.take k (List.map Ls.dd s.ls) ++ List.drop (k + 1) (List.map Ls.dd s.ls)) = List.take k (List.map Ls.dd s.ls) ++ List.drop (k + 1) (List.map Ls.dd s.ls) := List.take_of_length_le (by simp; omega)
        simp [hlt, d3, -vc_drawn]
        simp [wk, Nat.le_of_lt hlt, hk2, -vc_seq]
        refine ⟨by omega, by omega, by omega, by kernel_rfl, ?_⟩
        have tl : List.take s.ls.length (List.map Ls.dd s.ls) = List.map Ls.dd s.ls := List.take_of_length_le (by simp)
        simp [hlt, e, Nat.le_of_lt hlt, tk, tl]
        refine effCall ew ?_
        by_cases hr : r = 0
        case neg =>
          simp [hr]
          refine ⟨by kernel_rfl, vcRet_of [] ?_ rfl⟩
          simp [bad1 hr]
        simp [hr, hlt, e]
        refine effCall et ?_
        cases hb : b
        · simp
          refine ⟨by kernel_rfl, _, ?_, _, ⟨k + 1, rfl, hlt, fun i y hi hy => ?_, rfl⟩, [], _, rfl, by simp [wk]⟩
          · omega
          · by_cases hik : i = k
            · subst hik
              rw [hx] at hy; cases hy
              exact good1 hr hb
            · exact i1 i y (by omega) hy
        · simp
          refine ⟨by kernel_rfl, vcRet_of [] ?_ rfl⟩
          simp [bad2 hb]
      obtain rfl : k = s.ls.length := by omega
      have i1' : ∀ i x, s.ls[i]? = some x → alone s i x := fun i x hx => i1 i x (lt_some hx) hx
      simp
      refine vc_loop (fun n σ => ∃ k : Nat, n = s.ds.length - k ∧ k ≤ s.ds.length ∧ (∀ i x, i < k → s.ds[i]? = some x → role { s with ds := [] } x.call = 0) ∧ σ = ⟨101, [(6, .i k), (1, .ptr 1 0), (2, .i 0)], [(1, .box 31 s.cells)]⟩) ?_ ?_
      · exact ⟨_, _, ⟨0, rfl, Nat.zero_le _, fun i x hi => absurd hi (by omega), rfl⟩, [], _, rfl, by simp [d3]⟩
      rintro n σ ⟨k, rfl, hk, j1, rfl⟩
      by_cases hlt : k < s.ds.length
      · obtain ⟨x, hx, e⟩ := at_lt hlt
        have wk := wrap_succ hlt (by omega)
        have ew := where_m { s with ds := [] } hh.noD x.call
        have bad1 : role { s with ds := [] } x.call ≠ 0 → chk s = 6 := fun h => chk_bad fun g => h ((hrf.2 g).2.2 x (List.mem_of_getElem? hx))
        have good1 : ∀ q, role { s with ds := [] } x.call = q → q = 0 → role { s with ds := [] } x.call = 0 := fun q h h2 => h.trans h2
        generalize hq : role { s with ds := [] } x.call = r at ew bad1
        simp [d3] at ew
        simp [hlt, e, d3]
        refine effCall (ew.le (by simp)) ?_
        by_cases hr : r = 0
        case neg =>
          simp [hr]
          refine ⟨by kernel_rfl, vcRet_of [] ?_ rfl⟩
          simp [bad1 hr]
        simp [hr, wk]
        refine ⟨by kernel_rfl, _, ?_, _, ⟨k + 1, rfl, hlt, fun i y hi hy => ?_, rfl⟩, [], _, rfl, by simp⟩
        · omega
        · by_cases hik : i = k
          · subst hik
            rw [hx] at hy; cases hy
            exact good1 _ hq hr
          · exact j1 i y (by omega) hy
      obtain rfl : k = s.ds.length := by omega
      have hF : Fine s := hrf.1 ⟨he, i1', fun x hx => by
        obtain ⟨i, hi⟩ := List.getElem?_of_mem hx
        exact j1 i x (lt_some hi) hi⟩
      have h0 : chk s = 0 := if_pos hF
      simp
      refine vcRet_of [] ?_ rfl
      simp [h0]
    · by_cases d4 : 0 < s.idle.cs.length
      · simp [hf, d1, d4]
        refine vcRet_of [] ?_ rfl
        simp [h6 (by simp [endB, d3, d4])]
      · have he : endB s = true := by simp [endB, d1, d4]
        simp [hf, d1, d4]
        refine vc_loop (fun n σ => ∃ k : Nat, n = s.ls.length - k ∧ k ≤ s.ls.length ∧ (∀ i x, i < k → s.ls[i]? = some x → alone s i x) ∧ σ = ⟨101, [(4, .i k), (1, .ptr 1 0), (2, .i 0)], [(1, .box 31 s.cells)]⟩) ?_ ?_
        · exact ⟨_, _, ⟨0, rfl, Nat.zero_le _, fun i x hi => absurd hi (by omega), rfl⟩, [], _, rfl, by simp [d3]⟩
        rintro n σ ⟨k, rfl, hk, i1, rfl⟩
        by_cases hlt : k < s.ls.length
        · obtain ⟨x, hx, e⟩ := at_lt hlt
          have wk := wrap_succ hlt (by omega)
          have hk1 : k + 1 ≤ s.ls.length := hlt
          have hk2 : (k : Int) + 1 ≤ s.ls.length := by omega
          have ew := where_m { s with ls := s.ls.eraseIdx k } (hh.eraseL k) x.call
          have et := there_m { s with ls := s.ls.eraseIdx k } (hh.eraseL k) x.conn
          have bad1 : role { s with ls := s.ls.eraseIdx k } x.call ≠ 0 → chk s = 6 := fun h => chk_bad fun g => h ((hrf.2 g).2.1 k x hx).1
          have bad2 : there { s with ls := s.ls.eraseIdx k } x.conn = true → chk s = 6 := fun h => chk_bad fun g => by rw [((hrf.2 g).2.1 k x hx).2] at h; cases h
          have good1 : role { s with ls := s.ls.eraseIdx k } x.call = 0 → there { s with ls := s.ls.eraseIdx k } x.conn = false → alone s k x := fun h1 h2 => ⟨h1, h2⟩
          generalize role { s with ls := s.ls.eraseIdx k } x.call = r at ew bad1 good1
          generalize there { s with ls := s.ls.eraseIdx k } x.conn = b at et bad2 good1
          simp [d3, map_erase] at ew et
          have tk : List.take (k + (s.ls.length - (k + 1))) (List.take k (List.map Ls.dd s.ls) ++ List.drop (k + 1) (List.map Ls.dd s.ls)) = List.take k (List.map Ls.dd s.ls) ++ List.drop (k + 1) (List.map Ls.dd s.ls) := List.take_of_length_le (by simp; omega)
          simp [hlt, d3, -vc_drawn]
          simp [wk, Nat.le_of_lt hlt, hk2, -vc_seq]
          refine ⟨by omega, by omega, by omega, by kernel_rfl, ?_⟩
          have tl : List.take s.ls.length (List.map Ls.dd s.ls) = List.map Ls.dd s.ls := List.take_of_length_le (by simp)
          simp [hlt, e, Nat.le_of_lt hlt, tk, tl]
          refine effCall ew ?_
          by_cases hr : r = 0
          case neg =>
            simp [hr]
            refine ⟨by kernel_rfl, vcRet_of [] ?_ rfl⟩
            simp [bad1 hr]
          simp [hr, hlt, e]
          refine effCall et ?_
          cases hb : b
          · simp
            refine ⟨by kernel_rfl, _, ?_, _, ⟨k + 1, rfl, hlt, fun i y hi hy => ?_, rfl⟩, [], _, rfl, by simp [wk]⟩
            · omega
            · by_cases hik : i = k
              · subst hik
                rw [hx] at hy; cases hy
                exact good1 hr hb
              · exact i1 i y (by omega) hy
          · simp
            refine ⟨by kernel_rfl, vcRet_of [] ?_ rfl⟩
            simp [bad2 hb]
        obtain rfl : k = s.ls.length := by omega
        have i1' : ∀ i x, s.ls[i]? = some x → alone s i x := fun i x hx => i1 i x (lt_some hx) hx
        simp
        refine vc_loop (fun n σ => ∃ k : Nat, n = s.ds.length - k ∧ k ≤ s.ds.length ∧ (∀ i x, i < k → s.ds[i]? = some x → role { s with ds := [] } x.call = 0) ∧ σ = ⟨101, [(6, .i k), (1, .ptr 1 0), (2, .i 0)], [(1, .box 31 s.cells)]⟩) ?_ ?_
        · exact ⟨_, _, ⟨0, rfl, Nat.zero_le _, fun i x hi => absurd hi (by omega), rfl⟩, [], _, rfl, by simp [d3]⟩
        rintro n σ ⟨k, rfl, hk, j1, rfl⟩
        by_cases hlt : k < s.ds.length
        · obtain ⟨x, hx, e⟩ := at_lt hlt
          have wk := wrap_succ hlt (by omega)
          have ew := where_m { s with ds := [] } hh.noD x.call
          have bad1 : role { s with ds := [] } x.call ≠ 0 → chk s = 6 := fun h => chk_bad fun g => h ((hrf.2 g).2.2 x (List.mem_of_getElem? hx))
          have good1 : ∀ q, role { s with ds := [] } x.call = q → q = 0 → role { s with ds := [] } x.call = 0 := fun q h h2 => h.trans h2
          generalize hq : role { s with ds := [] } x.call = r at ew bad1
          simp [d3] at ew
          simp [hlt, e, d3]
          refine effCall (ew.le (by simp)) ?_
          by_cases hr : r = 0
          case neg =>
            simp [hr]
            refine ⟨by kernel_rfl, vcRet_of [] ?_ rfl⟩
            simp [bad1 hr]
          simp [hr, wk]
          refine ⟨by kernel_rfl, _, ?_, _, ⟨k + 1, rfl, hlt, fun i y hi hy => ?_, rfl⟩, [], _, rfl, by simp⟩
          · omega
          · by_cases hik : i = k
            · subst hik
              rw [hx] at hy; cases hy
              exact good1 _ hq hr
            · exact j1 i y (by omega) hy
        obtain rfl : k = s.ds.length := by omega
        have hF : Fine s := hrf.1 ⟨he, i1', fun x hx => by
          obtain ⟨i, hi⟩ := List.getElem?_of_mem hx
          exact j1 i x (lt_some hi) hi⟩
        have h0 : chk s = 0 := if_pos hF
        simp
        refine vcRet_of [] ?_ rfl
        simp [h0]
end Go.Proofs.YtajjmhpdiikjhaaGreat.Po
