/- The reference: ticks, places. No condition. -/
import Derived.Test.YtajjmhpdiikjhaaGreatN9
import Derived.Test.YtajjmhpdiikjhaaGreatN10
namespace Go.Proofs.YtajjmhpdiikjhaaGreat.Po
set_option maxRecDepth 100000
open Go.RowKit

theorem refWhere_m (s : Po) (hh : Held s) (c : Int) : Meets Tryz.prog 34 [s.pv, .i c] [] (Ret (.tup [.i (where_ s c).1, .i (where_ s c).2])) := by
  refine meetsH [] tbOk mixed Tryz.func34 pl34 rfl rfl ?_
  simp [Tryz.ntmps34]
  have hk := refCheck_m s hh
  simp at hk
  refine hk.mono ?_
  rintro _ rfl
  by_cases hf : Fine s
  case neg =>
    simp [chk_bad hf]
    refine vcRet_of [] ?_ rfl
    simp [where_, hf]
  have h0 : chk s = 0 := if_pos hf
  simp [h0]
  refine (refNumber_m c).mono ?_
  rintro _ rfl
  cases hc : numOk c
  · simp
    refine vcRet_of [] ?_ rfl
    simp [where_, hf, hc]
  simp
  have hw := where_m s hh c
  simp at hw
  refine hw.mono ?_
  rintro _ rfl
  by_cases hr : role s c = 0
  · simp [hr]
    refine vcRet_of [] ?_ rfl
    simp [where_, hf, hc, hr]
  · simp [hr]
    refine vcRet_of [] ?_ rfl
    simp [where_, hf, hc, hr]
/-- What is late of the first k, and what stays. -/
def ltW (s : Po) (n : Int) (k : Nat) : List Ef := ((s.wt.ws.take k).filter fun x => !decide (n < x.dead)).map fun w => ef s 5 w.call 0
def stW (s : Po) (n : Int) (k : Nat) : List Wa.Wt := (s.wt.ws.take k).filter fun x => decide (n < x.dead)
def ltC (s : Po) (es : List Ef) (n : Int) (k : Nat) : List Ef := es ++ ((s.idle.cs.take k).filter fun x => !Id.good s.idle.idle s.idle.age n x).map fun x => ef s 11 0 x.conn
def stC (s : Po) (n : Int) (k : Nat) : List Id.Cn := (s.idle.cs.take k).filter (Id.good s.idle.idle s.idle.age n)
theorem ltW_len {s : Po} {n : Int} {k : Nat} : (ltW s n k).length ≤ k := by
  unfold ltW
  have h1 := List.length_filter_le (fun x : Wa.Wt => !decide (n < x.dead)) (s.wt.ws.take k)
  rw [List.length_take] at h1
  rw [List.length_map]; omega
theorem stW_len {s : Po} {n : Int} {k : Nat} : (stW s n k).length ≤ k := by
  unfold stW
  have h1 := List.length_filter_le (fun x : Wa.Wt => decide (n < x.dead)) (s.wt.ws.take k)
  rw [List.length_take] at h1
  omega
theorem ltC_len {s : Po} {es : List Ef} {n : Int} {k : Nat} : (ltC s es n k).length ≤ es.length + k := by
  unfold ltC
  have h1 := List.length_filter_le (fun x => !Id.good s.idle.idle s.idle.age n x) (s.idle.cs.take k)
  rw [List.length_take] at h1
  rw [List.length_append, List.length_map]; omega
theorem stC_len {s : Po} {n : Int} {k : Nat} : (stC s n k).length ≤ k := by
  unfold stC
  have h1 := List.length_filter_le (Id.good s.idle.idle s.idle.age n) (s.idle.cs.take k)
  rw [List.length_take] at h1
  omega
theorem lateW {s : Po} {n : Int} {k : Nat} {x : Wa.Wt} (hx : s.wt.ws[k]? = some x) (h : x.dead ≤ n) : ltW s n (k + 1) = ltW s n k ++ [ef s 5 x.call 0] ∧ stW s n (k + 1) = stW s n k := by
  have : ¬ n < x.dead := by omega
  constructor
  · rw [ltW, ltW, take_succ hx, List.filter_append]; simp [this]
  · rw [stW, stW, take_succ hx, List.filter_append]; simp [this]
theorem stayW {s : Po} {n : Int} {k : Nat} {x : Wa.Wt} (hx : s.wt.ws[k]? = some x) (h : ¬ x.dead ≤ n) : ltW s n (k + 1) = ltW s n k ∧ stW s n (k + 1) = stW s n k ++ [x] := by
  have h2 : n < x.dead := by omega
  constructor
  · rw [ltW, ltW, take_succ hx, List.filter_append]; simp [h2]
  · rw [stW, stW, take_succ hx, List.filter_append]; simp [h2]
theorem lateC {s : Po} {es : List Ef} {n : Int} {k : Nat} {x : Id.Cn} (hx : s.idle.cs[k]? = some x) (h : Id.good s.idle.idle s.idle.age n x = false) : ltC s es n (k + 1) = ltC s es n k ++ [ef s 11 0 x.conn] ∧ stC s n (k + 1) = stC s n k := by
  constructor
  · rw [ltC, ltC, take_succ hx, List.filter_append]; simp [h]
  · rw [stC, stC, take_succ hx, List.filter_append]; simp [h]
theorem stayC {s : Po} {es : List Ef} {n : Int} {k : Nat} {x : Id.Cn} (hx : s.idle.cs[k]? = some x) (h : Id.good s.idle.idle s.idle.age n x = true) : ltC s es n (k + 1) = ltC s es n k ∧ stC s n (k + 1) = stC s n k ++ [x] := by
  constructor
  · rw [ltC, ltC, take_succ hx, List.filter_append]; simp [h]
  · rw [stC, stC, take_succ hx, List.filter_append]; simp [h]
set_option maxHeartbeats 16000000 in
theorem refTick_m (s : Po) (hh : Held s) (n : Int) : Meets Tryz.prog 41 [s.pv, .i n] [] (Ret (.tup [(tick s n).1.pv, (tick s n).2.1.pv, .d (el (tick s n).2.2.1), .i (tick s n).2.2.2])) := by
  refine meetsH [(130, [(false, 9)])] tbOk mixed Tryz.func41 pl41 rfl rfl ?_
  simp [Tryz.ntmps41]
  have hk := refCheck_m s hh
  simp at hk
  refine hk.mono ?_
  rintro _ rfl
  by_cases hf : Fine s
  case neg =>
    have h6 : chk s = 6 := chk_bad hf
    have ho : tick s n = bad s 6 := if_neg hf
    simp [h6]
    refine vcRet_of [] ?_ rfl
    simp [ho, bad, Rs.z]
  have h0 : chk s = 0 := if_pos hf
  have ho : tick s n = tickK s n := if_pos hf
  rw [ho]
  clear ho
  simp [h0]
  refine (refTime_m n).mono ?_
  rintro _ rfl
  cases hc : timeOk n
  · simp
    refine vcRet_of [] ?_ rfl
    simp [tickK, hc, bad, Rs.z]
  by_cases hlt : n < s.now
  · simp [hlt]
    refine vcRet_of [] ?_ rfl
    simp [tickK, hc, hlt, bad, Rs.z]
  have hn2 := timeOk_iff.1 hc
  have hwl := hf.f.wlen
  have hil := hf.f.ilen
  simp [hlt]
  refine vc_loop (fun m σ => ∃ k : Nat, m = s.wt.ws.length - k ∧ k ≤ s.wt.ws.length ∧ σ = ⟨134, [(11, .i k), (10, .rw 10 (ltW s n k).length), (2, .ptr 2 0), (4, .ptr 4 0), (5, .ptr 5 0), (9, .ptr 9 0), (1, .i n)],
    [(2, .box 31 s.cells), (4, .box 31 [.i 0, .i 0, .i 0, .b false, .i 0, .i 0, .i 0, PV.nil, PV.nil, PV.nil, .i 0, PV.nil]), (5, .box 36 [.i 0, .i 0, .i 0]), (10, erow (ltW s n k)),
     (9, .box 31 [.i s.back, .i s.max, .i n, .b s.shut, .i s.idle.most, .i s.idle.idle, .i s.idle.age, PV.nil, .d (ll s.ls), .d (dl s.ds), .i s.wt.most, .rw 7 (stW s n k).length]), (7, .row 130 3 ((stW s n k).map Wa.Wt.cs) false)]⟩) ?_ ?_
  · exact ⟨_, _, ⟨0, rfl, Nat.zero_le _, rfl⟩, [.row 10 59 4, .cell 9 11 7 130 3], _, rfl, by simp [ltW, stW]⟩
  rintro m σ ⟨k, rfl, hk, rfl⟩
  have l1 := ltW_len (s := s) (n := n) (k := k)
  have l2 := stW_len (s := s) (n := n) (k := k)
  by_cases hlt2 : k < s.wt.ws.length
  · obtain ⟨x, hx, e⟩ := at_lt hlt2
    have wk := wrap_succ hlt2 (by omega)
    by_cases hd : x.dead ≤ n
    · obtain ⟨e1, e2⟩ := lateW hx hd
      have hef := effect_m s 5 x.call 0
      simp at hef
      simp [hlt2, e, hd]
      refine effCall hef ?_
      simp
      refine ⟨by omega, by kernel_rfl, ?_⟩
      simp [wk]
      refine ⟨_, ?_, _, ⟨k + 1, rfl, hlt2, rfl⟩, [], _, rfl, by simp [e1, e2]⟩
      omega
    · obtain ⟨e1, e2⟩ := stayW hx hd
      simp [hlt2, e, hd]
      refine ⟨by omega, by kernel_rfl, ?_⟩
      simp [wk]
      refine ⟨_, ?_, _, ⟨k + 1, rfl, hlt2, rfl⟩, [], _, rfl, by simp [e1, e2]⟩
      omega
  obtain rfl : k = s.wt.ws.length := by omega
  have e1 : ltW s n s.wt.ws.length = (s.wt.ws.filter fun x => !decide (n < x.dead)).map fun w => ef s 5 w.call 0 := by rw [ltW, List.take_length]
  have e2 : stW s n s.wt.ws.length = s.wt.ws.filter fun x => decide (n < x.dead) := by rw [stW, List.take_length]
  generalize ltW s n s.wt.ws.length = es at e1 l1 ⊢
  generalize stW s n s.wt.ws.length = W at e2 l2 ⊢
  simp
  refine vc_loop (fun m σ => ∃ k : Nat, m = s.idle.cs.length - k ∧ k ≤ s.idle.cs.length ∧ σ = ⟨134, [(12, .i k), (10, .rw 10 (ltC s es n k).length), (2, .ptr 2 0), (4, .ptr 4 0), (5, .ptr 5 0), (9, .ptr 9 0), (1, .i n)],
    [(2, .box 31 s.cells), (4, .box 31 [.i 0, .i 0, .i 0, .b false, .i 0, .i 0, .i 0, PV.nil, PV.nil, PV.nil, .i 0, PV.nil]), (5, .box 36 [.i 0, .i 0, .i 0]), (10, erow (ltC s es n k)),
     (9, .box 31 [.i s.back, .i s.max, .i n, .b s.shut, .i s.idle.most, .i s.idle.idle, .i s.idle.age, .rw 11 (stC s n k).length, .d (ll s.ls), .d (dl s.ds), .i s.wt.most, .rw 7 W.length]), (7, .row 130 3 (W.map Wa.Wt.cs) false), (11, .row 92 3 ((stC s n k).map Id.Cn.ds) false)]⟩) ?_ ?_
  · exact ⟨_, _, ⟨0, rfl, Nat.zero_le _, rfl⟩, [.cell 9 7 11 92 3], _, rfl, by simp [ltC, stC]⟩
  rintro m σ ⟨k, rfl, hk, rfl⟩
  have l3 := ltC_len (s := s) (es := es) (n := n) (k := k)
  have l4 := stC_len (s := s) (n := n) (k := k)
  by_cases hlt2 : k < s.idle.cs.length
  · obtain ⟨x, hx, e⟩ := at_lt hlt2
    have wk := wrap_succ hlt2 (by omega)
    have hxc := Id.chk_mem hf.f.n.idle (List.mem_of_getElem? hx)
    have v1 := small_wrap (a := n - x.since) (by omega)
    have v2 := small_wrap (a := n - x.born) (by omega)
    have hef := effect_m s 11 0 x.conn
    simp at hef
    by_cases hg : s.idle.idle ≤ n - x.since
    · obtain ⟨e3, e4⟩ := lateC (es := es) (n := n) hx (by simp [Id.good]; omega)
      simp [hlt2, e, v1, hg]
      refine hef.mono ?_
      rintro _ rfl
      simp
      refine ⟨by omega, ?_⟩
      simp [wk]
      refine ⟨_, ?_, _, ⟨k + 1, rfl, hlt2, rfl⟩, [], _, rfl, by simp [e3, e4]⟩
      omega
    by_cases hg2 : s.idle.age ≤ n - x.born
    · obtain ⟨e3, e4⟩ := lateC (es := es) (n := n) hx (by simp [Id.good]; omega)
      simp [hlt2, e, v1, v2, hg, hg2]
      refine hef.mono ?_
      rintro _ rfl
      simp
      refine ⟨by omega, ?_⟩
      simp [wk]
      refine ⟨_, ?_, _, ⟨k + 1, rfl, hlt2, rfl⟩, [], _, rfl, by simp [e3, e4]⟩
      omega
    · obtain ⟨e3, e4⟩ := stayC (es := es) (n := n) hx (by simp [Id.good]; omega)
      simp [hlt2, e, v1, v2, hg, hg2]
      refine ⟨by omega, ?_⟩
      simp [wk]
      refine ⟨_, ?_, _, ⟨k + 1, rfl, hlt2, rfl⟩, [], _, rfl, by simp [e3, e4]⟩
      omega
  obtain rfl : k = s.idle.cs.length := by omega
  have e3 : ltC s es n s.idle.cs.length = lateE s 5 (s.wt.ws.filter fun x => !decide (n < x.dead)) (Id.shut s.idle n) := by rw [ltC, List.take_length, e1, lateE, Id.shut, List.map_map]; rfl
  have e4 : stC s n s.idle.cs.length = Id.left s.idle n := by rw [stC, List.take_length]; rfl
  have hK : tickK s n = ({ s with now := n, wt := ⟨s.wt.most, W⟩, idle := ⟨s.idle.most, s.idle.idle, s.idle.age, Id.left s.idle n⟩ }, rs s 7 0, lateE s 5 (s.wt.ws.filter fun x => !decide (n < x.dead)) (Id.shut s.idle n), 0) := by
    rw [tickK, hc, e2]; simp [hlt]
  rw [hK, e3, e4]
  generalize lateE s 5 (s.wt.ws.filter fun x => !decide (n < x.dead)) (Id.shut s.idle n) = L
  generalize Id.left s.idle n = C
  have t1 : List.take W.length (List.map Wa.Wt.cs W) = List.map Wa.Wt.cs W := List.take_of_length_le (by simp)
  have t2 : List.take C.length (List.map Id.Cn.ds C) = List.map Id.Cn.ds C := List.take_of_length_le (by simp)
  have he := result_m s 7 0
  simp at he
  simp [t1, t2]
  refine effCall he ?_
  simp
  refine ⟨by kernel_rfl, ?_⟩
  refine vcRet_of [] ?_ rfl
  simp
  exact List.take_of_length_le (by simp)
set_option maxHeartbeats 16000000 in
theorem refShut_m (s : Po) (hh : Held s) : Meets Tryz.prog 42 [s.pv] [] (Ret (.tup [(shut s).1.pv, (shut s).2.1.pv, .d (el (shut s).2.2.1), .i (shut s).2.2.2])) := by
  refine meetsH [] tbOk mixed Tryz.func42 pl42 rfl rfl ?_
  simp [Tryz.ntmps42]
  have hk := refCheck_m s hh
  simp at hk
  refine hk.mono ?_
  rintro _ rfl
  by_cases hf : Fine s
  case neg =>
    have h6 : chk s = 6 := chk_bad hf
    have ho : shut s = bad s 6 := if_neg hf
    simp [h6]
    refine vcRet_of [] ?_ rfl
    simp [ho, bad, Rs.z]
  have h0 : chk s = 0 := if_pos hf
  have ho : shut s = shutK s := if_pos hf
  rw [ho]
  clear ho
  have hwl := hf.f.wlen
  have hil := hf.f.ilen
  simp [h0]
  refine vc_loop (fun m σ => ∃ k : Nat, m = s.wt.ws.length - k ∧ k ≤ s.wt.ws.length ∧ σ = ⟨66, [(8, .i k), (7, .rw 7 (efW s 6 s.wt.ws k).length), (1, .ptr 1 0), (2, .ptr 2 0), (3, .ptr 3 0)],
    [(1, .box 31 s.cells), (2, .box 31 [.i 0, .i 0, .i 0, .b false, .i 0, .i 0, .i 0, PV.nil, PV.nil, PV.nil, .i 0, PV.nil]), (3, .box 36 [.i 0, .i 0, .i 0]), (7, erow (efW s 6 s.wt.ws k))]⟩) ?_ ?_
  · exact ⟨_, _, ⟨0, rfl, Nat.zero_le _, rfl⟩, [.row 7 59 4], _, rfl, by simp [efW]⟩
  rintro m σ ⟨k, rfl, hk, rfl⟩
  have hes := efW_len (s := s) (k := 6) hk
  by_cases hlt : k < s.wt.ws.length
  · obtain ⟨x, hx, e⟩ := at_lt hlt
    have wk := wrap_succ hlt (by omega)
    have e1 := efW_succ (s := s) (k := 6) hx
    have hef := effect_m s 6 x.call 0
    simp at hef
    simp [hlt, e]
    refine effCall hef ?_
    simp
    refine ⟨by omega, by kernel_rfl, ?_⟩
    simp [wk]
    refine ⟨_, ?_, _, ⟨k + 1, rfl, hlt, rfl⟩, [], _, rfl, by simp [e1]⟩
    omega
  obtain rfl : k = s.wt.ws.length := by omega
  have hA : efW s 6 s.wt.ws s.wt.ws.length = s.wt.ws.map fun w => ef s 6 w.call 0 := by rw [efW, List.take_length]
  generalize efW s 6 s.wt.ws s.wt.ws.length = es at hA hes ⊢
  simp
  refine vc_loop (fun m σ => ∃ k : Nat, m = s.idle.cs.length - k ∧ k ≤ s.idle.cs.length ∧ σ = ⟨66, [(9, .i k), (7, .rw 7 (efC s es (s.idle.cs.map Id.Cn.conn) k).length), (1, .ptr 1 0), (2, .ptr 2 0), (3, .ptr 3 0)],
    [(1, .box 31 s.cells), (2, .box 31 [.i 0, .i 0, .i 0, .b false, .i 0, .i 0, .i 0, PV.nil, PV.nil, PV.nil, .i 0, PV.nil]), (3, .box 36 [.i 0, .i 0, .i 0]), (7, erow (efC s es (s.idle.cs.map Id.Cn.conn) k))]⟩) ?_ ?_
  · exact ⟨_, _, ⟨0, rfl, Nat.zero_le _, rfl⟩, [], _, rfl, by simp [efC]⟩
  rintro m σ ⟨k, rfl, hk, rfl⟩
  have hfs := efC_len (s := s) (es := es) (cs := s.idle.cs.map Id.Cn.conn) (j := k) (by rw [List.length_map]; exact hk)
  by_cases hlt : k < s.idle.cs.length
  · obtain ⟨x, hx, e⟩ := at_lt hlt
    have wk := wrap_succ hlt (by omega)
    have e1 := efC_succ (s := s) (es := es) (cs := s.idle.cs.map Id.Cn.conn) (j := k) (x := x.conn) (by rw [List.getElem?_map, hx]; rfl)
    have hef := effect_m s 11 0 x.conn
    simp at hef
    simp [hlt, e]
    refine effCall hef ?_
    simp
    refine ⟨by omega, by kernel_rfl, ?_⟩
    simp [wk]
    refine ⟨_, ?_, _, ⟨k + 1, rfl, hlt, rfl⟩, [], _, rfl, by simp [e1]⟩
    omega
  obtain rfl : k = s.idle.cs.length := by omega
  have hB : efC s es (s.idle.cs.map Id.Cn.conn) s.idle.cs.length = lateE s 6 s.wt.ws (s.idle.cs.map Id.Cn.conn) := by rw [efC, List.take_of_length_le (by simp), hA]; rfl
  have hK : shutK s = ({ s with shut := true, wt := ⟨s.wt.most, []⟩, idle := ⟨s.idle.most, s.idle.idle, s.idle.age, []⟩ }, rs s 7 0, lateE s 6 s.wt.ws (s.idle.cs.map Id.Cn.conn), 0) := rfl
  rw [hK, hB]
  generalize lateE s 6 s.wt.ws (s.idle.cs.map Id.Cn.conn) = L
  have he := result_m s 7 0
  simp at he
  simp
  refine effCall he ?_
  simp
  refine ⟨by kernel_rfl, ?_⟩
  refine vcRet_of [] ?_ rfl
  simp
  exact List.take_of_length_le (by simp)
end Go.Proofs.YtajjmhpdiikjhaaGreat.Po
namespace Go.Proofs.YtajjmhpdiikjhaaGreat.Po
set_option maxRecDepth 100000
open Go.RowKit

theorem whereP_m (s : Po) (hh : Held s) (c : Int) : Meets Tryz.prog 33 [s.pv, .i c] [] (Ret (.tup [.i (where_ s c).1, .i (where_ s c).2])) := by
  refine meetsH [] tbOk mixed Tryz.func33 pl33 rfl rfl ?_
  simp [Tryz.ntmps33]
  have hk := check_m s hh.i hh.l hh.d hh.w
  simp at hk
  refine hk.mono ?_
  rintro _ rfl
  by_cases hf : Fine s
  case neg =>
    simp [chk_bad hf]
    refine vcRet_of [] ?_ rfl
    simp [where_, hf]
  have h0 : chk s = 0 := if_pos hf
  simp [h0]
  refine (number_m c).mono ?_
  rintro _ rfl
  cases hc : numOk c
  · simp
    refine vcRet_of [] ?_ rfl
    simp [where_, hf, hc]
  simp
  have hw := role_m s hf.f c
  simp at hw
  refine hw.mono ?_
  rintro _ rfl
  by_cases hr : role s c = 0
  · simp [hr]
    refine vcRet_of [] ?_ rfl
    simp [where_, hf, hc, hr]
  · simp [hr]
    refine vcRet_of [] ?_ rfl
    simp [where_, hf, hc, hr]
theorem count_m (s : Po) (hh : Held s) : Meets Tryz.prog 28 [s.pv] [] (Ret (.tup [.i (if Fine s then (s.idle.cs.length : Int) else 0), .i (if Fine s then (s.ls.length : Int) else 0), .i (if Fine s then (s.ds.length : Int) else 0), .i (if Fine s then (s.wt.ws.length : Int) else 0), .i (chk s)])) := by
  refine meetsH [] tbOk mixed Tryz.func28 pl28 rfl rfl ?_
  simp [Tryz.ntmps28]
  have hk := check_m s hh.i hh.l hh.d hh.w
  simp at hk
  refine hk.mono ?_
  rintro _ rfl
  by_cases hf : Fine s
  case neg =>
    simp [chk_bad hf]
    refine vcRet_of [] ?_ rfl
    simp [hf]
  have h0 : chk s = 0 := if_pos hf
  simp [h0]
  refine ⟨by kernel_rfl, ?_⟩
  refine vcRet_of [] ?_ rfl
  simp [hf]
set_option maxHeartbeats 4000000 in
theorem sameP_m (s t : Po) (hh : Held s) : Meets Tryz.prog 14 [s.pv, t.pv] [] (Ret (.b (decide (s = t)))) := by
  have hl := hh.l
  have hd := hh.d
  have ne : s ≠ t → decide (s = t) = false := fun h => decide_eq_false h
  refine meetsH [] tbOk mixed Tryz.func14 pl14 rfl rfl ?_
  by_cases h1 : s.back = t.back
  case neg =>
    have hb := ne fun e => h1 (by rw [e])
    simp [Tryz.ntmps14, h1]
    refine vcRet_of [] ?_ rfl
    simp [hb]
  by_cases h2 : s.max = t.max
  case neg =>
    have hb := ne fun e => h2 (by rw [e])
    simp [Tryz.ntmps14, h1, h2]
    refine vcRet_of [] ?_ rfl
    simp [hb]
  by_cases h3 : s.now = t.now
  case neg =>
    have hb := ne fun e => h3 (by rw [e])
    simp [Tryz.ntmps14, h1, h2, h3]
    refine vcRet_of [] ?_ rfl
    simp [hb]
  by_cases h4 : s.shut = t.shut
  case neg =>
    have hb := ne fun e => h4 (by rw [e])
    simp [Tryz.ntmps14, h1, h2, h3, h4]
    refine vcRet_of [] ?_ rfl
    simp [hb]
  by_cases h5i : (s.ls.length : Int) = t.ls.length
  case neg =>
    have hb := ne fun e => h5i (by rw [e])
    simp [Tryz.ntmps14, h1, h2, h3, h4, h5i]
    refine vcRet_of [] ?_ rfl
    simp [hb]
  by_cases h6i : (s.ds.length : Int) = t.ds.length
  case neg =>
    have hb := ne fun e => h6i (by rw [e])
    simp [Tryz.ntmps14, h1, h2, h3, h4, h5i, h6i]
    refine vcRet_of [] ?_ rfl
    simp [hb]
  have h5 : s.ls.length = t.ls.length := by omega
  have h6 : s.ds.length = t.ds.length := by omega
  simp [Tryz.ntmps14, h1, h2, h3, h4, h5, h6]
  refine vc_loop (fun m σ => ∃ k : Nat, m = t.ls.length - k ∧ k ≤ t.ls.length ∧ (∀ i, i < k → s.ls[i]? = t.ls[i]?) ∧ σ = ⟨99, [(5, .i k), (2, .ptr 2 0), (3, .ptr 3 0)], [(2, .box 31 s.cells), (3, .box 31 t.cells)]⟩) ?_ ?_
  · exact ⟨_, _, ⟨0, rfl, Nat.zero_le _, fun i hi => absurd hi (by omega), rfl⟩, [], _, rfl, by simp [h1, h2, h3, h4]⟩
  rintro m σ ⟨k, rfl, hk, i1, rfl⟩
  by_cases hlt : k < t.ls.length
  · obtain ⟨y, hy, ey⟩ := at_lt hlt
    have hlt2 : k < s.ls.length := by omega
    obtain ⟨x, hx, ex⟩ := at_lt hlt2
    have wk := wrap_succ hlt (by omega)
    by_cases hxy : x = y
    · have hq : x.call = y.call ∧ x.conn = y.conn ∧ x.born = y.born := by rw [hxy]; simp
      simp [hlt, ex, ey, h5, hq, wk]
      refine ⟨by kernel_rfl, _, ?_, _, ⟨k + 1, rfl, hlt, fun i hi => ?_, rfl⟩, [], _, rfl, by simp [h1, h2, h3, h4]⟩
      · omega
      · by_cases hik : i = k
        · subst hik; rw [hx, hy, hxy]
        · exact i1 i (by omega)
    · have hq : ¬ (x.call = y.call ∧ x.conn = y.conn ∧ x.born = y.born) := fun ⟨a, b, c⟩ => hxy (by cases x; cases y; simp_all)
      have hb := ne fun e => hxy (by rw [e] at hx; rw [hx] at hy; exact Option.some.inj hy)
      by_cases q1 : x.call = y.call
      · by_cases q2 : x.conn = y.conn
        · have q3 : ¬ x.born = y.born := fun h => hq ⟨q1, q2, h⟩
          simp [hlt, ex, ey, h5, q1, q2, q3]
          refine ⟨by kernel_rfl, vcRet_of [] ?_ rfl⟩
          simp [hb]
        · simp [hlt, ex, ey, h5, q1, q2]
          refine ⟨by kernel_rfl, vcRet_of [] ?_ rfl⟩
          simp [hb]
      · simp [hlt, ex, ey, h5, q1]
        refine ⟨by kernel_rfl, vcRet_of [] ?_ rfl⟩
        simp [hb]
  obtain rfl : k = t.ls.length := by omega
  have eL : s.ls = t.ls := List.ext_getElem? fun i => by
    by_cases hi : i < t.ls.length
    · exact i1 i hi
    · rw [List.getElem?_eq_none (by omega), List.getElem?_eq_none (by omega)]
  simp [h5]
  refine vc_loop (fun m σ => ∃ k : Nat, m = t.ds.length - k ∧ k ≤ t.ds.length ∧ (∀ i, i < k → s.ds[i]? = t.ds[i]?) ∧ σ = ⟨99, [(6, .i k), (2, .ptr 2 0), (3, .ptr 3 0)], [(2, .box 31 s.cells), (3, .box 31 t.cells)]⟩) ?_ ?_
  · exact ⟨_, _, ⟨0, rfl, Nat.zero_le _, fun i hi => absurd hi (by omega), rfl⟩, [], _, rfl, by simp⟩
  rintro m σ ⟨k, rfl, hk, j1, rfl⟩
  by_cases hlt : k < t.ds.length
  · obtain ⟨y, hy, ey⟩ := at_lt hlt
    have hlt2 : k < s.ds.length := by omega
    obtain ⟨x, hx, ex⟩ := at_lt hlt2
    have wk := wrap_succ hlt (by omega)
    by_cases hxy : x = y
    · have hq : x.call = y.call ∧ x.gone = y.gone := by rw [hxy]; simp
      simp [hlt, ex, ey, h6, hq, wk]
      refine ⟨by kernel_rfl, _, ?_, _, ⟨k + 1, rfl, hlt, fun i hi => ?_, rfl⟩, [], _, rfl, by simp⟩
      · omega
      · by_cases hik : i = k
        · subst hik; rw [hx, hy, hxy]
        · exact j1 i (by omega)
    · have hb := ne fun e => hxy (by rw [e] at hx; rw [hx] at hy; exact Option.some.inj hy)
      by_cases q1 : x.call = y.call
      · have q2 : ¬ x.gone = y.gone := fun h => hxy (by cases x; cases y; simp_all)
        simp [hlt, ex, ey, h6, q1, q2]
        refine ⟨by kernel_rfl, vcRet_of [] ?_ rfl⟩
        simp [hb]
      · simp [hlt, ex, ey, h6, q1]
        refine ⟨by kernel_rfl, vcRet_of [] ?_ rfl⟩
        simp [hb]
  obtain rfl : k = t.ds.length := by omega
  have eD : s.ds = t.ds := List.ext_getElem? fun i => by
    by_cases hi : i < t.ds.length
    · exact j1 i hi
    · rw [List.getElem?_eq_none (by omega), List.getElem?_eq_none (by omega)]
  simp [h6]
  refine (Id.same_m s.idle t.idle (by have := hh.i; omega)).mono ?_
  rintro _ rfl
  by_cases e1 : s.idle = t.idle
  case neg =>
    have hb := ne fun e => e1 (by rw [e])
    simp [e1]
    refine vcRet_of [] ?_ rfl
    simp [hb]
  simp [e1]
  refine (Wa.same_m s.wt t.wt (by have := hh.w; omega)).mono ?_
  rintro _ rfl
  have hst : (s = t) ↔ (s.wt = t.wt) := by
    constructor
    · rintro rfl; rfl
    · intro e2
      cases s; cases t; simp_all
  simp
  refine vcRet_of [] ?_ rfl
  simp [hst]
set_option maxHeartbeats 4000000 in
theorem sameE_m (es fs : List Ef) (hl : es.length < 4294967296) : Meets Tryz.prog 15 [.d (el es), .d (el fs)] [] (Ret (.b (decide (es = fs)))) := by
  refine meetsH [] tbOk mixed Tryz.func15 pl15 rfl rfl ?_
  simp [Tryz.ntmps15]
  refine vc_loop (fun m σ => ∃ k : Nat, m = es.length - k ∧ k ≤ es.length ∧ k ≤ fs.length ∧ (∀ i, i < k → es[i]? = fs[i]?) ∧ σ = ⟨32, [(5, .i k), (0, .d (el es)), (1, .d (el fs))], []⟩) ?_ ?_
  · exact ⟨_, _, ⟨0, rfl, Nat.zero_le _, Nat.zero_le _, fun i hi => absurd hi (by omega), rfl⟩, [], _, rfl, by simp⟩
  rintro m σ ⟨k, rfl, hk, hk2, i1, rfl⟩
  have fin : (es.length ≤ k ∨ fs.length ≤ k) → decide (es = fs) = decide (es.length = fs.length) := fun h => by
    by_cases hlen : es.length = fs.length
    · have : es = fs := List.ext_getElem? fun i => by
        by_cases hi : i < k
        · exact i1 i hi
        · rw [List.getElem?_eq_none (by omega), List.getElem?_eq_none (by omega)]
      simp [this]
    · simp [hlen]
      intro e; exact hlen (by rw [e])
  by_cases hlt : k < es.length
  · by_cases hlt2 : k < fs.length
    · obtain ⟨x, hx, ex⟩ := at_lt hlt
      obtain ⟨y, hy, ey⟩ := at_lt hlt2
      have wk := wrap_succ hlt hl
      by_cases hxy : x = y
      · have hq : x.kind = y.kind ∧ x.back = y.back ∧ x.call = y.call ∧ x.conn = y.conn := by rw [hxy]; simp
        simp [hlt, hlt2, ex, ey, hq, wk]
        refine ⟨by kernel_rfl, _, ?_, _, ⟨k + 1, rfl, hlt, hlt2, fun i hi => ?_, rfl⟩, [], _, rfl, by simp⟩
        · omega
        · by_cases hik : i = k
          · subst hik; rw [hx, hy, hxy]
          · exact i1 i (by omega)
      · have hb : decide (es = fs) = false := decide_eq_false fun e => hxy (by rw [e] at hx; rw [hx] at hy; exact Option.some.inj hy)
        by_cases q1 : x.kind = y.kind
        · by_cases q2 : x.back = y.back
          · by_cases q3 : x.call = y.call
            · have q4 : ¬ x.conn = y.conn := fun h => hxy (by cases x; cases y; simp_all)
              simp [hlt, hlt2, ex, ey, q1, q2, q3, q4]
              refine ⟨by kernel_rfl, vcRet_of [] ?_ rfl⟩
              simp [hb]
            · simp [hlt, hlt2, ex, ey, q1, q2, q3]
              refine ⟨by kernel_rfl, vcRet_of [] ?_ rfl⟩
              simp [hb]
          · simp [hlt, hlt2, ex, ey, q1, q2]
            refine ⟨by kernel_rfl, vcRet_of [] ?_ rfl⟩
            simp [hb]
        · simp [hlt, hlt2, ex, ey, q1]
          refine ⟨by kernel_rfl, vcRet_of [] ?_ rfl⟩
          simp [hb]
    · simp [hlt, hlt2]
      refine vcRet_of [] ?_ rfl
      simp [fin (.inr (by omega))]
      omega
  · simp [hlt]
    refine vcRet_of [] ?_ rfl
    simp [fin (.inl (by omega))]
    omega
end Go.Proofs.YtajjmhpdiikjhaaGreat.Po
