/- The reference: frees, dials, cancels. No condition. -/
import Derived.Test.YtajjmhpdiikjhaaGreatN9
namespace Go.Proofs.YtajjmhpdiikjhaaGreat.Po
set_option maxRecDepth 100000
open Go.RowKit

/-- Of the first k those with another number; the last one with the number. -/
def keepK {α : Type} (key : α → Int) (l : List α) (c : Int) (k : Nat) : List α := (l.take k).filter fun y => key y != c
def lastC {α : Type} (z : α) (key : α → Int) (l : List α) (c : Int) : Nat → α
  | 0 => z
  | k + 1 => match l[k]? with
    | some y => if key y = c then y else lastC z key l c k
    | none => lastC z key l c k
section
variable {α : Type} {z : α} {key : α → Int} {l : List α} {c : Int} {k : Nat} {y : α}
theorem keep_zero : keepK key l c 0 = [] := by simp [keepK]
theorem keep_yes (hy : l[k]? = some y) (h : key y = c) : keepK key l c (k + 1) = keepK key l c k := by
  rw [keepK, keepK, take_succ hy, List.filter_append]; simp [h]
theorem keep_no (hy : l[k]? = some y) (h : key y ≠ c) : keepK key l c (k + 1) = keepK key l c k ++ [y] := by
  rw [keepK, keepK, take_succ hy, List.filter_append]; simp [h]
theorem keep_end : keepK key l c l.length = l.filter fun y => key y != c := by rw [keepK, List.take_length]
theorem keep_len : (keepK key l c k).length ≤ k := by
  unfold keepK
  have h1 := List.length_filter_le (fun y => key y != c) (l.take k)
  have h2 : (l.take k).length ≤ k := by rw [List.length_take]; omega
  omega
theorem last_yes (hy : l[k]? = some y) (h : key y = c) : lastC z key l c (k + 1) = y := by simp [lastC, hy, h]
theorem last_no (hy : l[k]? = some y) (h : key y ≠ c) : lastC z key l c (k + 1) = lastC z key l c k := by simp [lastC, hy, h]
theorem last_at (hu : Up (l.map key)) {i : Nat} {x : α} (hx : l[i]? = some x) (hc : key x = c) : ∀ {k : Nat}, i < k → k ≤ l.length → lastC z key l c k = x
  | k + 1, h1, h2 => by
    obtain ⟨y, hy⟩ : ∃ y, l[k]? = some y := ⟨_, List.getElem?_eq_getElem (by omega)⟩
    by_cases h : key y = c
    · rw [last_yes hy h]
      obtain rfl := up_inj hu hx hy (hc.trans h.symm)
      rw [hx] at hy; exact (Option.some.inj hy).symm
    · rw [last_no hy h]
      refine last_at hu hx hc ?_ (by omega)
      by_cases hik : i = k
      · subst hik; rw [hx] at hy; cases hy; exact absurd hc h
      · omega
end
theorem role_two {s : Po} (h : Fine s) {c : Int} (ha : s.ds.any (fun x => x.call == c) = true) : role s c = 2 := by
  obtain ⟨i, x, hx, rfl⟩ := mem_keyed ha
  have : s.ls.any (fun y => y.call == x.call) = false := any_not.2 fun y hy => h.ld y hy x (List.mem_of_getElem? hx)
  simp [role, ha, this]
theorem role_not2 {s : Po} {c : Int} (ha : s.ds.any (fun x => x.call == c) = false) : role s c ≠ 2 := by
  unfold role
  rw [ha]
  generalize s.ls.any (fun x => x.call == c) = a
  generalize s.wt.ws.any (fun x => x.call == c) = b
  cases a <;> cases b <;> simp
theorem role_one {s : Po} {c : Int} (ha : s.ls.any (fun x => x.call == c) = true) : role s c = 1 := by rw [role, if_pos ha]
theorem role_not1 {s : Po} {c : Int} (ha : s.ls.any (fun x => x.call == c) = false) : role s c ≠ 1 := by
  unfold role
  rw [ha]
  simp
  split
  · decide
  · split <;> decide
set_option maxHeartbeats 16000000 in
theorem refFree_m (s : Po) (hh : Held s) (c : Int) (re : Bool) : Meets Tryz.prog 39 [s.pv, .i c, .b re] [] (Ret (.tup [(free s c re).1.pv, (free s c re).2.1.pv, .d (el (free s c re).2.2.1), .i (free s c re).2.2.2])) := by
  refine meetsH [] tbOk mixed Tryz.func39 pl39 rfl rfl ?_
  simp [Tryz.ntmps39]
  have hk := refCheck_m s hh
  simp at hk
  refine hk.mono ?_
  rintro _ rfl
  by_cases hf : Fine s
  case neg =>
    have h6 : chk s = 6 := chk_bad hf
    have ho : free s c re = bad s 6 := if_neg hf
    simp [h6]
    refine vcRet_of [] ?_ rfl
    simp [ho, bad, Rs.z]
  have h0 : chk s = 0 := if_pos hf
  have ho : free s c re = freeK s c re := if_pos hf
  rw [ho]
  clear ho
  simp [h0]
  refine (refNumber_m c).mono ?_
  rintro _ rfl
  cases hc : numOk c
  · simp
    refine vcRet_of [] ?_ rfl
    simp [freeK, hc, bad, Rs.z]
  simp
  have hw := where_m s hh c
  simp at hw
  refine hw.mono ?_
  rintro _ rfl
  cases g1 : s.ls.any (fun x => x.call == c)
  · simp [role_not1 g1]
    refine vcRet_of [] ?_ rfl
    simp [freeK, hc, g1, bad, Rs.z]
  have hr := role_one (s := s) g1
  obtain ⟨i, x, hx, hxc⟩ := mem_keyed g1
  have hll := hf.f.llen
  simp [hr]
  refine vc_loop (fun n σ => ∃ k : Nat, n = s.ls.length - k ∧ k ≤ s.ls.length ∧ σ = ⟨84, [(13, .i k), (3, .ptr 3 0), (6, .ptr 6 0), (7, .ptr 7 0), (11, .ptr 11 0), (12, .ptr 12 0), (1, .i c), (2, .b re)],
    [(3, .box 31 s.cells), (6, .box 31 [.i 0, .i 0, .i 0, .b false, .i 0, .i 0, .i 0, PV.nil, PV.nil, PV.nil, .i 0, PV.nil]), (7, .box 36 [.i 0, .i 0, .i 0]),
     (11, .box 31 [.i s.back, .i s.max, .i s.now, .b s.shut, .i s.idle.most, .i s.idle.idle, .i s.idle.age, .d (Id.cl s.idle.cs), .rw 9 (keepK Ls.call s.ls c k).length, .d (dl s.ds), .i s.wt.most, .d (Wa.wl s.wt.ws)]),
     (9, .row 71 3 ((keepK Ls.call s.ls c k).map Ls.dd) false), (12, .box 71 [.i (lastC ⟨0, 0, 0⟩ Ls.call s.ls c k).call, .i (lastC ⟨0, 0, 0⟩ Ls.call s.ls c k).conn, .i (lastC ⟨0, 0, 0⟩ Ls.call s.ls c k).born])]⟩) ?_ ?_
  · exact ⟨_, _, ⟨0, rfl, Nat.zero_le _, rfl⟩, [.cell 11 8 9 71 3], _, rfl, by simp [keep_zero, lastC]⟩
  rintro n σ ⟨k, rfl, hk, rfl⟩
  have hkl := keep_len (key := Ls.call) (l := s.ls) (c := c) (k := k)
  by_cases hlt : k < s.ls.length
  · obtain ⟨y, hy, e⟩ := at_lt hlt
    have wk := wrap_succ hlt (by omega)
    by_cases hc2 : y.call = c
    · have e1 := keep_yes hy hc2
      have e2 := last_yes (z := (⟨0, 0, 0⟩ : Ls)) hy hc2
      simp [hlt, e, hc2, wk]
      refine ⟨_, ?_, _, ⟨k + 1, rfl, hlt, rfl⟩, [], _, rfl, by simp [e1, e2, hc2]⟩
      omega
    · have e1 := keep_no hy hc2
      have e2 := last_no (z := (⟨0, 0, 0⟩ : Ls)) hy hc2
      simp [hlt, e, hc2]
      refine ⟨by omega, by kernel_rfl, ?_⟩
      simp [wk]
      refine ⟨_, ?_, _, ⟨k + 1, rfl, hlt, rfl⟩, [], _, rfl, by simp [e1, e2]⟩
      omega
  obtain rfl : k = s.ls.length := by omega
  have e1 : keepK Ls.call s.ls c s.ls.length = dropL s.ls c := keep_end
  have e2 := last_at (z := (⟨0, 0, 0⟩ : Ls)) hf.f.lu hx hxc (lt_some hx) (Nat.le_refl _)
  rw [e1, e2]
  subst hxc
  have hhl := hf.holeL hx
  obtain ⟨_, k2, k3, k4⟩ := hf.f.ls x (List.mem_of_getElem? hx)
  have tk : List.take (dropL s.ls x.call).length (List.map Ls.dd (dropL s.ls x.call)) = List.map Ls.dd (dropL s.ls x.call) := List.take_of_length_le (by simp)
  have hg := refGive_m hhl (c := x.conn) (b := x.born) re ⟨k3, k4⟩
  simp at hg
  simp [tk]
  refine hg.mono ?_
  rintro _ rfl
  simp
  have he := result_m s 7 0
  simp at he
  refine effCall he ?_
  simp
  refine ⟨by kernel_rfl, ?_⟩
  refine vcRet_of [] ?_ rfl
  simp [freeK, hc, g1, findL_at hf.f.lu hx, rs]
set_option maxHeartbeats 16000000 in
theorem refDialled_m (s : Po) (hh : Held s) (c n : Int) (ok : Bool) : Meets Tryz.prog 38 [s.pv, .i c, .i n, .b ok] [] (Ret (.tup [(dialled s c n ok).1.pv, (dialled s c n ok).2.1.pv, .d (el (dialled s c n ok).2.2.1), .i (dialled s c n ok).2.2.2])) := by
  refine meetsH [(123, [(false, 16)])] tbOk mixed Tryz.func38 pl38 rfl rfl ?_
  simp [Tryz.ntmps38]
  have hk := refCheck_m s hh
  simp at hk
  refine hk.mono ?_
  rintro _ rfl
  by_cases hf : Fine s
  case neg =>
    have h6 : chk s = 6 := chk_bad hf
    have ho : dialled s c n ok = bad s 6 := if_neg hf
    simp [h6]
    refine vcRet_of [] ?_ rfl
    simp [ho, bad, Rs.z]
  have h0 : chk s = 0 := if_pos hf
  have ho : dialled s c n ok = dialledK s c n ok := if_pos hf
  rw [ho]
  clear ho
  simp [h0]
  refine (refNumber_m c).mono ?_
  rintro _ rfl
  cases hc : numOk c
  · simp
    refine vcRet_of [] ?_ rfl
    simp [dialledK, hc, bad, Rs.z]
  have hw := where_m s hh c
  simp at hw
  have ht := there_m s hh n
  simp at ht
  have hll := hf.f.dlen
  have hnow := (timeOk_iff.1 hf.f.n.now).1
  cases ok with
  | false =>
    simp
    refine hw.mono ?_
    rintro _ rfl
    cases g1 : s.ds.any (fun x => x.call == c)
    · simp [role_not2 g1]
      refine vcRet_of [] ?_ rfl
      simp [dialledK, hc, g1, bad, Rs.z]
    have hr := role_two hf g1
    obtain ⟨i, x, hx, hxc⟩ := mem_keyed g1
    simp [hr]
    refine vc_loop (fun m σ => ∃ k : Nat, m = s.ds.length - k ∧ k ≤ s.ds.length ∧ σ = ⟨129, [(15, .i k), (14, .b (lastC ⟨0, false⟩ Dl.call s.ds c k).gone), (13, .rw 13 (keepK Dl.call s.ds c k).length), (4, .ptr 4 0), (8, .ptr 8 0), (9, .ptr 9 0), (1, .i c), (2, .i n), (3, .b false)],
      [(4, .box 31 s.cells), (8, .box 31 [.i 0, .i 0, .i 0, .b false, .i 0, .i 0, .i 0, PV.nil, PV.nil, PV.nil, .i 0, PV.nil]), (9, .box 36 [.i 0, .i 0, .i 0]), (13, .row 66 2 ((keepK Dl.call s.ds c k).map Dl.dd) false)]⟩) ?_ ?_
    · exact ⟨_, _, ⟨0, rfl, Nat.zero_le _, rfl⟩, [.row 13 66 2], _, rfl, by simp [keep_zero, lastC]⟩
    rintro m σ ⟨k, rfl, hk, rfl⟩
    have hkl := keep_len (key := Dl.call) (l := s.ds) (c := c) (k := k)
    by_cases hlt : k < s.ds.length
    · obtain ⟨y, hy, e⟩ := at_lt hlt
      have wk := wrap_succ hlt (by omega)
      by_cases hc2 : y.call = c
      · have e1 := keep_yes hy hc2
        have e2 := last_yes (z := (⟨0, false⟩ : Dl)) hy hc2
        simp [hlt, e, hc2, wk]
        refine ⟨_, ?_, _, ⟨k + 1, rfl, hlt, rfl⟩, [], _, rfl, by simp [e1, e2]⟩
        omega
      · have e1 := keep_no hy hc2
        have e2 := last_no (z := (⟨0, false⟩ : Dl)) hy hc2
        simp [hlt, e, hc2, wk]
        refine ⟨by omega, _, ?_, _, ⟨k + 1, rfl, hlt, rfl⟩, [], _, rfl, by simp [e1, e2]⟩
        omega
    obtain rfl : k = s.ds.length := by omega
    have e1 : keepK Dl.call s.ds c s.ds.length = dropD s.ds c := keep_end
    have e2 := last_at (z := (⟨0, false⟩ : Dl)) hf.f.du hx hxc (lt_some hx) (Nat.le_refl _)
    rw [e1, e2]
    subst hxc
    have hhl := hf.holeD hx
    have tk : List.take (dropD s.ds x.call).length (List.map Dl.dd (dropD s.ds x.call)) = List.map Dl.dd (dropD s.ds x.call) := List.take_of_length_le (by simp)
    have hp := refPass_m hhl
    simp at hp
    simp [tk]
    refine hp.mono ?_
    rintro _ rfl
    cases hg : x.gone
    · have he := result_m s 10 0
      simp at he
      simp
      refine effCall he ?_
      simp
      refine ⟨by kernel_rfl, ?_⟩
      refine vcRet_of [] ?_ rfl
      simp [dialledK, hc, g1, dialledT, findD_at hf.f.du hx, hg, rs]
    · have he := result_m s 7 0
      simp at he
      simp
      refine effCall he ?_
      simp
      refine ⟨by kernel_rfl, ?_⟩
      refine vcRet_of [] ?_ rfl
      simp [dialledK, hc, g1, dialledT, findD_at hf.f.du hx, hg, rs]
  | true =>
    simp
    refine (refNumber_m n).mono ?_
    rintro _ rfl
    cases hn : numOk n
    · simp
      refine vcRet_of [] ?_ rfl
      simp [dialledK, hc, hn, bad, Rs.z]
    simp
    refine hw.mono ?_
    rintro _ rfl
    cases g1 : s.ds.any (fun x => x.call == c)
    · simp [role_not2 g1]
      refine vcRet_of [] ?_ rfl
      simp [dialledK, hc, hn, g1, bad, Rs.z]
    have hr := role_two hf g1
    obtain ⟨i, x, hx, hxc⟩ := mem_keyed g1
    simp [hr]
    refine ht.mono ?_
    rintro _ rfl
    cases g2 : there s n
    case true =>
      simp
      refine vcRet_of [] ?_ rfl
      simp [dialledK, hc, hn, g1, g2, bad, Rs.z]
    simp
    refine vc_loop (fun m σ => ∃ k : Nat, m = s.ds.length - k ∧ k ≤ s.ds.length ∧ σ = ⟨129, [(15, .i k), (14, .b (lastC ⟨0, false⟩ Dl.call s.ds c k).gone), (13, .rw 13 (keepK Dl.call s.ds c k).length), (4, .ptr 4 0), (8, .ptr 8 0), (9, .ptr 9 0), (1, .i c), (2, .i n), (3, .b true)],
      [(4, .box 31 s.cells), (8, .box 31 [.i 0, .i 0, .i 0, .b false, .i 0, .i 0, .i 0, PV.nil, PV.nil, PV.nil, .i 0, PV.nil]), (9, .box 36 [.i 0, .i 0, .i 0]), (13, .row 66 2 ((keepK Dl.call s.ds c k).map Dl.dd) false)]⟩) ?_ ?_
    · exact ⟨_, _, ⟨0, rfl, Nat.zero_le _, rfl⟩, [.row 13 66 2], _, rfl, by simp [keep_zero, lastC]⟩
    rintro m σ ⟨k, rfl, hk, rfl⟩
    have hkl := keep_len (key := Dl.call) (l := s.ds) (c := c) (k := k)
    by_cases hlt : k < s.ds.length
    · obtain ⟨y, hy, e⟩ := at_lt hlt
      have wk := wrap_succ hlt (by omega)
      by_cases hc2 : y.call = c
      · have e1 := keep_yes hy hc2
        have e2 := last_yes (z := (⟨0, false⟩ : Dl)) hy hc2
        simp [hlt, e, hc2, wk]
        refine ⟨_, ?_, _, ⟨k + 1, rfl, hlt, rfl⟩, [], _, rfl, by simp [e1, e2]⟩
        omega
      · have e1 := keep_no hy hc2
        have e2 := last_no (z := (⟨0, false⟩ : Dl)) hy hc2
        simp [hlt, e, hc2, wk]
        refine ⟨by omega, _, ?_, _, ⟨k + 1, rfl, hlt, rfl⟩, [], _, rfl, by simp [e1, e2]⟩
        omega
    obtain rfl : k = s.ds.length := by omega
    have e1 : keepK Dl.call s.ds c s.ds.length = dropD s.ds c := keep_end
    have e2 := last_at (z := (⟨0, false⟩ : Dl)) hf.f.du hx hxc (lt_some hx) (Nat.le_refl _)
    rw [e1, e2]
    subst hxc
    have hhl := hf.holeD hx
    have tk : List.take (dropD s.ds x.call).length (List.map Dl.dd (dropD s.ds x.call)) = List.map Dl.dd (dropD s.ds x.call) := List.take_of_length_le (by simp)
    have hK : dialledK s x.call n true = if x.gone = true then ((giveS { s with ds := dropD s.ds x.call } n s.now true).1, rs s 7 0, (giveS { s with ds := dropD s.ds x.call } n s.now true).2, 0)
        else if s.shut = true then ({ s with ds := dropD s.ds x.call }, rs s 6 0, [ef s 11 0 n], 0)
        else ({ s with ds := dropD s.ds x.call, ls := insL s.ls ⟨x.call, n, s.now⟩ }, rs s 1 n, [], 0) := by
      simp [dialledK, hc, hn, g1, g2, dialledT, findD_at hf.f.du hx]
    rw [hK]
    cases hg : x.gone
    case true =>
      have hgv := refGive_m hhl (c := n) (b := s.now) true ⟨hnow, Int.le_refl _⟩
      simp at hgv
      simp [tk]
      refine hgv.mono ?_
      rintro _ rfl
      have he := result_m s 7 n
      simp at he
      simp
      refine effCall he ?_
      simp
      refine ⟨by kernel_rfl, ?_⟩
      refine vcRet_of [] ?_ rfl
      simp [rs]
    by_cases hs : s.shut = true
    · have hef := effect_m s 11 0 n
      simp [hs] at hef
      simp [hs]
      refine hef.mono ?_
      rintro _ rfl
      have he := result_m s 6 0
      simp [hs] at he
      simp [tk]
      refine effCall he ?_
      simp
      refine ⟨by kernel_rfl, ?_⟩
      refine vcRet_of [] ?_ rfl
      simp [rs]
    · have hls := refLease_m { s with ds := dropD s.ds x.call } hhl.f.held ⟨x.call, n, s.now⟩
      simp only [] at hls
      rw [refL_eq (l := s.ls) (x := ⟨x.call, n, s.now⟩) (fun y hy => hf.ld y hy x (List.mem_of_getElem? hx))] at hls
      simp [hs] at hls
      simp [hs, tk]
      refine hls.mono ?_
      rintro _ rfl
      have he := result_m s 1 n
      simp [hs] at he
      simp
      refine effCall he ?_
      simp
      refine ⟨by kernel_rfl, ?_⟩
      refine vcRet_of [] ?_ rfl
      simp [rs]
end Go.Proofs.YtajjmhpdiikjhaaGreat.Po
namespace Go.Proofs.YtajjmhpdiikjhaaGreat.Po
set_option maxRecDepth 100000
open Go.RowKit

theorem role_three {s : Po} (h : Fine s) {c : Int} (ha : s.wt.ws.any (fun x => x.call == c) = true) : role s c = 3 := by
  obtain ⟨x, hx, e⟩ := List.any_eq_true.1 ha
  have e : x.call = c := by simpa using e
  subst e
  have h1 : s.ls.any (fun y => y.call == x.call) = false := any_not.2 fun y hy => h.lw y hy x hx
  have h2 : s.ds.any (fun y => y.call == x.call) = false := any_not.2 fun y hy => h.dw y hy x hx
  simp only [role, h1, h2, ha]; simp
theorem role_not3 {s : Po} {c : Int} (ha : s.wt.ws.any (fun x => x.call == c) = false) : role s c ≠ 3 := by
  unfold role
  rw [ha]
  generalize s.ls.any (fun x => x.call == c) = a
  generalize s.ds.any (fun x => x.call == c) = b
  cases a <;> cases b <;> simp
/-- The dials of which the first k are marked. -/
def markD (l : List Dl) (c : Int) (k : Nat) : List Dl := (l.take k).map (fun z => if z.call = c then (⟨c, true⟩ : Dl) else z) ++ l.drop k
theorem mark_zero {l : List Dl} {c : Int} : markD l c 0 = l := by simp [markD]
theorem mark_end {l : List Dl} {c : Int} : markD l c l.length = l.map fun z => if z.call = c then (⟨c, true⟩ : Dl) else z := by simp [markD]
theorem mark_len {l : List Dl} {c : Int} {k : Nat} : (markD l c k).length = l.length := by simp [markD]; omega
theorem mark_at {l : List Dl} {c : Int} {k : Nat} {y : Dl} (hy : l[k]? = some y) : (markD l c k)[k]? = some y := by
  have hl := (List.getElem?_eq_some_iff.1 hy).1
  rw [markD, List.getElem?_append_right (by simp; omega), List.getElem?_drop]
  simp
  rw [show k + (k - min k l.length) = k by omega]; exact hy
theorem mark_succ {l : List Dl} {c : Int} {k : Nat} {y : Dl} (hy : l[k]? = some y) : markD l c (k + 1) = (markD l c k).set k (if y.call = c then ⟨c, true⟩ else y) := by
  have hl := (List.getElem?_eq_some_iff.1 hy).1
  have e : l[k] = y := by rw [List.getElem?_eq_getElem hl] at hy; exact Option.some.inj hy
  rw [markD, markD, take_succ hy, List.map_append, List.drop_eq_getElem_cons hl, List.set_append_right _ _ (by simp; omega)]
  have : k - ((l.take k).map fun z => if z.call = c then (⟨c, true⟩ : Dl) else z).length = 0 := by simp; omega
  rw [this, e]
  simp
theorem mark_same {l : List Dl} {c : Int} {k : Nat} {y : Dl} (hy : l[k]? = some y) (h : y.call ≠ c) : markD l c (k + 1) = markD l c k := by
  rw [mark_succ hy, if_neg h]
  apply List.ext_getElem?
  intro j
  rw [List.getElem?_set]
  split
  · rename_i e; subst e
    rw [mark_at hy]
    simp [mark_len, (List.getElem?_eq_some_iff.1 hy).1]
  · rfl
set_option maxHeartbeats 16000000 in
theorem refCancel_m (s : Po) (hh : Held s) (c : Int) : Meets Tryz.prog 40 [s.pv, .i c] [] (Ret (.tup [(cancel s c).1.pv, (cancel s c).2.1.pv, .i (cancel s c).2.2.2])) := by
  refine meetsH [(63, [(false, 8)]), (101, [(false, 8)])] tbOk mixed Tryz.func40 pl40 rfl rfl ?_
  simp [Tryz.ntmps40]
  have hk := refCheck_m s hh
  simp at hk
  refine hk.mono ?_
  rintro _ rfl
  by_cases hf : Fine s
  case neg =>
    have h6 : chk s = 6 := chk_bad hf
    have ho : cancel s c = bad s 6 := if_neg hf
    simp [h6]
    refine vcRet_of [] ?_ rfl
    simp [ho, bad, Rs.z]
  have h0 : chk s = 0 := if_pos hf
  have ho : cancel s c = cancelK s c := if_pos hf
  rw [ho]
  clear ho
  simp [h0]
  refine (refNumber_m c).mono ?_
  rintro _ rfl
  cases hc : numOk c
  · simp
    refine vcRet_of [] ?_ rfl
    simp [cancelK, hc, bad, Rs.z]
  simp
  have hw := where_m s hh c
  simp at hw
  refine hw.mono ?_
  rintro _ rfl
  have hwl := hf.f.wlen
  have hdl := hf.f.dlen
  cases g1 : s.wt.ws.any (fun x => x.call == c)
  case true =>
    have hr := role_three hf g1
    simp [hr]
    refine vc_loop (fun m σ => ∃ k : Nat, m = s.wt.ws.length - k ∧ k ≤ s.wt.ws.length ∧ σ = ⟨110, [(9, .i k), (2, .ptr 2 0), (4, .ptr 4 0), (5, .ptr 5 0), (8, .ptr 8 0), (1, .i c)],
      [(2, .box 31 s.cells), (4, .box 31 [.i 0, .i 0, .i 0, .b false, .i 0, .i 0, .i 0, PV.nil, PV.nil, PV.nil, .i 0, PV.nil]), (5, .box 36 [.i 0, .i 0, .i 0]),
       (8, .box 31 [.i s.back, .i s.max, .i s.now, .b s.shut, .i s.idle.most, .i s.idle.idle, .i s.idle.age, .d (Id.cl s.idle.cs), .d (ll s.ls), .d (dl s.ds), .i s.wt.most, .rw 9 (keepK Wa.Wt.call s.wt.ws c k).length]),
       (9, .row 130 3 ((keepK Wa.Wt.call s.wt.ws c k).map Wa.Wt.cs) false)]⟩) ?_ ?_
    · exact ⟨_, _, ⟨0, rfl, Nat.zero_le _, rfl⟩, [.cell 8 11 9 130 3], _, rfl, by simp [keep_zero]⟩
    rintro m σ ⟨k, rfl, hk, rfl⟩
    have hkl := keep_len (key := Wa.Wt.call) (l := s.wt.ws) (c := c) (k := k)
    by_cases hlt : k < s.wt.ws.length
    · obtain ⟨y, hy, e⟩ := at_lt hlt
      have wk := wrap_succ hlt (by omega)
      by_cases hc2 : y.call = c
      · have e1 := keep_yes hy hc2
        simp [hlt, e, hc2, wk]
        refine ⟨_, ?_, _, ⟨k + 1, rfl, hlt, rfl⟩, [], _, rfl, by simp [e1]⟩
        omega
      · have e1 := keep_no hy hc2
        simp [hlt, e, hc2]
        refine ⟨by omega, by kernel_rfl, ?_⟩
        simp [wk]
        refine ⟨_, ?_, _, ⟨k + 1, rfl, hlt, rfl⟩, [], _, rfl, by simp [e1]⟩
        omega
    obtain rfl : k = s.wt.ws.length := by omega
    rw [keep_end]
    have tk : List.take (s.wt.ws.filter fun x => x.call != c).length (List.map Wa.Wt.cs (s.wt.ws.filter fun x => x.call != c)) = List.map Wa.Wt.cs (s.wt.ws.filter fun x => x.call != c) := List.take_of_length_le (by simp)
    have he := result_m s 7 0
    simp at he
    have hK : cancelK s c = ({ s with wt := ⟨s.wt.most, s.wt.ws.filter fun x => x.call != c⟩ }, rs s 7 0, [], 0) := by rw [cancelK, hc, g1]; simp
    rw [hK]
    generalize (s.wt.ws.filter fun x => x.call != c) = W at tk ⊢
    simp [tk]
    refine effCall he ?_
    simp
    refine ⟨by kernel_rfl, ?_⟩
    refine vcRet_of [] ?_ rfl
    simp
  have n3 := role_not3 (s := s) g1
  cases g2 : s.ds.any (fun x => x.call == c)
  case false =>
    have n2 := role_not2 (s := s) g2
    cases g3 : s.ls.any (fun x => x.call == c)
    · have n1 := role_not1 (s := s) g3
      simp [n1, n2, n3]
      refine vcRet_of [] ?_ rfl
      simp [cancelK, hc, g1, g2, g3, bad, Rs.z]
    · have hr := role_one (s := s) g3
      simp [hr]
      refine vcRet_of [] ?_ rfl
      simp [cancelK, hc, g1, g2, g3, bad, Rs.z]
  have hr := role_two hf g2
  obtain ⟨i, x, hx, hxc⟩ := mem_keyed g2
  simp [hr]
  refine ⟨by omega, ?_⟩
  refine vc_loop (fun m σ => ∃ k : Nat, m = s.ds.length - k ∧ k ≤ s.ds.length ∧ (∀ j y, j < k → s.ds[j]? = some y → y.call = c → y.gone = false) ∧ σ = ⟨110, [(10, .i k), (2, .ptr 2 0), (4, .ptr 4 0), (5, .ptr 5 0), (8, .ptr 8 0), (1, .i c)],
    [(2, .box 31 s.cells), (4, .box 31 [.i 0, .i 0, .i 0, .b false, .i 0, .i 0, .i 0, PV.nil, PV.nil, PV.nil, .i 0, PV.nil]), (5, .box 36 [.i 0, .i 0, .i 0]),
     (8, .box 31 [.i s.back, .i s.max, .i s.now, .b s.shut, .i s.idle.most, .i s.idle.idle, .i s.idle.age, .d (Id.cl s.idle.cs), .d (ll s.ls), .rw 68 s.ds.length, .i s.wt.most, .d (Wa.wl s.wt.ws)]),
     (68, .row 66 2 ((markD s.ds c k).map Dl.dd) false)]⟩) ?_ ?_
  · exact ⟨_, _, ⟨0, rfl, Nat.zero_le _, fun j y hj => absurd hj (by omega), rfl⟩, [], _, rfl, by simp [mark_zero]⟩
  rintro m σ ⟨k, rfl, hk, i1, rfl⟩
  have hml := mark_len (l := s.ds) (c := c) (k := k)
  by_cases hlt : k < s.ds.length
  · obtain ⟨y, hy, e⟩ := at_lt hlt
    have wk := wrap_succ hlt (by omega)
    have hma := mark_at (c := c) hy
    have hmg : (markD s.ds c k)[k]'(by omega) = y := by rw [List.getElem?_eq_getElem (by omega)] at hma; exact Option.some.inj hma
    have hlt2 : k < (markD s.ds c k).length := by omega
    by_cases hc2 : y.call = c
    · have e1 := mark_succ (c := c) hy
      rw [if_pos hc2] at e1
      cases hg : y.gone
      · simp [hlt, hml, hmg, hc2, hg, wk]
        refine ⟨_, ?_, _, ⟨k + 1, rfl, hlt, fun j z hj hz hzc => ?_, rfl⟩, [], _, rfl, by simp [e1, List.map_set]⟩
        · omega
        · by_cases hjk : j = k
          · subst hjk; rw [hy] at hz; cases hz; exact hg
          · exact i1 j z (by omega) hz hzc
      · simp [hlt, hml, hmg, hc2, hg]
        refine vcRet_of [] ?_ rfl
        have hgx : (findD s.ds c).gone = true := by
          subst hc2
          rw [findD_at hf.f.du hy]; exact hg
        simp [cancelK, hc, g1, g2, hgx, bad, Rs.z]
    · have e1 := mark_same (c := c) hy hc2
      simp [hlt, hml, hmg, hc2, wk]
      refine ⟨_, ?_, _, ⟨k + 1, rfl, hlt, fun j z hj hz hzc => ?_, rfl⟩, [], _, rfl, by simp [e1]⟩
      · omega
      · by_cases hjk : j = k
        · subst hjk; rw [hy] at hz; cases hz; exact absurd hzc hc2
        · exact i1 j z (by omega) hz hzc
  obtain rfl : k = s.ds.length := by omega
  rw [mark_end]
  have hgx : (findD s.ds c).gone = false := by
    subst hxc
    rw [findD_at hf.f.du hx]
    exact i1 i x (lt_some hx) hx rfl
  have hK : cancelK s c = ({ s with ds := s.ds.map fun x => if x.call = c then ⟨c, true⟩ else x }, rs s 7 0, [], 0) := by rw [cancelK, hc, g1, g2, hgx]; simp
  rw [hK]
  have hln : (s.ds.map fun x => if x.call = c then (⟨c, true⟩ : Dl) else x).length = s.ds.length := by simp
  generalize (s.ds.map fun x => if x.call = c then (⟨c, true⟩ : Dl) else x) = W at hln ⊢
  have tk : List.take s.ds.length (List.map Dl.dd W) = List.map Dl.dd W := List.take_of_length_le (by simp; omega)
  have he := result_m s 7 0
  simp at he
  simp [hln, tk]
  refine effCall he ?_
  simp
  refine ⟨by kernel_rfl, ?_⟩
  refine vcRet_of [] ?_ rfl
  simp
end Go.Proofs.YtajjmhpdiikjhaaGreat.Po
