/- The reference: leases, asks. No condition. -/
import Derived.Test.YtajjmhpdiikjhaaGreatN8
namespace Go.Proofs.YtajjmhpdiikjhaaGreat.Po
set_option maxRecDepth 100000
open Go.RowKit

theorem result_m (s : Po) (k c : Int) : Meets Tryz.prog 86 [s.pv, .i k, .i c] [] (Ret (rs s k (if k = 7 then 0 else c)).pv) := by
  refine meetsH [] tbOk mixed Tryz.func86 pl86 rfl rfl ?_
  by_cases h : k = 7
  · simp [Tryz.ntmps86, h]
    refine vcRet_of [] ?_ rfl
    simp [rs]
  · simp [Tryz.ntmps86, h]
    refine vcRet_of [] ?_ rfl
    simp [rs, h]
theorem effect_m (s : Po) (k a c : Int) : Meets Tryz.prog 91 [s.pv, .i k, .i a, .i c] [] (Ret (.d (el [ef s k a c]))) := by
  refine meetsH [] tbOk mixed Tryz.func91 pl91 rfl rfl ?_
  simp [Tryz.ntmps91]
  exact vcRet_of [] (by simp [ef]) rfl
/-- .. as a row. -/
theorem effectR_m (s : Po) (k a c : Int) : Meets Tryz.prog 91 [s.pv, .i k, .i a, .i c] [] (fun r => r = ⟨.rw 2000000 1, [], [erow [ef s k a c]]⟩) := by
  refine meetsH [] tbOk mixed Tryz.func91 pl91 rfl rfl ?_
  simp [Tryz.ntmps91]
  exact vcRet_of [15] (by simp [ef]) rfl
def firstS (s : Po) : Po := { s with wt := ⟨s.wt.most, s.wt.ws.drop 1⟩ }
def firstC (s : Po) : Int := match s.wt.ws with
  | [] => 0
  | w :: _ => w.call
theorem first_m (s : Po) (hh : Held s) : Meets Tryz.prog 134 [s.pv] [] (Ret (.tup [(firstS s).pv, .i (firstC s), .b (decide (0 < s.wt.ws.length))])) := by
  have hw := hh.w
  refine meetsH [] tbOk mixed Tryz.func134 pl134 rfl rfl ?_
  cases e : s.wt.ws with
  | nil =>
    simp [Tryz.ntmps134, e]
    refine vcRet_of [] ?_ rfl
    simp [firstS, firstC, e]
  | cons w ws =>
    have hl : ws.length + 1 < 4294967290 := by rw [e] at hw; simpa using hw
    have h0 : ¬ ((ws.length : Int) + 1 = 0) := by omega
    have h1 : (1 : Int) ≤ (ws.length : Int) + 1 := by omega
    have h2 : (0 : Int) < (ws.length : Int) + 1 := by omega
    simp [Tryz.ntmps134, e, h0, h1, h2]
    refine ⟨by omega, by kernel_rfl, ?_⟩
    refine vcRet_of [] ?_ rfl
    simp [firstS, firstC, e]
theorem refIns_done {α : Type} {key : α → Int} {x y : α} : ∀ {l : List α}, (l.any fun z => decide (key x < key z)) = true → refIns key x (l ++ [y]) = refIns key x l ++ [y]
  | [], h => by simp at h
  | a :: l, h => by
    simp only [List.cons_append, refIns]
    by_cases hc : key x < key a
    · simp [hc]
    · simp only [hc, if_false]
      rw [refIns_done (l := l) (by simpa [hc] using h)]
      rfl
theorem refIns_end {α : Type} {key : α → Int} {x : α} : ∀ {l : List α}, (l.any fun z => decide (key x < key z)) = false → refIns key x l = l ++ [x]
  | [], _ => rfl
  | a :: l, h => by
    simp only [List.any_cons, Bool.or_eq_false_iff, decide_eq_false_iff_not] at h
    simp only [refIns, h.1, if_false]
    rw [refIns_end h.2]; rfl
theorem refIns_hit {α : Type} {key : α → Int} {x y : α} (hy : key x < key y) : ∀ {l : List α}, (l.any fun z => decide (key x < key z)) = false → refIns key x (l ++ [y]) = l ++ [x, y]
  | [], _ => by simp [refIns, hy]
  | a :: l, h => by
    simp only [List.any_cons, Bool.or_eq_false_iff, decide_eq_false_iff_not] at h
    simp only [List.cons_append, refIns, h.1, if_false]
    rw [refIns_hit hy h.2]
/-- The new one is in. -/
def doneK {α : Type} (key : α → Int) (x : α) (l : List α) (k : Nat) : Bool := (l.take k).any fun z => decide (key x < key z)
def accK {α : Type} (key : α → Int) (x : α) (l : List α) (k : Nat) : List α := if doneK key x l k then refIns key x (l.take k) else l.take k
section
variable {α : Type} {key : α → Int} {x y : α} {l : List α} {k : Nat}
theorem done_succ (hy : l[k]? = some y) : doneK key x l (k + 1) = (doneK key x l k || decide (key x < key y)) := by
  unfold doneK; rw [take_succ hy, List.any_append]; simp
theorem acc_in (hy : l[k]? = some y) (h : doneK key x l k = true) : accK key x l (k + 1) = accK key x l k ++ [y] := by
  rw [accK, accK, done_succ hy, h, Bool.true_or, if_pos rfl, if_pos rfl, take_succ hy, refIns_done h]
theorem acc_hit (hy : l[k]? = some y) (h : doneK key x l k = false) (hc : key x < key y) : accK key x l (k + 1) = accK key x l k ++ [x] ++ [y] := by
  rw [accK, accK, done_succ hy, h, Bool.false_or, decide_eq_true hc, if_pos rfl, if_neg (by simp), take_succ hy, refIns_hit hc h]
  simp
theorem acc_not (hy : l[k]? = some y) (h : doneK key x l k = false) (hc : ¬ key x < key y) : accK key x l (k + 1) = accK key x l k ++ [y] := by
  rw [accK, accK, done_succ hy, h, Bool.false_or, decide_eq_false hc, if_neg (by simp), if_neg (by simp), take_succ hy]
theorem acc_len : (accK key x l k).length ≤ k + 1 := by
  have hl : (l.take k).length ≤ k := by rw [List.length_take]; omega
  have : ∀ l : List α, (refIns key x l).length = l.length + 1 := by
    intro l
    induction l with
    | nil => rfl
    | cons a l ih => unfold refIns; split <;> simp [ih]
  unfold accK
  split
  · rw [this]; omega
  · omega
theorem acc_end_in (h : doneK key x l l.length = true) : accK key x l l.length = refIns key x l := by
  rw [accK, if_pos h, List.take_length]
theorem acc_end_out (h : doneK key x l l.length = false) : accK key x l l.length ++ [x] = refIns key x l := by
  rw [accK, if_neg (by rw [h]; simp), List.take_length]
  rw [doneK, List.take_length] at h
  rw [refIns_end h]
end
set_option maxHeartbeats 8000000 in
theorem refLease_m (s : Po) (hh : Held s) (x : Ls) : Meets Tryz.prog 87 [s.pv, x.pv] [] (Ret (Po.pv { s with ls := refIns Ls.call x s.ls })) := by
  have hl := hh.l
  refine meetsH [] tbOk mixed Tryz.func87 pl87 rfl rfl ?_
  simp [Tryz.ntmps87]
  refine vc_loop (fun n σ => ∃ k : Nat, n = s.ls.length - k ∧ k ≤ s.ls.length ∧ σ = ⟨49, [(7, .i k), (6, .b (doneK Ls.call x s.ls k)), (5, .rw 5 (accK Ls.call x s.ls k).length), (2, .ptr 2 0), (3, .ptr 3 0), (4, .ptr 4 0)],
    [(2, .box 31 s.cells), (3, .box 71 [.i x.call, .i x.conn, .i x.born]), (4, .box 31 [.i 0, .i 0, .i 0, .b false, .i 0, .i 0, .i 0, PV.nil, PV.nil, PV.nil, .i 0, PV.nil]), (5, .row 71 3 ((accK Ls.call x s.ls k).map Ls.dd) false)]⟩) ?_ ?_
  · exact ⟨_, _, ⟨0, rfl, Nat.zero_le _, rfl⟩, [.row 5 71 3], _, rfl, by simp [doneK, accK]⟩
  rintro n σ ⟨k, rfl, hk, rfl⟩
  have hal := acc_len (key := Ls.call) (x := x) (l := s.ls) (k := k)
  by_cases hlt : k < s.ls.length
  · obtain ⟨y, hy, e⟩ := at_lt hlt
    have wk := wrap_succ hlt (by omega)
    have hds := done_succ (key := Ls.call) (x := x) hy
    cases hd : doneK Ls.call x s.ls k
    · by_cases hc : x.call < y.call
      · have ha := acc_hit hy hd hc
        simp [hlt, e, hc]
        refine ⟨by kernel_rfl, by omega, by omega, ?_⟩
        simp [wk]
        refine ⟨_, ?_, _, ⟨k + 1, rfl, hlt, rfl⟩, [], _, rfl, by simp [hds, hd, hc, ha]⟩
        omega
      · have ha := acc_not hy hd hc
        simp [hlt, e, hc]
        refine ⟨by kernel_rfl, by omega, ?_⟩
        simp [wk]
        refine ⟨_, ?_, _, ⟨k + 1, rfl, hlt, rfl⟩, [], _, rfl, by simp [hds, hd, hc, ha]⟩
        omega
    · have ha := acc_in hy hd
      simp [hlt, e]
      refine ⟨by kernel_rfl, by omega, ?_⟩
      simp [wk]
      refine ⟨_, ?_, _, ⟨k + 1, rfl, hlt, rfl⟩, [], _, rfl, by simp [hds, hd, ha]⟩
      omega
  obtain rfl : k = s.ls.length := by omega
  cases hd : doneK Ls.call x s.ls s.ls.length
  · have ha := acc_end_out hd
    simp
    refine ⟨by omega, ?_⟩
    refine vcRet_of [] ?_ rfl
    simp [← ha]
    exact List.take_of_length_le (by simp)
  · have ha := acc_end_in hd
    simp
    refine vcRet_of [] ?_ rfl
    simp [← ha]
    exact List.take_of_length_le (by simp)
set_option maxHeartbeats 8000000 in
theorem refDial_m (s : Po) (hh : Held s) (x : Dl) : Meets Tryz.prog 88 [s.pv, x.pv] [] (Ret (Po.pv { s with ds := refIns Dl.call x s.ds })) := by
  have hl := hh.d
  refine meetsH [] tbOk mixed Tryz.func88 pl88 rfl rfl ?_
  simp [Tryz.ntmps88]
  refine vc_loop (fun n σ => ∃ k : Nat, n = s.ds.length - k ∧ k ≤ s.ds.length ∧ σ = ⟨49, [(7, .i k), (6, .b (doneK Dl.call x s.ds k)), (5, .rw 5 (accK Dl.call x s.ds k).length), (2, .ptr 2 0), (3, .ptr 3 0), (4, .ptr 4 0)],
    [(2, .box 31 s.cells), (3, .box 66 [.i x.call, .b x.gone]), (4, .box 31 [.i 0, .i 0, .i 0, .b false, .i 0, .i 0, .i 0, PV.nil, PV.nil, PV.nil, .i 0, PV.nil]), (5, .row 66 2 ((accK Dl.call x s.ds k).map Dl.dd) false)]⟩) ?_ ?_
  · exact ⟨_, _, ⟨0, rfl, Nat.zero_le _, rfl⟩, [.row 5 66 2], _, rfl, by simp [doneK, accK]⟩
  rintro n σ ⟨k, rfl, hk, rfl⟩
  have hal := acc_len (key := Dl.call) (x := x) (l := s.ds) (k := k)
  by_cases hlt : k < s.ds.length
  · obtain ⟨y, hy, e⟩ := at_lt hlt
    have wk := wrap_succ hlt (by omega)
    have hds := done_succ (key := Dl.call) (x := x) hy
    cases hd : doneK Dl.call x s.ds k
    · by_cases hc : x.call < y.call
      · have ha := acc_hit hy hd hc
        simp [hlt, e, hc]
        refine ⟨by kernel_rfl, by omega, by omega, ?_⟩
        simp [wk]
        refine ⟨_, ?_, _, ⟨k + 1, rfl, hlt, rfl⟩, [], _, rfl, by simp [hds, hd, hc, ha]⟩
        omega
      · have ha := acc_not hy hd hc
        simp [hlt, e, hc]
        refine ⟨by kernel_rfl, by omega, ?_⟩
        simp [wk]
        refine ⟨_, ?_, _, ⟨k + 1, rfl, hlt, rfl⟩, [], _, rfl, by simp [hds, hd, hc, ha]⟩
        omega
    · have ha := acc_in hy hd
      simp [hlt, e]
      refine ⟨by kernel_rfl, by omega, ?_⟩
      simp [wk]
      refine ⟨_, ?_, _, ⟨k + 1, rfl, hlt, rfl⟩, [], _, rfl, by simp [hds, hd, ha]⟩
      omega
  obtain rfl : k = s.ds.length := by omega
  cases hd : doneK Dl.call x s.ds s.ds.length
  · have ha := acc_end_out hd
    simp
    refine ⟨by omega, ?_⟩
    refine vcRet_of [] ?_ rfl
    simp [← ha]
    exact List.take_of_length_le (by simp)
  · have ha := acc_end_in hd
    simp
    refine vcRet_of [] ?_ rfl
    simp [← ha]
    exact List.take_of_length_le (by simp)
end Go.Proofs.YtajjmhpdiikjhaaGreat.Po
namespace Go.Proofs.YtajjmhpdiikjhaaGreat.Po
set_option maxRecDepth 100000
open Go.RowKit

theorem Form.held {s : Po} (h : Form s) : Held s := ⟨by have := h.ilen; omega, by have := h.llen; omega, by have := h.dlen; omega, by have := h.wlen; omega⟩
theorem refD_eq {l : List Dl} {x : Dl} (h : ∀ y ∈ l, y.call ≠ x.call) : refIns Dl.call x l = insD l x := refIns_eq h
theorem refL_eq {l : List Ls} {x : Ls} (h : ∀ y ∈ l, y.call ≠ x.call) : refIns Ls.call x l = insL l x := refIns_eq h
set_option maxHeartbeats 4000000 in
theorem refPass_m {s : Po} (h : Hole s) : Meets Tryz.prog 89 [s.pv] [] (Ret (.tup [(passS s).1.pv, .d (el (passS s).2)])) := by
  refine meetsH [] tbOk mixed Tryz.func89 pl89 rfl rfl ?_
  simp [Tryz.ntmps89]
  have hf := first_m s h.f.held
  simp at hf
  refine hf.mono ?_
  rintro _ rfl
  cases e : s.wt.ws with
  | nil =>
    simp
    refine vcRet_of [] ?_ rfl
    simp [passS, e]
  | cons w ws =>
    have h0 : (0 : Int) < (ws.length : Int) + 1 := by omega
    have hfs : firstS s = { s with wt := ⟨s.wt.most, ws⟩ } := by simp [firstS, e]
    have hfc : firstC s = w.call := by simp [firstC, e]
    have hhe : Held (firstS s) := by
      rw [hfs]
      have := h.f.held.w
      rw [e] at this
      exact ⟨h.f.held.i, h.f.held.l, h.f.held.d, by simp at this; show ws.length < _; omega⟩
    have hd := refDial_m (firstS s) hhe ⟨w.call, false⟩
    have hds : (firstS s).ds = s.ds := rfl
    rw [hds, refD_eq fun y hy => h.dw y hy w (by rw [e]; simp), hfs] at hd
    simp at hd
    have he := effect_m s 2 w.call 0
    simp [e] at he
    simp [hfs, hfc]
    refine effCall hd ?_
    simp
    refine effCall he ?_
    simp
    refine ⟨by kernel_rfl, ?_⟩
    refine vcRet_of [] ?_ rfl
    simp [passS, e]
theorem passS_len (s : Po) : (passS s).2.length ≤ 1 := by unfold passS; split <;> simp
set_option maxHeartbeats 8000000 in
theorem refGive_m {s : Po} (h : Hole s) {c b : Int} (re : Bool) (hb : 0 ≤ b ∧ b ≤ s.now) :
    Meets Tryz.prog 90 [s.pv, .i c, .i b, .b re] [] (Ret (.tup [(giveS s c b re).1.pv, .d (el (giveS s c b re).2)])) := by
  refine meetsH [] tbOk mixed Tryz.func90 pl90 rfl rfl ?_
  have hn := timeOk_iff.1 h.f.n.now
  have w1 := small_wrap (a := s.now - b) (by omega)
  have out : (s.shut = true ∨ s.idle.age ≤ s.now - b ∨ re = false) → giveS s c b re = ((passS s).1, ef s 11 0 c :: (passS s).2) := fun hg => by rw [giveS, if_pos hg]
  have hpl := passS_len s
  have hp := refPass_m h
  have he := effectR_m s 11 0 c
  by_cases h1 : s.shut = true
  · simp [h1] at hp he
    simp [Tryz.ntmps90, h1]
    refine hp.mono ?_
    rintro _ rfl
    simp
    refine effCallN he ?_
    simp
    refine ⟨by omega, by kernel_rfl, ?_⟩
    refine vcRet_of [] ?_ rfl
    simp [out (.inl h1), ef]
    exact List.take_of_length_le (by simp)
  by_cases h2 : s.idle.age ≤ s.now - b
  · simp [h1] at hp he
    simp [Tryz.ntmps90, h1, w1, h2]
    refine hp.mono ?_
    rintro _ rfl
    simp
    refine effCallN he ?_
    simp
    refine ⟨by omega, by kernel_rfl, ?_⟩
    refine vcRet_of [] ?_ rfl
    simp [out (.inr (.inl h2)), ef]
    exact List.take_of_length_le (by simp)
  cases re with
  | false =>
    simp [h1] at hp he
    simp [Tryz.ntmps90, h1, w1, h2]
    refine hp.mono ?_
    rintro _ rfl
    simp
    refine effCallN he ?_
    simp
    refine ⟨by omega, by kernel_rfl, ?_⟩
    refine vcRet_of [] ?_ rfl
    simp [out (.inr (.inr rfl)), ef]
    exact List.take_of_length_le (by simp)
  | true =>
    clear he hp
    simp [Tryz.ntmps90, h1, w1, h2]
    have hf := first_m s h.f.held
    simp [h1] at hf
    refine hf.mono ?_
    rintro _ rfl
    cases e : s.wt.ws with
    | nil =>
      simp
      refine ⟨by have := h.f.ilen; omega, by have := h.f.ilen; omega, by kernel_rfl, ?_⟩
      refine vcRet_of [] ?_ rfl
      simp [giveS, e, h1, h2]
      exact List.take_of_length_le (by simp)
    | cons w ws =>
      have h0 : (0 : Int) < (ws.length : Int) + 1 := by omega
      have hfs : firstS s = { s with wt := ⟨s.wt.most, ws⟩ } := by simp [firstS, e]
      have hfc : firstC s = w.call := by simp [firstC, e]
      have hhe : Held (firstS s) := by
        rw [hfs]
        have := h.f.held.w
        rw [e] at this
        exact ⟨h.f.held.i, h.f.held.l, h.f.held.d, by simp at this; show ws.length < _; omega⟩
      have hd := refLease_m (firstS s) hhe ⟨w.call, c, b⟩
      have hds : (firstS s).ls = s.ls := rfl
      rw [hds, refL_eq fun y hy => h.lw y hy w (by rw [e]; simp), hfs] at hd
      simp [h1] at hd
      have he := effect_m s 1 w.call c
      simp [e, h1] at he
      simp [hfs, hfc, h1]
      refine effCall hd ?_
      simp
      refine effCall he ?_
      simp
      refine ⟨by kernel_rfl, ?_⟩
      refine vcRet_of [] ?_ rfl
      simp [giveS, e, h1, h2]
end Go.Proofs.YtajjmhpdiikjhaaGreat.Po
namespace Go.Proofs.YtajjmhpdiikjhaaGreat.Po
set_option maxRecDepth 100000
open Go.RowKit

set_option maxHeartbeats 16000000 in
theorem refAsk_m (s : Po) (hh : Held s) (c d : Int) : Meets Tryz.prog 37 [s.pv, .i c, .i d] [] (Ret (.tup [(ask s c d).1.pv, (ask s c d).2.1.pv, .i (ask s c d).2.2.2])) := by
  refine meetsH [(77, [(false, 3)]), (129, [(false, 3)])] tbOk mixed Tryz.func37 pl37 rfl rfl ?_
  simp [Tryz.ntmps37]
  have hk := refCheck_m s hh
  simp at hk
  refine hk.mono ?_
  rintro _ rfl
  by_cases hf : Fine s
  case neg =>
    have h6 : chk s = 6 := chk_bad hf
    have ho : ask s c d = bad s 6 := if_neg hf
    simp [h6]
    refine vcRet_of [] ?_ rfl
    simp [ho, bad, Rs.z]
  have h0 : chk s = 0 := if_pos hf
  have ho : ask s c d = askK s c d := if_pos hf
  rw [ho]
  clear ho
  simp [h0]
  refine (refNumber_m c).mono ?_
  rintro _ rfl
  cases hc : numOk c
  · simp
    refine vcRet_of [] ?_ rfl
    simp [askK, hc, bad, Rs.z]
  simp
  refine (refTime_m d).mono ?_
  rintro _ rfl
  cases hd : timeOk d
  · simp
    refine vcRet_of [] ?_ rfl
    simp [askK, hc, hd, bad, Rs.z]
  simp
  have hw := where_m s hh c
  simp at hw
  refine hw.mono ?_
  rintro _ rfl
  by_cases h8 : role s c = 0
  case neg =>
    simp [h8]
    refine vcRet_of [] ?_ rfl
    simp [askK, hc, hd, h8, bad, Rs.z]
  have k0 : askK s c d = if s.shut = true then (s, rs s 6 0, [], 0)
      else if d ≤ s.now then (s, rs s 5 0, [], 0)
      else if 0 < s.idle.cs.length then
        ({ s with idle := ⟨s.idle.most, s.idle.idle, s.idle.age, s.idle.cs.take (s.idle.cs.length - 1)⟩, ls := insL s.ls ⟨c, (s.idle.cs.getD (s.idle.cs.length - 1) default).conn, (s.idle.cs.getD (s.idle.cs.length - 1) default).born⟩ }, rs s 1 (s.idle.cs.getD (s.idle.cs.length - 1) default).conn, [], 0)
      else if (s.ls.length : Int) + s.ds.length < s.max then ({ s with ds := insD s.ds ⟨c, false⟩ }, rs s 2 0, [], 0)
      else if (s.wt.ws.length : Int) < s.wt.most then ({ s with wt := ⟨s.wt.most, s.wt.ws ++ [⟨c, s.now, d⟩]⟩ }, rs s 3 0, [], 0)
      else (s, rs s 4 0, [], 0) := by
    simp only [askK, hc, hd, h8]; simp
  rw [k0]
  clear k0
  obtain ⟨r1, r2, r3⟩ := role_zero.1 h8
  have hil := hf.f.ilen
  by_cases hs : s.shut = true
  · have he := result_m s 6 0
    simp [hs] at he
    simp [h8, hs]
    refine effCall he ?_
    simp
    refine ⟨by kernel_rfl, ?_⟩
    refine vcRet_of [] ?_ rfl
    simp
  by_cases hl : d ≤ s.now
  · have he := result_m s 5 0
    simp [hs] at he
    simp [h8, hs, hl]
    refine effCall he ?_
    simp
    refine ⟨by kernel_rfl, ?_⟩
    refine vcRet_of [] ?_ rfl
    simp
  by_cases hi : 0 < s.idle.cs.length
  · obtain ⟨x, hx, e, es⟩ := getLast_split hi
    rw [e]
    have hlt : s.idle.cs.length - 1 < s.idle.cs.length := by omega
    have ex : s.idle.cs[s.idle.cs.length - 1] = x := by rw [List.getElem?_eq_getElem hlt] at hx; exact Option.some.inj hx
    have hwr : IntKind.i64.wrap ((s.idle.cs.length : Int) - 1) = ((s.idle.cs.length - 1 : Nat) : Int) := by rw [IntWalk.i64_in _ (by omega)]; omega
    have hle : s.idle.cs.length - 1 ≤ s.idle.cs.length := by omega
    have h4 : s.idle.cs.length - 1 < 4294967296 := by omega
    have hm : min (s.idle.cs.length - 1) s.idle.cs.length = s.idle.cs.length - 1 := by omega
    have tk : List.take (s.idle.cs.length - 1) (List.take (s.idle.cs.length - 1) (List.map Id.Cn.ds s.idle.cs)) = List.take (s.idle.cs.length - 1) (List.map Id.Cn.ds s.idle.cs) := by rw [List.take_take, Nat.min_self]
    have hhi : Held { s with idle := ⟨s.idle.most, s.idle.idle, s.idle.age, s.idle.cs.take (s.idle.cs.length - 1)⟩ } := ⟨by show (s.idle.cs.take _).length < _; rw [List.length_take]; omega, hh.l, hh.d, hh.w⟩
    have hls := refLease_m { s with idle := ⟨s.idle.most, s.idle.idle, s.idle.age, s.idle.cs.take (s.idle.cs.length - 1)⟩ } hhi ⟨c, x.conn, x.born⟩
    simp only [] at hls
    rw [refL_eq (l := s.ls) (x := ⟨c, x.conn, x.born⟩) r1] at hls
    simp [hs] at hls
    have he := result_m { s with idle := ⟨s.idle.most, s.idle.idle, s.idle.age, s.idle.cs.take (s.idle.cs.length - 1)⟩ } 1 x.conn
    simp [hs] at he
    simp [h8, hs, hl, hi, hwr, hlt, hle, ex, h4, hm, tk]
    refine effCall hls ?_
    simp
    refine effCall he ?_
    simp
    refine ⟨by kernel_rfl, ?_⟩
    refine vcRet_of [] ?_ rfl
    simp [rs]
  have w1 : IntKind.i64.wrap ((s.ls.length : Int) + s.ds.length) = (s.ls.length : Int) + s.ds.length := IntWalk.i64_in _ (by have := hf.f.llen; have := hf.f.dlen; omega)
  by_cases h5 : (s.ls.length : Int) + s.ds.length < s.max
  · have hd := refDial_m s hh ⟨c, false⟩
    rw [refD_eq (x := ⟨c, false⟩) r2] at hd
    simp [hs] at hd
    have he := result_m s 2 0
    simp [hs] at he
    simp [h8, hs, hl, hi, w1, h5]
    refine effCall hd ?_
    simp
    refine effCall he ?_
    simp
    refine ⟨by kernel_rfl, ?_⟩
    refine vcRet_of [] ?_ rfl
    simp [rs]
  have hwl := hf.f.wlen
  by_cases h6 : (s.wt.ws.length : Int) < s.wt.most
  · have he := result_m { s with wt := ⟨s.wt.most, s.wt.ws ++ [⟨c, s.now, d⟩]⟩ } 3 0
    simp [hs] at he
    have tk : List.take (s.wt.ws.length + 1) (List.map Wa.Wt.cs s.wt.ws ++ [[D.v (.int .i64 c), D.v (.int .i64 s.now), D.v (.int .i64 d)]]) = List.map Wa.Wt.cs s.wt.ws ++ [[D.v (.int .i64 c), D.v (.int .i64 s.now), D.v (.int .i64 d)]] := List.take_of_length_le (by simp)
    simp [h8, hs, hl, hi, w1, h5, h6, -vc_drawn]
    simp [-vc_seq]
    refine ⟨by omega, by omega, by kernel_rfl, ?_⟩
    simp [tk]
    refine effCall he ?_
    simp
    refine ⟨by kernel_rfl, ?_⟩
    refine vcRet_of [] ?_ rfl
    simp [rs]
  · have he := result_m s 4 0
    simp [hs] at he
    simp [h8, hs, hl, hi, w1, h5, h6]
    refine effCall he ?_
    simp
    refine ⟨by kernel_rfl, ?_⟩
    refine vcRet_of [] ?_ rfl
    simp [rs]
end Go.Proofs.YtajjmhpdiikjhaaGreat.Po
