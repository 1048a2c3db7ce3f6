/- The collector. No condition. -/
import Derived.Test.YtplooifpgmlofaaGreatN13
namespace Go.Proofs.YtplooifpgmlofaaGreat
open Go.RowKit
open Lo (Sy Lk Qu onLock onQueue addS lockF unlockF rlockF runlockF sendF recvF shutF recvV recvB thereS chk Fits)

@[simp] def runK (p : List Int) : List D := [intD p]
@[simp] def runsK (l : List (List Int)) : MObj := .row 24 1 (l.map runK) false
@[simp] def plOc (x : Sx) (A : List Int) (n kb kt kw kr : Nat) : MObj := .box 48 [.d (Lo.lks x.s.locks), .d (Lo.qus x.s.queues), .d (Lo.il x.s.groups), .d (prgsD x.ps), .ptr kb 0, .rw kt x.ps.length, .rw kw x.ps.length, .d (intD A), .rw kr n]
@[simp] def plEc (x : Sx) (q : Pl) (A : List Int) (L : List (List Int)) : List MObj := [plOc x A L.length 1000001 1000002 1000003 1000004, bnO q.b x.ps 1000005, tsO q.ts, wsO q.ws, runsK L, rcO q.b]
inductive EnC (x : Sx) (q : Pl) (A : List Int) (L : List (List Int)) : Nat → Sta → Prop
 | mk (k : Nat) (hk : k ≤ x.ps.length) : EnC x q A L (x.ps.length - k) ⟨51, [(4, .i k), (3, .rw 3 (enTo q k).length), (0, .ptr 1000000 0)], (3, .row 3 1 ((enTo q k).map intC) false) :: extMem 1000000 (plEc x q A L)⟩
set_option maxRecDepth 100000 in
set_option maxHeartbeats 2000000 in
theorem cEnabled_m (A : List Int) (L : List (List Int)) (x : Sx) (hx : SxOk x) (q : Pl) (m : Nat) (hq : PlOk x q m) : Meets Tryz.prog 52 [.ptr 1000000 0] (plEc x q A L) (fun r => r = ⟨.d (intD (enTo q x.ps.length)), plEc x q A L, []⟩) := by
 have h16 := hx.ps.many
 refine meets tbROk mixed Tryz.func52 pl52 rfl rfl ?_
 simp [Tryz.ntmps52]
 refine vc_loop (EnC x q A L) ⟨_, _, .mk 0 (Nat.zero_le _), [.row 3 3 1], _, rfl, by simp [extMem, enTo]⟩ ?_
 rintro n σ ⟨k, hk⟩
 by_cases hlt : k < x.ps.length
 ·obtain ⟨w, hw, e⟩ := at_lt (show k < q.ws.length by rw [hq.wn]; exact hlt)
  obtain ⟨t, ht, e2⟩ := at_lt (show k < q.ts.length by rw [hq.tn]; exact hlt)
  have hkw : k < q.ws.length := by rw [hq.wn]; exact hlt
  have hkt : k < q.ts.length := by rw [hq.tn]; exact hlt
  have hle := enTo_le q k
  have hw7 := hq.ws w (List.mem_of_getElem? hw)
  have hen : enTo q (k + 1) = if canX q.b w then enTo q k ++ [((k : Int) + 1)] else enTo q k := by rw [enTo, hw]
  have hlp : x.ps.length < 4294967296 := by omega
  by_cases h0 : w.kind = 0
  ·have hc : canX q.b w = true := by simp [canX, h0]
   rw [if_pos hc] at hen
   simp [hlt, hkw, e, h0, extMem, wrap_succ hlt hlp]
   refine ⟨by kernel_rfl, by omega, ?_⟩
   exact ⟨x.ps.length - (k + 1), by omega, _, .mk (k + 1) hlt, [], _, rfl, by simp [extMem, hen]⟩
  ·by_cases h2 : w.kind = 2
   ·have hc : canX q.b w = false := by simp [canX, h2]
    rw [if_neg (by rw [hc]; decide)] at hen
    simp [hlt, hkw, e, h2, extMem, wrap_succ hlt hlp]
    refine ⟨by kernel_rfl, ?_⟩
    exact ⟨x.ps.length - (k + 1), by omega, _, .mk (k + 1) hlt, [], _, rfl, by simp [extMem, hen]⟩
   ·have hc : canX q.b w = enabledB q.b w := by simp [canX, h0, h2]
    rw [hc] at hen
    have hcall := benabled_m q.b (fits_chk hq.chk) hq.chk x.ps t w hw7
    simp [hlt, hkw, hkt, e, e2, h0, h2, extMem]
    refine effCall hcall ?_
    cases hb : enabledB q.b w
    ·rw [if_neg (by rw [hb]; decide)] at hen
     simp [wrap_succ hlt hlp]
     refine ⟨by kernel_rfl, ?_⟩
     exact ⟨x.ps.length - (k + 1), by omega, _, .mk (k + 1) hlt, [], _, rfl, by simp [extMem, hen]⟩
    ·rw [if_pos hb] at hen
     simp [wrap_succ hlt hlp]
     refine ⟨by kernel_rfl, by omega, ?_⟩
     exact ⟨x.ps.length - (k + 1), by omega, _, .mk (k + 1) hlt, [], _, rfl, by simp [extMem, hen]⟩
 ·obtain rfl : k = x.ps.length := by omega
  simp [extMem]
  refine vcRet_of [] ?_ rfl
  simp
  rw [List.take_of_length_le (by simp)]
theorem cDone_m (A : List Int) (L : List (List Int)) (x : Sx) (hx : SxOk x) (q : Pl) (m : Nat) (hq : PlOk x q m) : Meets Tryz.prog 74 [.ptr 1000000 0] (plEc x q A L) (fun r => r = ⟨.b (doneX q), plEc x q A L, []⟩) := by
 have h16 := hx.ps.many
 refine meets tbROk mixed Tryz.func74 pl74 rfl rfl ?_
 simp [Tryz.ntmps74]
 refine vc_loop (fun n σ => ∃ k : Nat, n = x.ps.length - k ∧ k ≤ x.ps.length ∧ noneTo (fun w : Wa => !decide (w.kind = 2)) q.ws k ∧ σ = ⟨22, [(3, .i k), (0, .ptr 1000000 0)], extMem 1000000 (plEc x q A L)⟩) ⟨_, _, ⟨0, rfl, Nat.zero_le _, noneTo_zero _ _, rfl⟩, [], _, rfl, by simp⟩ ?_
 rintro n σ ⟨k, rfl, hk, hn, rfl⟩
 by_cases hlt : k < x.ps.length
 ·have hkw : k < q.ws.length := by rw [hq.wn]; exact hlt
  obtain ⟨w, hw, e⟩ := at_lt hkw
  by_cases h2 : w.kind = 2
  ·simp [hlt, hkw, e, h2, extMem, wrap_succ hlt (show x.ps.length < 4294967296 by omega)]
   exact ⟨_, by omega, _, ⟨k + 1, rfl, hlt, noneTo_succ hn hw (by simp [h2]), rfl⟩, [], _, rfl, by simp⟩
  ·simp [hlt, hkw, e, h2, extMem]
   refine vcRet_of [] ?_ rfl
   have : doneX q = false := by
    unfold doneX
    rw [List.all_eq_false]
    exact ⟨w, List.mem_of_getElem? hw, by simp [h2]⟩
   simp [this]
 ·obtain rfl : k = x.ps.length := by omega
  simp [extMem]
  refine vcRet_of [] ?_ rfl
  have : doneX q = true := allTo _ hn hq.wn.symm
  simp [this]
set_option maxRecDepth 100000 in
theorem cFoot_m (A : List Int) (L : List (List Int)) (x : Sx) (hx : SxOk x) (q : Pl) (m : Nat) (hq : PlOk x q m) (t : Nat) (ht : 1 ≤ t ∧ t ≤ x.ps.length) : Meets Tryz.prog 29 [.ptr 1000000 0, .i t] (plEc x q A L) (fun r => r = ⟨.d (fpD (footX x q t)), plEc x q A L, []⟩) := by
 have h16 := hx.ps.many
 obtain ⟨i, rfl⟩ : ∃ i, t = i + 1 := ⟨t - 1, by omega⟩
 have hin : i < x.ps.length := by omega
 have hkt : i < q.ts.length := by rw [hq.tn]; exact hin
 obtain ⟨k, hk, e⟩ := at_lt hkt
 obtain ⟨hid, hkind, hka, pc, hpc, hpl⟩ := hq.ts i k hk
 obtain ⟨l, hl, e2⟩ := at_lt hin
 have hgd : x.ps.getD i [] = l := by rw [List.getD_eq_getElem?_getD, hl]; rfl
 rw [hgd] at hpl
 have hfoot : footX x q ((i : Int) + 1) = match l[pc]? with
   | some y => usesI y
   | none => [] := by
  unfold footX
  rw [show (((i : Int) + 1) - 1).toNat = i by omega, hk]
  dsimp only
  rw [hkind, hpc, Int.toNat_natCast, Int.toNat_natCast, hgd]
  rfl
 have n1 : ¬ ((i : Int) + 1 < 1) := by omega
 have n2 : ¬ ((x.ps.length : Int) < (i : Int) + 1) := by omega
 have hl60 := hx.ps.len l (List.mem_of_getElem? hl)
 refine meets tbROk mixed Tryz.func29 pl29 rfl rfl ?_
 rw [show (((i + 1 : Nat) : Int)) = (i : Int) + 1 by omega, hfoot]
 have hw : IntKind.i64.wrap ((i : Int) + 1 - 1) = i := by rw [show (i : Int) + 1 - 1 = i by omega]; exact wrap_in (by omega)
 have hw' : IntKind.i64.wrap (i : Int) = i := wrap_in (by omega)
 by_cases hlt : pc < l.length
 ·obtain ⟨y, hy, e3⟩ := at_lt hlt
  rw [hy]
  have hnl : ¬ l.length ≤ pc := by omega
  simp [Tryz.ntmps29, n1, n2, hw', hkt, e, hkind, hpc, hin, e2, hlt, hnl, e3]
  refine ⟨by kernel_rfl, (uses_m y).mono ?_⟩
  rintro _ rfl
  simp
  refine vcRet_of [] ?_ rfl
  simp
 ·rw [List.getElem?_eq_none (by omega)]
  have hnl : l.length ≤ pc := by omega
  simp [Tryz.ntmps29, n1, n2, hw', hkt, e, hkind, hpc, hin, e2, hnl]
  refine ⟨by kernel_rfl, vcRet_of [] ?_ rfl⟩
  simp
inductive PlRc (A : List Int) (L : List (List Int)) (x : Sx) (v : PV) (q : Pl) : Res → Prop
 | mk (g : Bool) : PlRc A L x v q ⟨v, [plOc x A L.length 1000001 1000002 1000003 1000004, bnO q.b x.ps 1000005, tsO q.ts, wsO q.ws, runsK L, rcG g q.b], []⟩
set_option maxRecDepth 100000 in
set_option maxHeartbeats 2000000 in
theorem cStep_m (A : List Int) (L : List (List Int)) (x : Sx) (hx : SxOk x) (q : Pl) (m : Nat) (hq : PlOk x q m) (hm : m ≤ 1000) (t : Nat) (ht : 1 ≤ t ∧ t ≤ x.ps.length) : Meets Tryz.prog 30 [.ptr 1000000 0, .i t] (plEc x q A L)
  (PlRc A L x unitV (stepX x q t)) := by
 have h16 := hx.ps.many
 have hrs := hq.rs
 obtain ⟨i, rfl⟩ : ∃ i, t = i + 1 := ⟨t - 1, by omega⟩
 have hin : i < x.ps.length := by omega
 have hkt : i < q.ts.length := by rw [hq.tn]; exact hin
 have hkw : i < q.ws.length := by rw [hq.wn]; exact hin
 obtain ⟨k, hk, e⟩ := at_lt hkt
 obtain ⟨hid, hkind, hka, pc, hpc, hpl⟩ := hq.ts i k hk
 obtain ⟨l, hl, e2⟩ := at_lt hin
 have hgd : x.ps.getD i [] = l := by rw [List.getD_eq_getElem?_getD, hl]; rfl
 rw [hgd] at hpl
 have n1 : (1 : Int) ≤ (i : Int) + 1 := by omega
 have n2 : (i : Int) + 1 ≤ x.ps.length := by omega
 have hw : IntKind.i64.wrap ((i : Int) + 1 - 1) = i := by rw [show (i : Int) + 1 - 1 = i by omega]; exact wrap_in (by omega)
 have hw' : IntKind.i64.wrap (i : Int) = i := wrap_in (by omega)
 have hst : stepX x q ((i : Int) + 1) = ⟨(stepB q.b x.ps k).1, q.ts.set i (stepB q.b x.ps k).2.1, q.ws.set i (stepB q.b x.ps k).2.2⟩ := by
  unfold stepX
  rw [show (((i : Int) + 1) - 1).toNat = i by omega, hk]
 have hcall := bstep_m q.b (fits_chk hq.chk) (by omega) x.ps hx.ps k i hkind pc hpc l hl hpl (.inr hka)
 rw [show (((i + 1 : Nat) : Int)) = (i : Int) + 1 by omega, hst]
 obtain ⟨b', k', w', hS⟩ : ∃ b' k' w', stepB q.b x.ps k = (b', k', w') := ⟨_, _, _, rfl⟩
 rw [hS] at hcall ⊢
 simp only at hcall ⊢
 refine meetsP [] tbROk mixed Tryz.func30 pl30 rfl rfl ?_
 simp [Tryz.ntmps30, n1, n2, hw', hkt, e]
 have hi : List.idxOf 1000005 [1000001, 1000005] = 1 := rfl
 rw [hi]
 refine ⟨hin, effCallN hcall ?_⟩
 cases hg : grewS q.b x.ps k
 ·simp
  refine ⟨hin, hkt, hin, hkw, by kernel_rfl, vcRet_of [] ?_ (.mk false)⟩
  simp
 ·simp
  refine ⟨hin, hkt, hin, hkw, by kernel_rfl, vcRet_of [] ?_ (.mk true)⟩
  simp
@[simp] def plNc (x : Sx) (A : List Int) (n kr : Nat) : MObj := .box 48 [.d (Lo.lks x.s.locks), .d (Lo.qus x.s.queues), .d (Lo.il x.s.groups), .d (prgsD x.ps), .d (.v (.pointer none)), .d (.v (.slice none 0 0)), .d (.v (.slice none 0 0)), .d (intD A), .rw kr n]
inductive StIc (A : List Int) (L : List (List Int)) (x : Sx) : Nat → Sta → Prop
 | mk (k : Nat) (hk : k ≤ x.ps.length) : StIc A L x (x.ps.length - k) ⟨73, [(2, .i k), (0, .ptr 1000000 0)],
  [(19, bnO ⟨x.s, []⟩ x.ps 902), (900, tsO (startTo ⟨x.s, []⟩ x.ps k).ts), (901, wsO (startTo ⟨x.s, []⟩ x.ps k).ws), (902, rcO ⟨x.s, []⟩), (1000000, .box 48 [.d (Lo.lks x.s.locks), .d (Lo.qus x.s.queues), .d (Lo.il x.s.groups), .d (prgsD x.ps), .ptr 19 0, .rw 900 k, .rw 901 k, .d (intD A), .rw 1000001 L.length]), (1000001, runsK L)]⟩
set_option maxRecDepth 100000 in
set_option maxHeartbeats 2000000 in
theorem cStart0_m (A : List Int) (L : List (List Int)) (x : Sx) (hx : SxOk x) : Meets Tryz.prog 28 [.ptr 1000000 0] [plNc x A L.length 1000001, runsK L] (fun r => r = ⟨unitV, [plOc x A L.length 2000000 2000001 2000002 1000001, runsK L], [bnO (startX x).b x.ps 2000003, tsO (startX x).ts, wsO (startX x).ws, rcO (startX x).b]⟩) := by
 have h16 := hx.ps.many
 refine meetsP [] tbROk mixed Tryz.func28 pl28 rfl rfl ?_
 have hnew : Meets Tryz.prog 20 [x.s.pv, .d (prgsD x.ps)] [] (fun r => r = ⟨.tup [.ptr 2000000 0, .i 0], [], [.box 115 [.d (Lo.lks x.s.locks), .d (Lo.qus x.s.queues), .d (Lo.il x.s.groups), .i 0, .d (prgsD x.ps), .d (.v (.slice none 0 0))]]⟩) := by
  refine (newBench_m x.s (fits_chk hx.chk).wide x.ps).mono ?_
  rintro _ (h | ⟨e, h, h0⟩)
  ·rfl
  ·rw [newE_ok hx] at h; exact absurd h.symm h0
 simp [Tryz.ntmps28]
 refine effCall (Lo.copyD_m x.s (fits_chk hx.chk)) ?_
 simp
 refine effCallN hnew ?_
 simp
 refine ⟨by kernel_rfl, ?_⟩
 refine vc_loop (StIc A L x) ⟨_, _, .mk 0 (Nat.zero_le _), [.cell 1000000 5 900 128 7, .cell 1000000 6 901 130 3, .cell 19 5 902 149 3], _, rfl, by simp [startTo]⟩ ?_
 rintro n σ ⟨k, hk⟩
 by_cases hlt : k < x.ps.length
 ·obtain ⟨l, hl, e⟩ := at_lt hlt
  obtain ⟨tl, wl⟩ := startTo_len ⟨x.s, []⟩ x.ps k
  have hw1 : IntKind.i64.wrap ((k : Int) + 1) = (k : Int) + 1 := wrap_in (by omega)
  obtain ⟨k', w', hS⟩ : ∃ k' w', stepB ⟨x.s, []⟩ x.ps ⟨(k : Int) + 1, k, 0, 0⟩ = (⟨x.s, []⟩, k', w') := by
   have := start_b (x := x) k hlt
   generalize stepB ⟨x.s, []⟩ x.ps ⟨(k : Int) + 1, k, 0, 0⟩ = z at this
   obtain ⟨z1, z2, z3⟩ := z
   exact ⟨z2, z3, by rw [show z1 = _ from this]⟩
  have hgr : grewS ⟨x.s, []⟩ x.ps ⟨(k : Int) + 1, k, 0, 0⟩ = false := by
   unfold grewS
   dsimp only
   rw [Int.toNat_natCast, hl]
   rfl
  have hstep := bstep_m ⟨x.s, []⟩ (fits_chk hx.chk) (by simp) x.ps hx.ps ⟨(k : Int) + 1, k, 0, 0⟩ k rfl 0 rfl l hl (Nat.zero_le _) (.inl rfl)
  rw [hS, hgr] at hstep
  have hts : (startTo ⟨x.s, []⟩ x.ps (k + 1)).ts = (startTo ⟨x.s, []⟩ x.ps k).ts ++ [k'] := by simp [startTo, hS]
  have hws : (startTo ⟨x.s, []⟩ x.ps (k + 1)).ws = (startTo ⟨x.s, []⟩ x.ps k).ws ++ [w'] := by simp [startTo, hS]
  simp only [bnO, rcO, rcG, Tk.pv, waP, Bool.false_eq_true, if_false] at hstep
  simp [hlt, hw1]
  refine hstep.mono ?_
  rintro _ rfl
  simp [tl, wl]
  refine ⟨by omega, by kernel_rfl, x.ps.length - (k + 1), by omega, _, .mk (k + 1) hlt, [], _, rfl, by simp [hts, hws, hw1]⟩
 ·obtain rfl : k = x.ps.length := by omega
  simp
  refine vcRet_of [19, 900, 901, 902] ?_ rfl
  have hsx : startX x = startTo ⟨x.s, []⟩ x.ps x.ps.length := rfl
  have hb := startTo_b ⟨x.s, []⟩ x.ps x.ps.length
  simp [hsx, hb]
  exact ⟨⟨rfl, rfl⟩, rfl⟩
inductive StJc (A : List Int) (L : List (List Int)) (x : Sx) (q : Pl) : Nat → Sta → Prop
 | mk (k : Nat) (hk : k ≤ x.ps.length) : StJc A L x q (x.ps.length - k) ⟨73, [(2, .i k), (0, .ptr 1000000 0)],
  [(19, bnO ⟨x.s, []⟩ x.ps 902), (900, tsO (startTo ⟨x.s, []⟩ x.ps k).ts), (901, wsO (startTo ⟨x.s, []⟩ x.ps k).ws), (902, rcO ⟨x.s, []⟩), (1000000, .box 48 [.d (Lo.lks x.s.locks), .d (Lo.qus x.s.queues), .d (Lo.il x.s.groups), .d (prgsD x.ps), .ptr 19 0, .rw 900 k, .rw 901 k, .d (intD A), .rw 1000004 L.length]), (1000001, bnO q.b x.ps 1000005), (1000002, tsO q.ts), (1000003, wsO q.ws), (1000004, runsK L), (1000005, rcO q.b)]⟩
set_option maxRecDepth 100000 in
set_option maxHeartbeats 2000000 in
theorem cStart1_m (A : List Int) (L : List (List Int)) (x : Sx) (hx : SxOk x) (q : Pl) : Meets Tryz.prog 28 [.ptr 1000000 0] (plEc x q A L) (fun r => r = ⟨unitV, [plOc x A L.length 2000000 2000001 2000002 1000004, bnO q.b x.ps 1000005, tsO q.ts, wsO q.ws, runsK L, rcO q.b], [bnO (startX x).b x.ps 2000003, tsO (startX x).ts, wsO (startX x).ws, rcO (startX x).b]⟩) := by
 have h16 := hx.ps.many
 refine meetsP [] tbROk mixed Tryz.func28 pl28 rfl rfl ?_
 have hnew : Meets Tryz.prog 20 [x.s.pv, .d (prgsD x.ps)] [] (fun r => r = ⟨.tup [.ptr 2000000 0, .i 0], [], [.box 115 [.d (Lo.lks x.s.locks), .d (Lo.qus x.s.queues), .d (Lo.il x.s.groups), .i 0, .d (prgsD x.ps), .d (.v (.slice none 0 0))]]⟩) := by
  refine (newBench_m x.s (fits_chk hx.chk).wide x.ps).mono ?_
  rintro _ (h | ⟨e, h, h0⟩)
  ·rfl
  ·rw [newE_ok hx] at h; exact absurd h.symm h0
 simp [Tryz.ntmps28]
 refine effCall (Lo.copyD_m x.s (fits_chk hx.chk)) ?_
 simp
 refine effCallN hnew ?_
 simp
 refine ⟨by kernel_rfl, ?_⟩
 refine vc_loop (StJc A L x q) ⟨_, _, .mk 0 (Nat.zero_le _), [.cell 1000000 5 900 128 7, .cell 1000000 6 901 130 3, .cell 19 5 902 149 3], _, rfl, by simp [startTo]⟩ ?_
 rintro n σ ⟨k, hk⟩
 by_cases hlt : k < x.ps.length
 ·obtain ⟨l, hl, e⟩ := at_lt hlt
  obtain ⟨tl, wl⟩ := startTo_len ⟨x.s, []⟩ x.ps k
  have hw1 : IntKind.i64.wrap ((k : Int) + 1) = (k : Int) + 1 := wrap_in (by omega)
  obtain ⟨k', w', hS⟩ : ∃ k' w', stepB ⟨x.s, []⟩ x.ps ⟨(k : Int) + 1, k, 0, 0⟩ = (⟨x.s, []⟩, k', w') := by
   have := start_b (x := x) k hlt
   generalize stepB ⟨x.s, []⟩ x.ps ⟨(k : Int) + 1, k, 0, 0⟩ = z at this
   obtain ⟨z1, z2, z3⟩ := z
   exact ⟨z2, z3, by rw [show z1 = _ from this]⟩
  have hgr : grewS ⟨x.s, []⟩ x.ps ⟨(k : Int) + 1, k, 0, 0⟩ = false := by
   unfold grewS
   dsimp only
   rw [Int.toNat_natCast, hl]
   rfl
  have hstep := bstep_m ⟨x.s, []⟩ (fits_chk hx.chk) (by simp) x.ps hx.ps ⟨(k : Int) + 1, k, 0, 0⟩ k rfl 0 rfl l hl (Nat.zero_le _) (.inl rfl)
  rw [hS, hgr] at hstep
  have hts : (startTo ⟨x.s, []⟩ x.ps (k + 1)).ts = (startTo ⟨x.s, []⟩ x.ps k).ts ++ [k'] := by simp [startTo, hS]
  have hws : (startTo ⟨x.s, []⟩ x.ps (k + 1)).ws = (startTo ⟨x.s, []⟩ x.ps k).ws ++ [w'] := by simp [startTo, hS]
  simp only [bnO, rcO, rcG, Tk.pv, waP, Bool.false_eq_true, if_false] at hstep
  simp [hlt, hw1]
  refine hstep.mono ?_
  rintro _ rfl
  simp [tl, wl]
  refine ⟨by omega, by kernel_rfl, x.ps.length - (k + 1), by omega, _, .mk (k + 1) hlt, [], _, rfl, by simp [hts, hws, hw1]⟩
 ·obtain rfl : k = x.ps.length := by omega
  simp
  refine vcRet_of [19, 900, 901, 902] ?_ rfl
  have hsx : startX x = startTo ⟨x.s, []⟩ x.ps x.ps.length := rfl
  have hb := startTo_b ⟨x.s, []⟩ x.ps x.ps.length
  simp [hsx, hb]
  exact ⟨⟨rfl, rfl⟩, rfl⟩
inductive OuAc (A : List Int) (L : List (List Int)) (x : Sx) (q : Pl) : Nat → Sta → Prop
 | mk (k : Nat) (hk : k ≤ x.ps.length) : OuAc A L x q (x.ps.length - k) ⟨151, [(3, .d (.v (.string (strOfNums (taskTo q k))))), (4, .i k), (0, .ptr 1000000 0)], extMem 1000000 (plEc x q A L)⟩
inductive OuBc (A : List Int) (L : List (List Int)) (x : Sx) (q : Pl) (k : Nat) : Nat → Sta → Prop
 | mk (j : Nat) (hj : j ≤ q.b.rs.length) : OuBc A L x q k (q.b.rs.length - j) ⟨151, [(3, .d (.v (.string (strOfNums (taskTo q k ++ 116 :: noteL ((k : Int) + 1) (q.b.rs.take j)))))), (5, .i j), (4, .i k), (0, .ptr 1000000 0)], extMem 1000000 (plEc x q A L)⟩
inductive OuCc (A : List Int) (L : List (List Int)) (x : Sx) (q : Pl) : Nat → Sta → Prop
 | mk (k : Nat) (hk : k ≤ q.b.s.queues.length) : OuCc A L x q (q.b.s.queues.length - k) ⟨151, [(3, .d (.v (.string (strOfNums (taskTo q q.ts.length ++ quL (q.b.s.queues.take k)))))), (7, .i k), (0, .ptr 1000000 0)], extMem 1000000 (plEc x q A L)⟩
inductive OuDc (A : List Int) (L : List (List Int)) (x : Sx) (q : Pl) (k : Nat) (u : Qu) : Nat → Sta → Prop
 | mk (j : Nat) (hj : j ≤ u.items.length) : OuDc A L x q k u (u.items.length - j) ⟨151, [(3, .d (.v (.string (strOfNums (taskTo q q.ts.length ++ (quL (q.b.s.queues.take k) ++ 113 :: itemL (u.items.take j))))))), (8, .i j), (7, .i k), (0, .ptr 1000000 0)], extMem 1000000 (plEc x q A L)⟩
inductive OuGc (A : List Int) (L : List (List Int)) (x : Sx) (q : Pl) : Nat → Sta → Prop
 | mk (k : Nat) (hk : k ≤ q.b.s.groups.length) : OuGc A L x q (q.b.s.groups.length - k) ⟨151, [(3, .d (.v (.string (strOfNums (taskTo q q.ts.length ++ (quL q.b.s.queues ++ grL (q.b.s.groups.take k))))))), (9, .i k), (0, .ptr 1000000 0)], extMem 1000000 (plEc x q A L)⟩
set_option maxRecDepth 100000 in
set_option maxHeartbeats 2000000 in
theorem cOut_m (A : List Int) (L : List (List Int)) (x : Sx) (hx : SxOk x) (q : Pl) (m : Nat) (hq : PlOk x q m) (hm : m ≤ 60) (hv : VOk q) : Meets Tryz.prog 53 [.ptr 1000000 0] (plEc x q A L) (fun r => r = ⟨.d (.v (.string (strOfNums (outL q)))), plEc x q A L, []⟩) := by
 have h16 := hx.ps.many
 have hrs := hq.rs
 obtain ⟨hq1, hq2, hq3, hq4, hq5, hq6⟩ := Lo.chk_iff.1 hq.chk
 have hgr : ∀ g ∈ q.b.s.groups, I64 g := fun g hg => by have := Lo.chk_group hq.chk hg; exact ⟨by omega, by omega⟩
 have hqu : ∀ u ∈ q.b.s.queues, (∀ v ∈ u.items, I64 v) ∧ u.items.length ≤ 64 := fun u hu => ⟨hv.items u hu, (Lo.chk_queue hq.chk hu).2.2.1⟩
 have hpc : ∀ k, I64 (q.ts.getD k default).pc := fun k => by
  rw [List.getD_eq_getElem?_getD]
  cases hk : q.ts[k]? with
  | none => exact ⟨by decide, by decide⟩
  | some t =>
   obtain ⟨_, _, _, pc, h1, h2⟩ := hq.ts k t hk
   have : (x.ps.getD k []).length ≤ 60 := by
    rw [List.getD_eq_getElem?_getD]
    cases hk2 : x.ps[k]? with
    | none => simp
    | some l => exact hx.ps.len l (List.mem_of_getElem? hk2)
   show I64 t.pc
   exact ⟨by omega, by omega⟩
 have hT := taskTo_len hv (by omega) hpc
 have hT' : (taskTo q q.ts.length).length ≤ 128000 := by have := hT q.ts.length; have := hq.tn; omega
 have hQ : ∀ k, (quL (q.b.s.queues.take k)).length ≤ 2049 * 16 := fun k => by
  have h1 := quL_len (l := q.b.s.queues.take k) fun u hu => hqu u (List.mem_of_mem_take hu)
  have h2 : (q.b.s.queues.take k).length ≤ 16 := by rw [List.length_take]; omega
  omega
 have hG : ∀ k, (grL (q.b.s.groups.take k)).length ≤ 32 * 16 := fun k => by
  have h1 := grL_len (l := q.b.s.groups.take k) fun u hu => hgr u (List.mem_of_mem_take hu)
  have h2 : (q.b.s.groups.take k).length ≤ 16 := by rw [List.length_take]; omega
  omega
 refine meets tbROk mixed Tryz.func53 pl53 rfl rfl ?_
 simp [Tryz.ntmps53]
 refine vc_loop (OuAc A L x q) ⟨_, _, .mk 0 (Nat.zero_le _), [], _, rfl, by simp [extMem, taskTo, cNo]⟩ ?_
 rintro n σ ⟨k, hk⟩
 by_cases hlt : k < x.ps.length
 ·have hlp : x.ps.length < 4294967296 := by omega
  have hkt : k < q.ts.length := by rw [hq.tn]; exact hlt
  obtain ⟨t, ht, e⟩ := at_lt hkt
  have hTk := hT k
  have hsz : (taskTo q k).length + 1 ≤ 4611686018427387904 := by omega
  simp [hlt, extMem, strs_size]
  refine ⟨by show _ + 1 ≤ _; omega, ?_⟩
  refine vc_loop (OuBc A L x q k) ⟨_, _, .mk 0 (Nat.zero_le _), [], _, rfl, by simp [extMem, noteL, c116, strs_app]⟩ ?_
  rintro n σ ⟨j, hj⟩
  have hN : (noteL ((k : Int) + 1) (q.b.rs.take j)).length ≤ 64 * 120 := by
   have h1 := noteL_len (i := (k : Int) + 1) (rs := q.b.rs.take j) fun r hr => hv.rs r (List.mem_of_mem_take hr)
   have h2 : (q.b.rs.take j).length ≤ 120 := by rw [List.length_take]; omega
   omega
  have hw1 : IntKind.i64.wrap ((k : Int) + 1) = (k : Int) + 1 := wrap_in (by omega)
  by_cases hjl : j < q.b.rs.length
  ·obtain ⟨r, hr, e2⟩ := at_lt hjl
   have hrv := hv.rs r (List.mem_of_getElem? hr)
   have h1 := digZ_len hrv.1
   have h2 := digZ_len hrv.2
   have htk : noteL ((k : Int) + 1) (q.b.rs.take (j + 1)) = noteL ((k : Int) + 1) (q.b.rs.take j) ++ if r.task = (k : Int) + 1 then 32 :: (digZ r.val ++ 101 :: digZ r.err) else [] := take_flat _ hr
   by_cases ht : r.task = (k : Int) + 1
   ·rw [if_pos ht] at htk
    simp [hjl, e2, extMem, hw1, ht, strs_size]
    refine ⟨by show _ + 1 ≤ _; omega, effCall (digits_m r.val hrv.1) ?_⟩
    simp [strs_size, c32, c101, strs_app]
    refine ⟨by omega, by omega, effCall (digits_m r.err hrv.2) ?_⟩
    simp [strs_size, strs_app, wrap_succ hjl (show q.b.rs.length < 4294967296 by omega)]
    refine ⟨by omega, by kernel_rfl, q.b.rs.length - (j + 1), by omega, _, .mk (j + 1) hjl, [], _, rfl, by simp [extMem, htk]⟩
   ·rw [if_neg ht, List.append_nil] at htk
    simp [hjl, e2, extMem, hw1, ht, wrap_succ hjl (show q.b.rs.length < 4294967296 by omega)]
    exact ⟨q.b.rs.length - (j + 1), by omega, _, .mk (j + 1) hjl, [], _, rfl, by simp [extMem, htk]⟩
  ·obtain rfl : j = q.b.rs.length := by omega
   rw [List.take_length] at hN
   have hgd : q.ts.getD k default = t := by rw [List.getD_eq_getElem?_getD, ht]; rfl
   have hpt := hpc k
   rw [hgd] at hpt
   have h1 := digZ_len hpt
   have hto : taskTo q (k + 1) = taskTo q k ++ 116 :: (noteL ((k : Int) + 1) q.b.rs ++ 32 :: 97 :: 116 :: digZ t.pc) := by rw [taskTo, hgd]
   simp [hlt, hkt, e, extMem]
   refine ⟨by rw [strs_size]; show _ + 3 ≤ _; simp only [List.length_append, List.length_cons]; omega, (digits_m t.pc hpt).mono ?_⟩
   rintro _ rfl
   simp [strs_size, cAt, strs_app, wrap_succ hlt hlp]
   refine ⟨by omega, x.ps.length - (k + 1), by omega, _, .mk (k + 1) hlt, [], _, rfl, by simp [extMem, hto]⟩
 ·obtain rfl : k = x.ps.length := by omega
  simp [extMem]
  refine vc_loop (OuCc A L x q) ⟨_, _, .mk 0 (Nat.zero_le _), [], _, rfl, by simp [extMem, quL, hq.tn]⟩ ?_
  rintro n σ ⟨k, hk⟩
  by_cases hlt : k < q.b.s.queues.length
  ·obtain ⟨u, hu, e⟩ := at_lt hlt
   have huu := hqu u (List.mem_of_getElem? hu)
   have hQk := hQ k
   have htk : quL (q.b.s.queues.take (k + 1)) = quL (q.b.s.queues.take k) ++ 113 :: itemL u.items := take_flat _ hu
   simp [hlt, extMem, strs_size]
   refine ⟨by show _ + 1 ≤ _; omega, ?_⟩
   refine vc_loop (OuDc A L x q k u) ⟨_, _, .mk 0 (Nat.zero_le _), [], _, rfl, by simp [extMem, itemL, c113, strs_app]⟩ ?_
   rintro n σ ⟨j, hj⟩
   have hI : (itemL (u.items.take j)).length ≤ 32 * 64 := by
    have h1 := itemL_len (l := u.items.take j) fun v hv => huu.1 v (List.mem_of_mem_take hv)
    have h2 : (u.items.take j).length ≤ 64 := by rw [List.length_take]; omega
    omega
   by_cases hjl : j < u.items.length
   ·obtain ⟨v, hv, e2⟩ := at_lt hjl
    have hvv := huu.1 v (List.mem_of_getElem? hv)
    have h1 := digZ_len hvv
    have htj : itemL (u.items.take (j + 1)) = itemL (u.items.take j) ++ 32 :: digZ v := take_flat _ hv
    simp [hlt, e, hjl, e2, extMem, strs_size]
    refine ⟨by show _ + 1 ≤ _; omega, (digits_m v hvv).mono ?_⟩
    rintro _ rfl
    simp [strs_size, c32, strs_app, wrap_succ hjl (show u.items.length < 4294967296 by omega)]
    refine ⟨by omega, u.items.length - (j + 1), by omega, _, .mk (j + 1) hjl, [], _, rfl, by simp [extMem, htj]⟩
   ·obtain rfl : j = u.items.length := by omega
    simp [hlt, e, extMem, wrap_succ hlt (show q.b.s.queues.length < 4294967296 by omega)]
    refine ⟨q.b.s.queues.length - (k + 1), by omega, _, .mk (k + 1) hlt, [], _, rfl, by simp [extMem, htk]⟩
  ·obtain rfl : k = q.b.s.queues.length := by omega
   have hQk := hQ q.b.s.queues.length
   rw [List.take_length] at hQk
   simp [extMem]
   refine vc_loop (OuGc A L x q) ⟨_, _, .mk 0 (Nat.zero_le _), [], _, rfl, by simp [extMem, grL]⟩ ?_
   rintro n σ ⟨k, hk⟩
   have hGk := hG k
   by_cases hlt : k < q.b.s.groups.length
   ·obtain ⟨g, hg, e⟩ := at_lt hlt
    have hgg := hgr g (List.mem_of_getElem? hg)
    have h1 := digZ_len hgg
    have htk : grL (q.b.s.groups.take (k + 1)) = grL (q.b.s.groups.take k) ++ 103 :: digZ g := take_flat _ hg
    simp [hlt, e, extMem, strs_size]
    refine ⟨by show _ + 1 ≤ _; omega, (digits_m g hgg).mono ?_⟩
    rintro _ rfl
    simp [strs_size, c103, strs_app, wrap_succ hlt (show q.b.s.groups.length < 4294967296 by omega)]
    refine ⟨by omega, q.b.s.groups.length - (k + 1), by omega, _, .mk (k + 1) hlt, [], _, rfl, by simp [extMem, htk]⟩
   ·obtain rfl : k = q.b.s.groups.length := by omega
    simp [extMem]
    refine vcRet_of [] ?_ rfl
    simp [outL]
end Go.Proofs.YtplooifpgmlofaaGreat
