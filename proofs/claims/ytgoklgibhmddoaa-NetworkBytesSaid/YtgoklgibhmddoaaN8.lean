/- Contracts: network 8. No condition. -/
import Derived.Test.YtgoklgibhmddoaaN4
import Derived.Test.YtgoklgibhmddoaaN5
import Derived.Test.YtgoklgibhmddoaaN7
namespace Go.Proofs.Ytgoklgibhmddoaa
open Go.RowKit
set_option maxRecDepth 100000

theorem fits_of {s : Nw} (h : chk s = 0) : Fits s := by
  obtain ⟨h1, h2, h3, h4, h5⟩ := chk_zero h
  refine ⟨by omega, by omega, fun c hc => ?_⟩
  have hl := List.any_eq_false.1 h3 c hc
  unfold longC at hl
  simp at hl
  have hf := formed_len (ids_formed h5 c hc)
  exact ⟨⟨by omega, by omega⟩, by omega, by omega⟩
/-- The networks of the examples. -/
def n1 : Nw := ⟨0, 1, [⟨0, 5, 4⟩], []⟩
def n2 : Nw := ⟨0, 2, [⟨0, 5, 4⟩], [⟨1, 0, 0, 0, 5, 0, ⟨[], [], 0, 0, 0⟩, ⟨[], [], 0, 0, 0⟩⟩]⟩
def n3 : Nw := ⟨5, 2, [⟨0, 5, 4⟩], [⟨1, 0, 1, 0, 5, 0, ⟨[], [], 0, 0, 0⟩, ⟨[], [], 0, 0, 0⟩⟩]⟩
theorem c1 : chk n1 = 0 := by decide
theorem c2 : chk n2 = 0 := by decide
theorem c3 : chk n3 = 0 := by decide
theorem one_m : Meets Try.prog 8 [] [] (Ret (.tup [n3.pv, .b true])) := by
  refine meetsH [] tbOk mixed Try.func8 pl8 rfl rfl ?_
  simp [Try.ntmps8]
  refine (New_m [⟨0, 5, 4⟩] (by decide)).mono ?_
  rintro _ rfl
  rw [show newS [⟨0, 5, 4⟩] = (n1, 0) by decide]
  simp
  refine (Dial_m n1 (fits_of c1) 0).mono ?_
  rintro _ rfl
  rw [show dialS n1 0 = (n2, 1, 0) by decide]
  simp
  refine (Tick_m n2 (fits_of c2) 5).mono ?_
  rintro _ rfl
  rw [show tickS n2 5 = (n3, [(1, 1)], 0) by decide]
  simp
  refine ⟨by kernel_rfl, ?_⟩
  refine vcRet_of [] ?_ rfl
  simp
def n4 : Nw := ⟨5, 2, [⟨0, 5, 4⟩], [⟨1, 0, 1, 0, 5, 4, ⟨[⟨10, [97, 98, 99, 100]⟩], [], 0, 0, 0⟩, ⟨[], [], 0, 0, 0⟩⟩]⟩
def n5 : Nw := ⟨10, 2, [⟨0, 5, 4⟩], [⟨1, 0, 1, 0, 5, 4, ⟨[], [97, 98, 99, 100], 0, 0, 0⟩, ⟨[], [], 0, 0, 0⟩⟩]⟩
def n6 : Nw := ⟨10, 2, [⟨0, 5, 4⟩], [⟨1, 0, 1, 0, 5, 4, ⟨[], [], 0, 0, 0⟩, ⟨[], [], 0, 0, 0⟩⟩]⟩
theorem c4 : chk n4 = 0 := by decide
theorem c5 : chk n5 = 0 := by decide
theorem c6 : chk n6 = 0 := by decide
set_option maxHeartbeats 4000000 in
theorem awake_m : Meets Try.prog 17 [] [] (Ret (.b true)) := by
  refine meetsH [] tbOk mixed Try.func17 pl17 rfl rfl ?_
  simp [Try.ntmps17]
  refine one_m.mono ?_
  rintro _ rfl
  simp
  refine (Write_m n3 (fits_of c3) 1 [97, 98, 99, 100, 101, 102] (by decide)).mono ?_
  rintro _ rfl
  rw [show writeS n3 1 [97, 98, 99, 100, 101, 102] = (n4, 4, 0) by decide]
  simp
  refine (Write_m n4 (fits_of c4) 1 [101, 102] (by decide)).mono ?_
  rintro _ rfl
  rw [show writeS n4 1 [101, 102] = (n4, 0, 10) by decide]
  simp
  refine (Tick_m n4 (fits_of c4) 10).mono ?_
  rintro _ rfl
  rw [show tickS n4 10 = (n5, [(3, 1)], 0) by decide]
  simp
  refine (Take_m n5 (fits_of c5) 1).mono ?_
  rintro _ rfl
  rw [show takeS n5 1 = (n6, [97, 98, 99, 100], 0, 0) by decide]
  simp [numsOf]
  refine vcRet_of [] ?_ rfl
  simp
end Go.Proofs.Ytgoklgibhmddoaa
namespace Go.Proofs.Ytgoklgibhmddoaa
open Go.RowKit
set_option maxRecDepth 100000

theorem newR_m (l : List Pl) (hl : l.length < 4294967296) : Meets Try.prog 20 [.d (pls l)] [] (Ret (.tup [(newS l).1.pv, .i (newS l).2])) := by
  refine meetsH [] tbOk mixed Try.func20 pl20 rfl rfl ?_
  by_cases h16 : (16 : Int) < l.length
  · simp [Try.ntmps20, h16]
    refine vcRet_of [] ?_ rfl
    simp [newS, noNw, show 16 < l.length by omega]
  simp [Try.ntmps20, h16]
  refine vc_loop (fun m σ => ∃ k : Nat, m = l.length - k ∧ k ≤ l.length ∧ noneTo (fun p : Pl => !plOk p) l k ∧ σ = ⟨26, [(4, .i k), (2, .ptr 2 0), (0, .d (pls l))], [(2, .box 25 [.i 0, .i 0, .d nilv', .d nilv'])]⟩) ?_ ?_
  · exact ⟨_, _, ⟨0, rfl, Nat.zero_le _, noneTo_zero _ _, rfl⟩, [], _, rfl, by simp⟩
  rintro m σ ⟨k, rfl, hk, hn, rfl⟩
  by_cases hlt : k < l.length
  · obtain ⟨p, hp, e⟩ := at_lt hlt
    simp [hlt, e]
    refine (plan_m p).mono ?_
    rintro _ rfl
    cases h : plOk p
    · simp
      refine vcRet_of [] ?_ rfl
      have : l.all plOk = false := all_at hp h
      simp [newS, noNw, show ¬ 16 < l.length by omega, this]
    · simp [wrap_succ hlt hl]
      exact ⟨_, by omega, _, ⟨k + 1, rfl, hlt, noneTo_succ hn hp (by simp [h]), rfl⟩, [], _, rfl, by simp⟩
  obtain rfl : k = l.length := by omega
  have ha : l.all plOk = true := noneTo_all hn fun x => rfl
  simp
  refine ⟨hl, ?_⟩
  refine vcRet_prep [.seen 2 2] [] (by simp [Prep.all, Prep.run]; rfl) ?_ rfl
  simp [newS, show ¬ 16 < l.length by omega, ha, List.take_of_length_le]
theorem planR_m (s : Nw) (hf : Fits s) (b : Int) (p : Pl) : Meets Try.prog 63 [s.pv, .i b, p.pv] [] (Ret (.tup [(planS s b p).1.pv, .i (planS s b p).2])) := by
  refine meetsP [(31, [.unnest 10025, .seen 9 2, .seen 9 3])] tbOk mixed Try.func63 pl63 rfl rfl ?_
  simp [Try.ntmps63]
  refine (knownR_m s hf b).mono ?_
  rintro _ rfl
  by_cases hk : knownE s b = 0
  case neg =>
    simp [hk]
    refine vcRet_of [] ?_ rfl
    simp [planS, hk]
  obtain ⟨hc, hb0, hbl⟩ := known_ok hk
  simp [hk]
  refine (plan_m p).mono ?_
  rintro _ rfl
  cases hp : plOk p
  · simp
    refine vcRet_of [] ?_ rfl
    simp [planS, hk, hp]
  simp
  refine (copyRD_m s hf).mono ?_
  rintro _ rfl
  simp [hb0, hbl, Prep.run]
  refine ⟨idx2 (by simp) (by simp), ?_⟩
  refine vcRet_of [] ?_ rfl
  simp [planS, hk, hp, List.take_of_length_le, List.map_set]
set_option maxHeartbeats 4000000 in
theorem dialR_m (s : Nw) (hf : Fits s) (b : Int) : Meets Try.prog 52 [s.pv, .i b] [] (Ret (.tup [(dialS s b).1.pv, .i (dialS s b).2.1, .i (dialS s b).2.2])) := by
  refine meetsP [(53, [.unnest 10032]), (63, [.soft 10032 6 2, .soft 10032 7 2, .soft 10032 8 1, .soft 10032 9 1, .seen 8 2, .seen 8 3])] tbOk mixed Try.func52 pl52 rfl rfl ?_
  simp [Try.ntmps52]
  refine (knownR_m s hf b).mono ?_
  rintro _ rfl
  by_cases hk : knownE s b = 0
  case neg =>
    simp [hk]
    refine vcRet_of [] ?_ rfl
    simp [dialS, hk]
  obtain ⟨hc, hb0, hbl⟩ := known_ok hk
  have hnow := chk_now hc
  have hfull := chk_zero hc
  by_cases h1 : (500 : Int) ≤ s.conns.length
  · simp [hk, h1]
    refine vcRet_of [] ?_ rfl
    simp [dialS, hk, show s.conns.length = 500 by omega]
  by_cases h2 : 1000000000000000 ≤ s.next
  · simp [hk, h1, h2]
    refine vcRet_of [] ?_ rfl
    simp [dialS, hk, show s.next = 1000000000000000 by omega]
  have hblt : b.toNat < s.plans.length := by omega
  obtain ⟨p, hpm, ep⟩ := at_lt hblt
  have hpd := chk_plan hc (List.mem_of_getElem? hpm)
  have hpg : s.plans.getD b.toNat default = p := by rw [List.getD_eq_getElem?_getD, hpm]; rfl
  have w2 : IntKind.i64.wrap (s.next + 1) = s.next + 1 := IntWalk.i64_in _ (by omega)
  have hdS : dialS s b = (⟨s.now, s.next + 1, s.plans, s.conns ++ [newC s b p]⟩, s.next, 0) := by
    unfold dialS
    rw [if_neg (by simp [hk]), if_neg (by omega), hpg]
  rw [hdS]
  simp [hk, h1, h2]
  refine (copyRD_m s hf).mono ?_
  rintro _ rfl
  simp [hb0, hbl, hblt, ep]
  refine ⟨idx2 (by simp) (by simp), ?_⟩
  refine effCall (later_m s.now p.delay (by omega)) ?_
  by_cases h3 : p.fail = 2
  · simp [Prep.run, w2, h3]
    refine ⟨by kernel_rfl, by omega, ?_⟩
    refine ⟨by kernel_rfl, ?_⟩
    refine vcRet_of [] ?_ rfl
    simp [newC, h3, cn_explicit, List.take_of_length_le]
  · simp [Prep.run, w2, h3]
    refine ⟨by kernel_rfl, by omega, ?_⟩
    refine ⟨by kernel_rfl, ?_⟩
    refine vcRet_of [] ?_ rfl
    simp [newC, h3, cn_explicit, List.take_of_length_le]
/-- A connection with a number, and what is known of it. -/
structure AtC (s : Nw) (n : Int) (c : Cn) (p : Pl) : Prop where
  fe : (findE s n).2 = 0
  ck : chk s = 0
  i0 : 0 ≤ (findE s n).1
  il : (findE s n).1 < s.conns.length
  lt : (findE s n).1.toNat < s.conns.length
  get : s.conns[(findE s n).1.toNat]? = some c
  el : s.conns[(findE s n).1.toNat] = c
  cn : cnAt s n = c
  pl : plAt s n = p
  b0 : 0 ≤ c.backend
  bl : c.backend < s.plans.length
  blt : c.backend.toNat < s.plans.length
  bel : s.plans[c.backend.toNat] = p
  st : 0 ≤ c.status ∧ c.status ≤ 3
  sent : 0 ≤ c.sent ∧ c.sent ≤ 1000000000000000
  now : 0 ≤ s.now ∧ s.now ≤ 1000000000000
  del : 0 ≤ p.delay ∧ p.delay ≤ 100000
  win : 1 ≤ p.window ∧ p.window ≤ 65536
  upN : c.up.n ≤ 1048576
  dnN : c.dn.n ≤ 1048576
  upF : c.up.Fits
  dnF : c.dn.Fits
  upL : c.up.ps.length ≤ 1048576
  dnL : c.dn.ps.length ≤ 1048576
theorem at_of {s : Nw} (hf : Fits s) {n : Int} (h : (findE s n).2 = 0) : ∃ c p, AtC s n c p := by
  obtain ⟨hc, hi0, hil⟩ := find_ok h
  have hlt : (findE s n).1.toNat < s.conns.length := by omega
  obtain ⟨c, hcm, e⟩ := at_lt hlt
  have hg : cnAt s n = c := cnAt_find hcm
  have hcr := chk_conn hc (List.mem_of_getElem? hcm)
  have hb : (0 ≤ c.backend ∧ c.backend < s.plans.length) ∧ (0 ≤ c.status ∧ c.status ≤ 3) ∧ (0 ≤ c.sent ∧ c.sent ≤ 1000000000000000) := by
    unfold cnRanges inR at hcr
    simp only [Bool.and_eq_true, decide_eq_true_eq] at hcr
    omega
  obtain ⟨hb, hst, hsent⟩ := hb
  have hblt : c.backend.toNat < s.plans.length := by omega
  obtain ⟨p, hpm, ep⟩ := at_lt hblt
  have hpg : plAt s n = p := by unfold plAt; rw [hg, List.getD_eq_getElem?_getD, hpm]; rfl
  have hpd := chk_plan hc (List.mem_of_getElem? hpm)
  have hnow := chk_now hc
  obtain ⟨g1, g2⟩ := hf.2.2 c (List.mem_of_getElem? hcm)
  have hz := chk_zero hc
  have hln := List.any_eq_false.1 hz.2.2.1 c (List.mem_of_getElem? hcm)
  have hln : c.up.n ≤ 1048576 ∧ c.dn.n ≤ 1048576 := by
    unfold longC at hln
    simp at hln
    omega
  have hfl := formed_len (ids_formed hz.2.2.2.2 c (List.mem_of_getElem? hcm))
  exact ⟨c, p, h, hc, hi0, hil, hlt, hcm, e, hg, hpg, hb.1, hb.2, hblt, ep, hst, hsent, ⟨hnow.1, hnow.2.1⟩, ⟨hpd.1, hpd.2.1⟩, ⟨hpd.2.2.1, hpd.2.2.2⟩, hln.1, hln.2, g1, g2, by omega, by omega⟩
set_option maxHeartbeats 4000000 in
theorem closeR_m (s : Nw) (hf : Fits s) (n : Int) : Meets Try.prog 58 [s.pv, .i n] [] (Ret (.tup [(closeS s n).1.pv, .i (closeS s n).2])) := by
  refine meetsP [(42, [.focus 10041 6 []]), (91, [.close 10041, .unnest 10041, .soft 10041 7 2, .soft 10041 9 1])] tbOk mixed Try.func58 pl58 rfl rfl ?_
  simp [Try.ntmps58]
  refine (findR_m s hf n).mono ?_
  rintro _ rfl
  by_cases hfe : (findE s n).2 = 0
  case neg =>
    simp [hfe]
    refine vcRet_of [] ?_ rfl
    simp [closeS, changeS, hfe]
  obtain ⟨c, p, A⟩ := at_of hf hfe
  by_cases s2 : c.status = 2
  · simp [hfe, A.i0, A.il, A.lt, A.el, s2]
    refine vcRet_of [] ?_ rfl
    unfold closeS
    rw [changeS_down hfe (by rw [A.cn, s2]; decide)]
    simp
  by_cases s3 : c.status = 3
  · simp [hfe, A.i0, A.il, A.lt, A.el, s3]
    refine vcRet_of [] ?_ rfl
    unfold closeS
    rw [changeS_down hfe (by rw [A.cn, s3]; decide)]
    simp
  have hst := A.st
  have hm : c.status ∈ [0, 1] := by
    have : c.status = 0 ∨ c.status = 1 := by omega
    rcases this with h | h <;> simp [h]
  simp [hfe, A.i0, A.il, A.lt, A.el, s2, s3]
  refine (copyRD_m s hf).mono ?_
  rintro _ rfl
  have hcs : closeS s n = (⟨s.now, s.next, s.plans, s.conns.set (findE s n).1.toNat (closeF s.now p c)⟩, 0) := by
    unfold closeS
    rw [changeS_ok hfe (by rw [A.cn]; exact hm) rfl, A.cn, A.pl]
  have e3 : (closeF s.now p c).dn = ⟨[], [], 0, 0, 0⟩ := rfl
  have hn1 := A.now
  have hd1 := A.del
  rw [hcs]
  by_cases s1 : c.status = 1
  · simp [A.i0, A.il, A.lt, A.el, Prep.run, s1]
    refine ⟨idx2 (by simp) (by simp), ?_⟩
    simp [A.b0, A.bl, A.blt, A.bel]
    refine effCall (lastR_m c.up A.upF.2 s.now p.delay (by omega)) ?_
    simp [Prep.run]
    refine ⟨by kernel_rfl, ?_⟩
    refine vcRet_of [] ?_ rfl
    simp [List.take_of_length_le, cn_explicit (closeF s.now p c), e3]
    simp [closeF, s1]
  · simp [A.i0, A.il, A.lt, A.el, Prep.run, s1]
    refine ⟨idx2 (by simp) (by simp), ?_⟩
    refine vcRet_of [] ?_ rfl
    simp [List.take_of_length_le, cn_explicit (closeF s.now p c), e3]
    simp [closeF, s1]
theorem findC_m (s : Nw) (hf : Fits s) (n : Int) : Meets Try.prog 66 [s.pv, .i n] [] (Ret (.tup [if (findE s n).2 = 0 then .agg ((cnAt s n).ds.map .d) else .agg ((Cn.ds default).map .d), .i (findE s n).2])) := by
  refine meetsH [] tbOk mixed Try.func66 pl66 rfl rfl ?_
  simp [Try.ntmps66]
  refine (findR_m s hf n).mono ?_
  rintro _ rfl
  by_cases hfe : (findE s n).2 = 0
  case neg =>
    simp [hfe]
    refine vcRet_of [] ?_ rfl
    simp
    exact ⟨rfl, rfl, rfl, rfl, rfl, rfl, rfl, rfl, rfl, rfl, rfl, rfl, rfl, rfl, rfl, rfl⟩
  obtain ⟨c, p, A⟩ := at_of hf hfe
  simp [hfe, A.i0, A.il, A.lt, A.el]
  refine vcRet_of [] ?_ rfl
  simp [A.cn]
end Go.Proofs.Ytgoklgibhmddoaa
namespace Go.Proofs.Ytgoklgibhmddoaa
open Go.RowKit
set_option maxRecDepth 100000

def soonF (best : Int) (l : List Pc) : Int := l.foldl (fun b p => min b p.time) best
def soonB (best : Int) (d : Dr) : Int := if d.e ≠ 0 then min (soonF best d.ps) d.t else soonF best d.ps
theorem soonest_m (best : Int) (d : Dr) (hl : d.ps.length < 4294967296) : Meets Try.prog 93 [.i best, .d (pcs d.ps), .i d.e, .i d.t] [] (Ret (.i (soonB best d))) := by
  refine meetsH [] tbOk mixed Try.func93 pl93 rfl rfl ?_
  simp [Try.ntmps93]
  refine vc_loop (fun m σ => ∃ k : Nat, m = d.ps.length - k ∧ k ≤ d.ps.length ∧ ∃ a : Int, soonF best d.ps = soonF a (d.ps.drop k) ∧ σ = ⟨29, [(9, .i k), (0, .i a), (1, .d (pcs d.ps)), (2, .i d.e), (3, .i d.t)], []⟩) ?_ ?_
  · exact ⟨_, _, ⟨0, rfl, Nat.zero_le _, best, rfl, rfl⟩, [], _, rfl, by simp⟩
  rintro m σ ⟨k, rfl, hk, a, ha, rfl⟩
  by_cases hlt : k < d.ps.length
  · obtain ⟨p, hp, e⟩ := at_lt hlt
    have hd : d.ps.drop k = p :: d.ps.drop (k + 1) := by rw [← e]; exact List.drop_eq_getElem_cons hlt
    rw [hd] at ha
    simp [hlt, e, wrap_succ hlt hl]
    exact ⟨_, by omega, _, ⟨k + 1, rfl, hlt, min a p.time, ha, rfl⟩, [], _, rfl, by simp⟩
  obtain rfl : k = d.ps.length := by omega
  rw [List.drop_length] at ha
  have ha : soonF best d.ps = a := ha
  by_cases he : d.e = 0
  · simp [he]
    refine vcRet_of [] ?_ rfl
    simp [soonB, he, ha]
  · simp [he]
    refine vcRet_of [] ?_ rfl
    simp [soonB, he, ha]
theorem soonF_ge : ∀ {l : List Pc} {b a : Int}, ordTo b l = true → a ≤ b → soonF a l = a
  | [], _, _, _, _ => rfl
  | p :: l, b, a, h, hab => by
    simp only [ordTo, Bool.and_eq_true, decide_eq_true_eq] at h
    have e : min a p.time = a := by omega
    show soonF (min a p.time) l = a
    rw [e]
    exact soonF_ge h.2.2 (by omega)
theorem lastOf_ge : ∀ {l : List Pc} {b : Int}, ordTo b l = true → b ≤ lastOf b l
  | [], _, _ => Int.le_refl _
  | p :: l, b, h => by
    simp only [ordTo, Bool.and_eq_true, decide_eq_true_eq] at h
    have := lastOf_ge h.2.2
    show b ≤ lastOf p.time l
    omega
theorem soon_eq {d : Dr} {ne born best : Int} (h : d.formed ne born = true) (hb : best ≤ never) : soonB best d = min best d.due := by
  unfold Dr.formed at h
  simp only [Bool.and_eq_true, Bool.not_eq_true', Bool.or_eq_false_iff, decide_eq_false_iff_not] at h
  obtain ⟨h1, ⟨⟨⟨h2, _⟩, _⟩, _⟩, _⟩ := h
  unfold soonB Dr.due
  cases hp : d.ps with
  | nil =>
    by_cases he : d.e = 0
    · simp [he, soonF]; omega
    · simp [he, soonF]
  | cons p r =>
    rw [hp] at h1 h2
    simp only [ordTo, Bool.and_eq_true, decide_eq_true_eq] at h1
    have e1 : soonF best (p :: r) = min best p.time := by
      show soonF (min best p.time) r = _
      rcases Int.le_total best p.time with hh | hh
      · rw [soonF_ge h1.2.2 (by omega)]
      · rw [soonF_ge h1.2.2 (by omega)]
    rw [e1]
    by_cases he : d.e = 0
    · simp [he]
    · simp only [he, if_false] at h2
      have := lastOf_ge h1.2.2
      have h2 : ¬ d.t < lastOf p.time r := h2
      simp [he]; omega
set_option maxHeartbeats 4000000 in
theorem dueR_m (s : Nw) (hf : Fits s) : Meets Try.prog 65 [s.pv] [] (Ret (.tup [.i (dueS s).1, .i (dueS s).2])) := by
  have hf0 := hf
  obtain ⟨f1, f2, f3⟩ := hf
  refine meetsH [] tbOk mixed Try.func65 pl65 rfl rfl ?_
  simp [Try.ntmps65]
  refine (checkR_m s hf0).mono ?_
  rintro _ rfl
  by_cases hc : chk s = 0
  case neg =>
    simp [hc]
    refine vcRet_of [] ?_ rfl
    simp [dueS, hc]
  simp [hc]
  refine vc_loop (fun m σ => ∃ k : Nat, m = s.conns.length - k ∧ k ≤ s.conns.length ∧ ∃ a : Int, (dueTo never s.conns = dueTo a (s.conns.drop k) ∧ a ≤ never) ∧ σ = ⟨51, [(6, .i k), (5, .i a), (1, .ptr 1 0)], [(1, s.box)]⟩) ?_ ?_
  · exact ⟨_, _, ⟨0, rfl, Nat.zero_le _, never, ⟨rfl, Int.le_refl _⟩, rfl⟩, [], _, rfl, by simp [never]⟩
  rintro m σ ⟨k, rfl, hk, a, ⟨ha, hav⟩, rfl⟩
  by_cases hlt : k < s.conns.length
  · obtain ⟨c, hcm, e⟩ := at_lt hlt
    obtain ⟨g1, g2⟩ := f3 c (List.mem_of_getElem? hcm)
    have hd : s.conns.drop k = c :: s.conns.drop (k + 1) := by rw [← e]; exact List.drop_eq_getElem_cons hlt
    rw [hd] at ha
    have hcf := ids_formed (chk_zero hc).2.2.2.2 c (List.mem_of_getElem? hcm)
    unfold cnFormed at hcf
    simp only [Bool.and_eq_true] at hcf
    have fin : ∀ a1 : Int, a1 = (if c.status = 0 then min a c.ready else a) → dueTo never s.conns = dueTo (soonB (soonB a1 c.up) c.dn) (s.conns.drop (k + 1)) ∧ soonB (soonB a1 c.up) c.dn ≤ never := fun a1 h => by
      have h1 : a1 ≤ never := by rw [h]; split <;> omega
      rw [soon_eq hcf.1 h1, soon_eq hcf.2.1 (by omega)]
      refine ⟨by rw [ha, h]; rfl, by omega⟩
    by_cases hs : c.status = 0
    · simp only [hs, if_true] at fin
      simp [hlt, e, hs, cn_explicit c]
      refine (soonest_m (min a c.ready) c.up g1.2).mono ?_
      rintro _ rfl
      simp
      refine (soonest_m (soonB (min a c.ready) c.up) c.dn g2.2).mono ?_
      rintro _ rfl
      simp [wrap_succ hlt f2]
      exact ⟨_, by omega, _, ⟨k + 1, rfl, hlt, _, fin _ rfl, rfl⟩, [], _, rfl, by simp⟩
    · simp only [hs, if_false] at fin
      simp [hlt, e, hs, cn_explicit c]
      refine (soonest_m a c.up g1.2).mono ?_
      rintro _ rfl
      simp
      refine (soonest_m (soonB a c.up) c.dn g2.2).mono ?_
      rintro _ rfl
      simp [wrap_succ hlt f2]
      exact ⟨_, by omega, _, ⟨k + 1, rfl, hlt, _, fin _ rfl, rfl⟩, [], _, rfl, by simp⟩
  obtain rfl : k = s.conns.length := by omega
  rw [List.drop_length] at ha
  have ha : dueTo never s.conns = a := ha
  by_cases hn : a = 1000000000001
  · simp [hn]
    refine vcRet_of [] ?_ rfl
    simp only [dueS, ha]
    simp [hc, hn, never]
  · simp [hn]
    refine vcRet_of [] ?_ rfl
    simp only [dueS, ha]
    simp [hc, hn, never]
theorem countR_m (s : Nw) (hf : Fits s) (b : Int) : Meets Try.prog 67 [s.pv, .i b] [] (Ret (.tup [if knownE s b = 0 then .agg [.i (cnt b 0 s.conns), .i (cnt b 1 s.conns), .i (cnt b 2 s.conns), .i (cnt b 3 s.conns)] else .agg [.i 0, .i 0, .i 0, .i 0], .i (knownE s b)])) := by
  have hf0 := hf
  obtain ⟨f1, f2, f3⟩ := hf
  refine meetsH [] tbOk mixed Try.func67 pl67 rfl rfl ?_
  simp [Try.ntmps67]
  refine (knownR_m s hf0 b).mono ?_
  rintro _ rfl
  by_cases hk : knownE s b = 0
  case neg =>
    simp [hk]
    refine vcRet_of [] ?_ rfl
    simp
  obtain ⟨hc, hb0, hbl⟩ := known_ok hk
  simp [hk]
  refine vc_loop (fun m σ => ∃ k : Nat, m = s.conns.length - k ∧ k ≤ s.conns.length ∧ σ = ⟨60, [(8, .i k), (1, .i b), (4, .ptr 4 0), (2, .ptr 2 0), (7, .ptr 7 0)],
    [(7, .box 75 [.i (cnt b 0 (s.conns.take k)), .i (cnt b 1 (s.conns.take k)), .i (cnt b 2 (s.conns.take k)), .i (cnt b 3 (s.conns.take k))]), (4, .box 75 [.i 0, .i 0, .i 0, .i 0]), (2, s.box)]⟩) ?_ ?_
  · exact ⟨_, _, ⟨0, rfl, Nat.zero_le _, rfl⟩, [], _, rfl, by simp [cnt]⟩
  rintro m σ ⟨k, rfl, hkl, rfl⟩
  by_cases hlt : k < s.conns.length
  · obtain ⟨c, hcm, e⟩ := at_lt hlt
    have hcr := chk_conn hc (List.mem_of_getElem? hcm)
    have hst : 0 ≤ c.status ∧ c.status ≤ 3 := by
      unfold cnRanges inR at hcr
      simp only [Bool.and_eq_true, decide_eq_true_eq] at hcr
      omega
    have w : ∀ st : Int, IntKind.i64.wrap ((cnt b st (s.conns.take k) : Int) + 1) = (cnt b st (s.conns.take k) : Int) + 1 := fun st => by
      have := cnt_le b st (s.conns.take k)
      have h2 : (s.conns.take k).length ≤ k := by simp; omega
      exact IntWalk.i64_in _ (by omega)
    by_cases hb : c.backend = b
    · have h4 : c.status = 0 ∨ c.status = 1 ∨ c.status = 2 ∨ c.status = 3 := by omega
      rcases h4 with h | h | h | h
      all_goals
        simp [hlt, e, hb, h, w, wrap_succ hlt f2, cn_explicit c]
        exact ⟨_, by omega, _, ⟨k + 1, rfl, hlt, rfl⟩, [], _, rfl, by simp [cnt_take _ _ hcm, hb, h]⟩
    · simp [hlt, e, hb, wrap_succ hlt f2, cn_explicit c]
      exact ⟨_, by omega, _, ⟨k + 1, rfl, hlt, rfl⟩, [], _, rfl, by simp [cnt_take _ _ hcm, hb]⟩
  obtain rfl : k = s.conns.length := by omega
  simp
  refine vcRet_of [] ?_ rfl
  simp
end Go.Proofs.Ytgoklgibhmddoaa
