/- Contracts: network 12. No condition. -/
import Derived.Test.YtgoklgibhmddoaaN11
import Derived.Test.YtgoklgibhmddoaaN7
import Derived.Test.YtgoklgibhmddoaaN8
import Derived.Test.YtgoklgibhmddoaaN9
import Derived.Test.YtgoklgibhmddoaaN10
namespace Go.Proofs.Ytgoklgibhmddoaa
open Go.RowKit
set_option maxRecDepth 100000

@[simp] def Ac.pv (x : Ac) : PV := .agg [.d (.v (.int .u8 x.what)), .i x.conn, .i x.n, .d (bs x.b), .i x.p.fail, .i x.p.delay, .i x.p.window]
@[simp] def Ac.ds (x : Ac) : List D := [.v (.int .u8 x.what), .v (.int .i64 x.conn), .v (.int .i64 x.n), bs x.b, .v (.int .i64 x.p.fail), .v (.int .i64 x.p.delay), .v (.int .i64 x.p.window)]
@[simp] def acs (l : List Ac) : D := .sl 7 (l.map Ac.ds)
theorem Ac.rem {x : Ac} {k : Int} (h : x.what % 14 = k) (hw : 0 ≤ x.what) : x.what.tmod 14 = k := by rw [Int.tmod_eq_emod_of_nonneg hw, h]
theorem fits_do {s : Nw} (h : chk s = 0) (x : Ac) : Fits (doS s x) := fits_of (nok_iff.2 (nok_do (nok_iff.1 h) x))
theorem evs_big {s : Nw} (h : chk s = 0) (to : Int) : (tickS s to).2.1.length < 4294967296 := by
  unfold tickS
  split
  · simp
  · split
    · have h1 := evflat_len s.plans to s.conns
      have h2 := (chk_zero h).2.1
      simp only; omega
    · simp
set_option maxHeartbeats 8000000 in
theorem do0_m (s : Nw) (hc : chk s = 0) (x : Ac) (h : x.what % 14 = 0) (hw : 0 ≤ x.what) (hb : x.b.length < 4294967296) : Meets Try.prog 22 [s.pv, x.pv] [] (Ret (.tup [(doS s x).pv, .b true])) := by
  have hf := fits_of hc
  have hf2 := fits_do hc x
  have hd : doS s x = (dialS s x.n).1 := by simp [doS, h]
  rw [hd] at hf2 ⊢
  refine meetsH [] tbOk mixed Try.func22 pl22 rfl rfl ?_
  simp [Try.ntmps22, Ac.rem h hw]
  refine (Dial_m s hf x.n).mono ?_
  rintro _ rfl
  simp
  refine (dialR_m s hf x.n).mono ?_
  rintro _ rfl
  simp
  refine ⟨by kernel_rfl, ?_⟩
  refine effCall (same_m _ hf2) ?_
  simp
  refine ⟨by kernel_rfl, vcRet_of [] ?_ rfl⟩
  simp
set_option maxHeartbeats 8000000 in
theorem do1_m (s : Nw) (hc : chk s = 0) (x : Ac) (h : x.what % 14 = 1) (hw : 0 ≤ x.what) (hb : x.b.length < 4294967296) : Meets Try.prog 22 [s.pv, x.pv] [] (Ret (.tup [(doS s x).pv, .b true])) := by
  have hf := fits_of hc
  have hf2 := fits_do hc x
  have hd : doS s x = (dialS s x.n).1 := by simp [doS, h]
  rw [hd] at hf2 ⊢
  refine meetsH [] tbOk mixed Try.func22 pl22 rfl rfl ?_
  simp [Try.ntmps22, Ac.rem h hw]
  refine (Dial_m s hf x.n).mono ?_
  rintro _ rfl
  simp
  refine (dialR_m s hf x.n).mono ?_
  rintro _ rfl
  simp
  refine ⟨by kernel_rfl, ?_⟩
  refine effCall (same_m _ hf2) ?_
  simp
  refine ⟨by kernel_rfl, vcRet_of [] ?_ rfl⟩
  simp
set_option maxHeartbeats 8000000 in
theorem do2_m (s : Nw) (hc : chk s = 0) (x : Ac) (h : x.what % 14 = 2) (hw : 0 ≤ x.what) (hb : x.b.length < 4294967296) : Meets Try.prog 22 [s.pv, x.pv] [] (Ret (.tup [(doS s x).pv, .b true])) := by
  have hf := fits_of hc
  have hf2 := fits_do hc x
  have hd : doS s x = (tickS s (toOf s x)).1 := by simp [doS, h]
  rw [hd] at hf2 ⊢
  refine meetsH [] tbOk mixed Try.func22 pl22 rfl rfl ?_
  have hnow := (nok_iff.1 hc).now
  by_cases h0 : 0 ≤ x.n
  · have hto : toOf s x = s.now + x.n % 20 := by unfold toOf; rw [if_pos h0]
    have w0 : x.n.tmod 20 = x.n % 20 := Int.tmod_eq_emod_of_nonneg h0
    have w1 : IntKind.i64.wrap (s.now + x.n % 20) = s.now + x.n % 20 := IntWalk.i64_in _ (by omega)
    rw [hto] at hf2 ⊢
    have hel := evs_big hc (s.now + x.n % 20)
    simp [Try.ntmps22, Ac.rem h hw, h0, w0, w1]
    refine (Tick_m s hf (s.now + x.n % 20)).mono ?_
    rintro _ rfl
    simp
    refine (tickR_m s hf (s.now + x.n % 20)).mono ?_
    rintro _ rfl
    simp
    refine effCall (sameEvents_m _ hel) ?_
    simp
    refine ⟨by kernel_rfl, ?_⟩
    refine effCall (same_m _ hf2) ?_
    simp
    refine ⟨by kernel_rfl, vcRet_of [] ?_ rfl⟩
    simp
  · have hto : toOf s x = x.n := by unfold toOf; rw [if_neg h0]
    rw [hto] at hf2 ⊢
    have hel := evs_big hc x.n
    simp [Try.ntmps22, Ac.rem h hw, h0]
    refine (Tick_m s hf x.n).mono ?_
    rintro _ rfl
    simp
    refine (tickR_m s hf x.n).mono ?_
    rintro _ rfl
    simp
    refine effCall (sameEvents_m _ hel) ?_
    simp
    refine ⟨by kernel_rfl, ?_⟩
    refine effCall (same_m _ hf2) ?_
    simp
    refine ⟨by kernel_rfl, vcRet_of [] ?_ rfl⟩
    simp
set_option maxHeartbeats 8000000 in
theorem do3_m (s : Nw) (hc : chk s = 0) (x : Ac) (h : x.what % 14 = 3) (hw : 0 ≤ x.what) (hb : x.b.length < 4294967296) : Meets Try.prog 22 [s.pv, x.pv] [] (Ret (.tup [(doS s x).pv, .b true])) := by
  have hf := fits_of hc
  have hf2 := fits_do hc x
  have hd : doS s x = (tickS s (toOf s x)).1 := by simp [doS, h]
  rw [hd] at hf2 ⊢
  refine meetsH [] tbOk mixed Try.func22 pl22 rfl rfl ?_
  have hnow := (nok_iff.1 hc).now
  by_cases h0 : 0 ≤ x.n
  · have hto : toOf s x = s.now + x.n % 20 := by unfold toOf; rw [if_pos h0]
    have w0 : x.n.tmod 20 = x.n % 20 := Int.tmod_eq_emod_of_nonneg h0
    have w1 : IntKind.i64.wrap (s.now + x.n % 20) = s.now + x.n % 20 := IntWalk.i64_in _ (by omega)
    rw [hto] at hf2 ⊢
    have hel := evs_big hc (s.now + x.n % 20)
    simp [Try.ntmps22, Ac.rem h hw, h0, w0, w1]
    refine (Tick_m s hf (s.now + x.n % 20)).mono ?_
    rintro _ rfl
    simp
    refine (tickR_m s hf (s.now + x.n % 20)).mono ?_
    rintro _ rfl
    simp
    refine effCall (sameEvents_m _ hel) ?_
    simp
    refine ⟨by kernel_rfl, ?_⟩
    refine effCall (same_m _ hf2) ?_
    simp
    refine ⟨by kernel_rfl, vcRet_of [] ?_ rfl⟩
    simp
  · have hto : toOf s x = x.n := by unfold toOf; rw [if_neg h0]
    rw [hto] at hf2 ⊢
    have hel := evs_big hc x.n
    simp [Try.ntmps22, Ac.rem h hw, h0]
    refine (Tick_m s hf x.n).mono ?_
    rintro _ rfl
    simp
    refine (tickR_m s hf x.n).mono ?_
    rintro _ rfl
    simp
    refine effCall (sameEvents_m _ hel) ?_
    simp
    refine ⟨by kernel_rfl, ?_⟩
    refine effCall (same_m _ hf2) ?_
    simp
    refine ⟨by kernel_rfl, vcRet_of [] ?_ rfl⟩
    simp
set_option maxHeartbeats 8000000 in
theorem do4_m (s : Nw) (hc : chk s = 0) (x : Ac) (h : x.what % 14 = 4) (hw : 0 ≤ x.what) (hb : x.b.length < 4294967296) : Meets Try.prog 22 [s.pv, x.pv] [] (Ret (.tup [(doS s x).pv, .b true])) := by
  have hf := fits_of hc
  have hf2 := fits_do hc x
  have hd : doS s x = (writeS s x.conn x.b).1 := by simp [doS, h]
  rw [hd] at hf2 ⊢
  refine meetsH [] tbOk mixed Try.func22 pl22 rfl rfl ?_
  simp [Try.ntmps22, Ac.rem h hw]
  refine (Write_m s hf x.conn x.b hb).mono ?_
  rintro _ rfl
  simp
  refine (writeR_m s hf x.conn x.b hb).mono ?_
  rintro _ rfl
  simp
  refine ⟨by kernel_rfl, ?_⟩
  refine effCall (same_m _ hf2) ?_
  simp
  refine ⟨by kernel_rfl, vcRet_of [] ?_ rfl⟩
  simp
set_option maxHeartbeats 8000000 in
theorem do5_m (s : Nw) (hc : chk s = 0) (x : Ac) (h : x.what % 14 = 5) (hw : 0 ≤ x.what) (hb : x.b.length < 4294967296) : Meets Try.prog 22 [s.pv, x.pv] [] (Ret (.tup [(doS s x).pv, .b true])) := by
  have hf := fits_of hc
  have hf2 := fits_do hc x
  have hd : doS s x = (writeS s x.conn x.b).1 := by simp [doS, h]
  rw [hd] at hf2 ⊢
  refine meetsH [] tbOk mixed Try.func22 pl22 rfl rfl ?_
  simp [Try.ntmps22, Ac.rem h hw]
  refine (Write_m s hf x.conn x.b hb).mono ?_
  rintro _ rfl
  simp
  refine (writeR_m s hf x.conn x.b hb).mono ?_
  rintro _ rfl
  simp
  refine ⟨by kernel_rfl, ?_⟩
  refine effCall (same_m _ hf2) ?_
  simp
  refine ⟨by kernel_rfl, vcRet_of [] ?_ rfl⟩
  simp
set_option maxHeartbeats 8000000 in
theorem do6_m (s : Nw) (hc : chk s = 0) (x : Ac) (h : x.what % 14 = 6) (hw : 0 ≤ x.what) (hb : x.b.length < 4294967296) : Meets Try.prog 22 [s.pv, x.pv] [] (Ret (.tup [(doS s x).pv, .b true])) := by
  have hf := fits_of hc
  have hf2 := fits_do hc x
  have hd : doS s x = (readS s x.conn x.n).1 := by simp [doS, h]
  rw [hd] at hf2 ⊢
  refine meetsH [] tbOk mixed Try.func22 pl22 rfl rfl ?_
  simp [Try.ntmps22, Ac.rem h hw]
  refine (Read_m s hf x.conn x.n).mono ?_
  rintro _ rfl
  simp
  refine (readR_m s hf x.conn x.n).mono ?_
  rintro _ rfl
  simp
  refine effCall (sameBytes_m _) ?_
  simp
  refine ⟨by kernel_rfl, ?_⟩
  refine effCall (same_m _ hf2) ?_
  simp
  refine ⟨by kernel_rfl, vcRet_of [] ?_ rfl⟩
  simp
set_option maxHeartbeats 8000000 in
theorem do7_m (s : Nw) (hc : chk s = 0) (x : Ac) (h : x.what % 14 = 7) (hw : 0 ≤ x.what) (hb : x.b.length < 4294967296) : Meets Try.prog 22 [s.pv, x.pv] [] (Ret (.tup [(doS s x).pv, .b true])) := by
  have hf := fits_of hc
  have hf2 := fits_do hc x
  have hd : doS s x = (closeS s x.conn).1 := by simp [doS, h]
  rw [hd] at hf2 ⊢
  refine meetsH [] tbOk mixed Try.func22 pl22 rfl rfl ?_
  simp [Try.ntmps22, Ac.rem h hw]
  refine (Close_m s hf x.conn).mono ?_
  rintro _ rfl
  simp
  refine (closeR_m s hf x.conn).mono ?_
  rintro _ rfl
  simp
  refine effCall (same_m _ hf2) ?_
  simp
  refine ⟨by kernel_rfl, vcRet_of [] ?_ rfl⟩
  simp
set_option maxHeartbeats 8000000 in
theorem do8_m (s : Nw) (hc : chk s = 0) (x : Ac) (h : x.what % 14 = 8) (hw : 0 ≤ x.what) (hb : x.b.length < 4294967296) : Meets Try.prog 22 [s.pv, x.pv] [] (Ret (.tup [(doS s x).pv, .b true])) := by
  have hf := fits_of hc
  have hf2 := fits_do hc x
  have hd : doS s x = (takeS s x.conn).1 := by simp [doS, h]
  rw [hd] at hf2 ⊢
  refine meetsH [] tbOk mixed Try.func22 pl22 rfl rfl ?_
  simp [Try.ntmps22, Ac.rem h hw]
  refine (Take_m s hf x.conn).mono ?_
  rintro _ rfl
  simp
  refine (takeR_m s hf x.conn).mono ?_
  rintro _ rfl
  simp
  refine effCall (sameBytes_m _) ?_
  simp
  refine ⟨by kernel_rfl, ?_⟩
  refine effCall (same_m _ hf2) ?_
  simp
  refine ⟨by kernel_rfl, vcRet_of [] ?_ rfl⟩
  simp
set_option maxHeartbeats 8000000 in
theorem do9_m (s : Nw) (hc : chk s = 0) (x : Ac) (h : x.what % 14 = 9) (hw : 0 ≤ x.what) (hb : x.b.length < 4294967296) : Meets Try.prog 22 [s.pv, x.pv] [] (Ret (.tup [(doS s x).pv, .b true])) := by
  have hf := fits_of hc
  have hf2 := fits_do hc x
  have hd : doS s x = (putS s x.conn x.b x.n).1 := by simp [doS, h]
  rw [hd] at hf2 ⊢
  refine meetsH [] tbOk mixed Try.func22 pl22 rfl rfl ?_
  simp [Try.ntmps22, Ac.rem h hw]
  refine (Put_m s hf x.conn x.b hb x.n).mono ?_
  rintro _ rfl
  simp
  refine (putR_m s hf x.conn x.b hb x.n).mono ?_
  rintro _ rfl
  simp
  refine effCall (same_m _ hf2) ?_
  simp
  refine ⟨by kernel_rfl, vcRet_of [] ?_ rfl⟩
  simp
set_option maxHeartbeats 8000000 in
theorem do10_m (s : Nw) (hc : chk s = 0) (x : Ac) (h : x.what % 14 = 10) (hw : 0 ≤ x.what) (hb : x.b.length < 4294967296) : Meets Try.prog 22 [s.pv, x.pv] [] (Ret (.tup [(doS s x).pv, .b true])) := by
  have hf := fits_of hc
  have hf2 := fits_do hc x
  have hd : doS s x = (putS s x.conn x.b x.n).1 := by simp [doS, h]
  rw [hd] at hf2 ⊢
  refine meetsH [] tbOk mixed Try.func22 pl22 rfl rfl ?_
  simp [Try.ntmps22, Ac.rem h hw]
  refine (Put_m s hf x.conn x.b hb x.n).mono ?_
  rintro _ rfl
  simp
  refine (putR_m s hf x.conn x.b hb x.n).mono ?_
  rintro _ rfl
  simp
  refine effCall (same_m _ hf2) ?_
  simp
  refine ⟨by kernel_rfl, vcRet_of [] ?_ rfl⟩
  simp
set_option maxHeartbeats 8000000 in
theorem do11_m (s : Nw) (hc : chk s = 0) (x : Ac) (h : x.what % 14 = 11) (hw : 0 ≤ x.what) (hb : x.b.length < 4294967296) : Meets Try.prog 22 [s.pv, x.pv] [] (Ret (.tup [(doS s x).pv, .b true])) := by
  have hf := fits_of hc
  have hf2 := fits_do hc x
  have hd : doS s x = (finS s x.conn (x.n.tmod 4) (IntKind.i64.wrap (x.n.tdiv 4))).1 := by simp [doS, h]
  rw [hd] at hf2 ⊢
  refine meetsH [] tbOk mixed Try.func22 pl22 rfl rfl ?_
  simp [Try.ntmps22, Ac.rem h hw]
  refine (Finish_m s hf x.conn (x.n.tmod 4) (IntKind.i64.wrap (x.n.tdiv 4))).mono ?_
  rintro _ rfl
  simp
  refine (finishR_m s hf x.conn (x.n.tmod 4) (IntKind.i64.wrap (x.n.tdiv 4))).mono ?_
  rintro _ rfl
  simp
  refine effCall (same_m _ hf2) ?_
  simp
  refine ⟨by kernel_rfl, vcRet_of [] ?_ rfl⟩
  simp
set_option maxHeartbeats 8000000 in
theorem do12_m (s : Nw) (hc : chk s = 0) (x : Ac) (h : x.what % 14 = 12) (hw : 0 ≤ x.what) (hb : x.b.length < 4294967296) : Meets Try.prog 22 [s.pv, x.pv] [] (Ret (.tup [(doS s x).pv, .b true])) := by
  have hf := fits_of hc
  have hf2 := fits_do hc x
  have hd : doS s x = (planS s x.n x.p).1 := by simp [doS, h]
  rw [hd] at hf2 ⊢
  refine meetsH [] tbOk mixed Try.func22 pl22 rfl rfl ?_
  simp [Try.ntmps22, Ac.rem h hw]
  refine (Plan_m s hf x.n x.p).mono ?_
  rintro _ rfl
  simp
  refine (planR_m s hf x.n x.p).mono ?_
  rintro _ rfl
  simp
  refine effCall (same_m _ hf2) ?_
  simp
  refine ⟨by kernel_rfl, vcRet_of [] ?_ rfl⟩
  simp
set_option maxHeartbeats 8000000 in
theorem do13_m (s : Nw) (hc : chk s = 0) (x : Ac) (h : x.what % 14 = 13) (hw : 0 ≤ x.what) : Meets Try.prog 22 [s.pv, x.pv] [] (Ret (.tup [(doS s x).pv, .b true])) := by
  have hf := fits_of hc
  have hd : doS s x = s := by simp [doS, h]
  rw [hd]
  refine meetsH [] tbOk mixed Try.func22 pl22 rfl rfl ?_
  simp [Try.ntmps22, Ac.rem h hw]
  refine (Due_m s hf).mono ?_
  rintro _ rfl
  simp
  refine (dueR_m s hf).mono ?_
  rintro _ rfl
  simp
  refine (Find_m s hf x.conn).mono ?_
  rintro _ rfl
  have hz : (default : Cn).up.Fits ∧ (default : Cn).dn.Fits := ⟨⟨by decide, by decide⟩, by decide, by decide⟩
  by_cases hfe : (findE s x.conn).2 = 0
  · obtain ⟨c, p, A⟩ := at_of hf hfe
    simp [hfe, A.cn, cn_explicit c]
    refine (findC_m s hf x.conn).mono ?_
    rintro _ rfl
    simp [hfe, A.cn, cn_explicit c]
    refine (Count_m s hf x.n).mono ?_
    rintro _ rfl
    by_cases hk : knownE s x.n = 0
    all_goals
      simp [hk]
      refine (countR_m s hf x.n).mono ?_
      rintro _ rfl
      simp [hk]
      refine effCall (sameConn_m c A.upF A.dnF) ?_
      simp
      refine ⟨by kernel_rfl, vcRet_of [] ?_ rfl⟩
      simp
  · simp [hfe, cn_explicit default]
    refine (findC_m s hf x.conn).mono ?_
    rintro _ rfl
    simp [hfe, cn_explicit default]
    refine (Count_m s hf x.n).mono ?_
    rintro _ rfl
    by_cases hk : knownE s x.n = 0
    all_goals
      simp [hk]
      refine (countR_m s hf x.n).mono ?_
      rintro _ rfl
      simp [hk]
      refine effCall (sameConn_m default hz.1 hz.2) ?_
      simp
      refine ⟨by kernel_rfl, vcRet_of [] ?_ rfl⟩
      simp
theorem do_m (s : Nw) (hc : chk s = 0) (x : Ac) (hw : 0 ≤ x.what) (hb : x.b.length < 4294967296) : Meets Try.prog 22 [s.pv, x.pv] [] (Ret (.tup [(doS s x).pv, .b true])) := by
  have h : x.what % 14 = 0 ∨ x.what % 14 = 1 ∨ x.what % 14 = 2 ∨ x.what % 14 = 3 ∨ x.what % 14 = 4 ∨ x.what % 14 = 5 ∨ x.what % 14 = 6 ∨ x.what % 14 = 7 ∨ x.what % 14 = 8 ∨ x.what % 14 = 9 ∨ x.what % 14 = 10 ∨ x.what % 14 = 11 ∨ x.what % 14 = 12 ∨ x.what % 14 = 13 := by omega
  rcases h with h | h | h | h | h | h | h | h | h | h | h | h | h | h
  · exact do0_m s hc x h hw hb
  · exact do1_m s hc x h hw hb
  · exact do2_m s hc x h hw hb
  · exact do3_m s hc x h hw hb
  · exact do4_m s hc x h hw hb
  · exact do5_m s hc x h hw hb
  · exact do6_m s hc x h hw hb
  · exact do7_m s hc x h hw hb
  · exact do8_m s hc x h hw hb
  · exact do9_m s hc x h hw hb
  · exact do10_m s hc x h hw hb
  · exact do11_m s hc x h hw hb
  · exact do12_m s hc x h hw hb
  · exact do13_m s hc x h hw
end Go.Proofs.Ytgoklgibhmddoaa
