/- New, acts, the reference runs. No condition. -/
import Derived.Test.YtajjmhpdiikjhaaGreatN11
namespace Go.Proofs.YtajjmhpdiikjhaaGreat.Po
set_option maxRecDepth 100000
open Go.RowKit

def fits (b m q i a : Int) : Prop := 0 ≤ b ∧ b < 16 ∧ 1 ≤ m ∧ m ≤ 64 ∧ 0 ≤ q ∧ q ≤ 64 ∧ 1 ≤ i ∧ i ≤ 1000000000000 ∧ 1 ≤ a ∧ a ≤ 1000000000000
theorem new_no {b m q i a : Int} (h : ¬ fits b m q i a) : new b m q i a = (Po.z, 7) := if_neg h
theorem new_yes {b m q i a : Int} (h : fits b m q i a) : new b m q i a = (⟨b, m, 0, false, ⟨m, i, a, []⟩, [], [], ⟨q, []⟩⟩, 0) := if_pos h
set_option maxHeartbeats 4000000 in
theorem new_m (b m q i a : Int) : Meets Tryz.prog 30 [.i b, .agg [.i m, .i q, .i i, .i a]] [] (Ret (.tup [(new b m q i a).1.pv, .i (new b m q i a).2])) := by
  refine meetsH [] tbOk mixed Tryz.func30 pl30 rfl rfl ?_
  simp [Tryz.ntmps30]
  refine (Id.new_m m i a).mono ?_
  rintro _ rfl
  simp
  refine (Wa.new_m q).mono ?_
  rintro _ rfl
  by_cases h1 : b < 0
  · have hn := new_no (b := b) (m := m) (q := q) (i := i) (a := a) fun h => absurd h.1 (by omega)
    simp [h1]
    refine vcRet_of [] ?_ rfl
    simp [hn, Po.z]
  by_cases h2 : 16 ≤ b
  · have hn := new_no (b := b) (m := m) (q := q) (i := i) (a := a) fun h => absurd h.2.1 (by omega)
    simp [h1, h2]
    refine vcRet_of [] ?_ rfl
    simp [hn, Po.z]
  by_cases h3 : m < 1
  · have hn := new_no (b := b) (m := m) (q := q) (i := i) (a := a) fun h => absurd h.2.2.1 (by omega)
    simp [h1, h2, h3]
    refine vcRet_of [] ?_ rfl
    simp [hn, Po.z]
  cases hi : Id.nums m i a
  · have hn := new_no (b := b) (m := m) (q := q) (i := i) (a := a) fun h => by
      have h := h.2.2
      simp [Id.nums, Id.inB] at hi
      omega
    have e : Id.new m i a = (⟨0, 0, 0, []⟩, 7) := by simp [Id.new, hi]
    simp [h1, h2, h3, e]
    refine vcRet_of [] ?_ rfl
    simp [hn, Po.z]
  have e : Id.new m i a = (⟨m, i, a, []⟩, 0) := by simp [Id.new, hi]
  simp [Id.nums, Id.inB] at hi
  cases hq : Wa.room q
  · have hn := new_no (b := b) (m := m) (q := q) (i := i) (a := a) fun h => by
      have h := h.2.2
      simp [Wa.room] at hq
      omega
    have e2 : Wa.new q = (⟨0, []⟩, 7) := by simp [Wa.new, hq]
    simp [h1, h2, h3, e, e2]
    refine vcRet_of [] ?_ rfl
    simp [hn, Po.z]
  have e2 : Wa.new q = (⟨q, []⟩, 0) := by simp [Wa.new, hq]
  simp [Wa.room] at hq
  have hn := new_yes (b := b) (m := m) (q := q) (i := i) (a := a) ⟨by omega, by omega, by omega, by omega, by omega, by omega, by omega, by omega, by omega, by omega⟩
  simp [h1, h2, h3, e, e2]
  refine vcRet_of [] ?_ rfl
  simp [hn]
set_option maxHeartbeats 4000000 in
theorem refNew_m (b m q i a : Int) : Meets Tryz.prog 31 [.i b, .agg [.i m, .i q, .i i, .i a]] [] (Ret (.tup [(new b m q i a).1.pv, .i (new b m q i a).2])) := by
  refine meetsH [] tbOk mixed Tryz.func31 pl31 rfl rfl ?_
  by_cases h1 : b < 0
  · have hn := new_no (b := b) (m := m) (q := q) (i := i) (a := a) fun h => absurd h.1 (by omega)
    simp [Tryz.ntmps31, h1]
    refine vcRet_of [] ?_ rfl
    simp [hn, Po.z]
  by_cases h2 : 16 ≤ b
  · have hn := new_no (b := b) (m := m) (q := q) (i := i) (a := a) fun h => absurd h.2.1 (by omega)
    simp [Tryz.ntmps31, h1, h2]
    refine vcRet_of [] ?_ rfl
    simp [hn, Po.z]
  by_cases h3 : m < 1
  · have hn := new_no (b := b) (m := m) (q := q) (i := i) (a := a) fun h => absurd h.2.2.1 (by omega)
    simp [Tryz.ntmps31, h1, h2, h3]
    refine vcRet_of [] ?_ rfl
    simp [hn, Po.z]
  by_cases h4 : 64 < m
  · have hn := new_no (b := b) (m := m) (q := q) (i := i) (a := a) fun h => absurd h.2.2.2.1 (by omega)
    simp [Tryz.ntmps31, h1, h2, h3, h4]
    refine vcRet_of [] ?_ rfl
    simp [hn, Po.z]
  by_cases h5 : q < 0
  · have hn := new_no (b := b) (m := m) (q := q) (i := i) (a := a) fun h => absurd h.2.2.2.2.1 (by omega)
    simp [Tryz.ntmps31, h1, h2, h3, h4, h5]
    refine vcRet_of [] ?_ rfl
    simp [hn, Po.z]
  by_cases h6 : 64 < q
  · have hn := new_no (b := b) (m := m) (q := q) (i := i) (a := a) fun h => absurd h.2.2.2.2.2.1 (by omega)
    simp [Tryz.ntmps31, h1, h2, h3, h4, h5, h6]
    refine vcRet_of [] ?_ rfl
    simp [hn, Po.z]
  by_cases h7 : i < 1
  · have hn := new_no (b := b) (m := m) (q := q) (i := i) (a := a) fun h => absurd h.2.2.2.2.2.2.1 (by omega)
    simp [Tryz.ntmps31, h1, h2, h3, h4, h5, h6, h7]
    refine vcRet_of [] ?_ rfl
    simp [hn, Po.z]
  simp [Tryz.ntmps31, h1, h2, h3, h4, h5, h6, h7]
  refine (refTime_m i).mono ?_
  rintro _ rfl
  cases h8 : timeOk i
  · have hn := new_no (b := b) (m := m) (q := q) (i := i) (a := a) fun h => by
      have h := h.2.2.2.2.2.2
      simp [timeOk] at h8
      omega
    simp
    refine vcRet_of [] ?_ rfl
    simp [hn, Po.z]
  have h8 := timeOk_iff.1 h8
  by_cases h9 : a < 1
  · have hn := new_no (b := b) (m := m) (q := q) (i := i) (a := a) fun h => absurd h.2.2.2.2.2.2.2.2.1 (by omega)
    simp [h9]
    refine vcRet_of [] ?_ rfl
    simp [hn, Po.z]
  simp [h9]
  refine (refTime_m a).mono ?_
  rintro _ rfl
  cases h10 : timeOk a
  · have hn := new_no (b := b) (m := m) (q := q) (i := i) (a := a) fun h => by
      have h := h.2.2.2.2.2.2.2.2
      simp [timeOk] at h10
      omega
    simp
    refine vcRet_of [] ?_ rfl
    simp [hn, Po.z]
  have h10 := timeOk_iff.1 h10
  have hn := new_yes (b := b) (m := m) (q := q) (i := i) (a := a) ⟨by omega, by omega, by omega, by omega, by omega, by omega, by omega, by omega, by omega, by omega⟩
  simp
  refine vcRet_of [] ?_ rfl
  simp [hn]
/-- A call. -/
structure Act where
  what : Int
  call : Int
  conn : Int
  at_ : Int
  yes : Bool
instance : Inhabited Act := ⟨⟨0, 0, 0, 0, false⟩⟩
@[simp] def Act.ds (x : Act) : List D := [.v (.int .u8 x.what), .v (.int .i64 x.call), .v (.int .i64 x.conn), .v (.int .i64 x.at_), .v (.bool x.yes)]
@[simp] def Act.pv (x : Act) : PV := .agg [.d (.v (.int .u8 x.what)), .i x.call, .i x.conn, .i x.at_, .b x.yes]
def Act.m (x : Act) : Int := x.what.tmod 12
def doA (s : Po) (x : Act) : Out :=
  if x.m ≤ 3 then ask s x.call x.at_
  else if x.m ≤ 5 then dialled s x.call x.conn x.yes
  else if x.m ≤ 8 then free s x.call x.yes
  else if x.m = 9 then cancel s x.call
  else if x.m = 10 ∨ x.yes = false then tick s x.at_
  else shut s
theorem act_cases {x : Act} (h : 0 ≤ x.what) : x.m = 0 ∨ x.m = 1 ∨ x.m = 2 ∨ x.m = 3 ∨ x.m = 4 ∨ x.m = 5 ∨ x.m = 6 ∨ x.m = 7 ∨ x.m = 8 ∨ x.m = 9 ∨ x.m = 10 ∨ x.m = 11 := by
  have : x.m = x.what % 12 := Int.tmod_eq_emod_of_nonneg h
  omega
set_option maxHeartbeats 16000000 in
theorem do_m (s : Po) (hh : Held s) (x : Act) (h : 0 ≤ x.what) : Meets Tryz.prog 12 [s.pv, x.pv] [] (Ret (.tup [(doA s x).1.pv, (doA s x).2.1.pv, .d (el (doA s x).2.2.1), .i (doA s x).2.2.2])) := by
  refine meetsH [] tbOk mixed Tryz.func12 pl12 rfl rfl ?_
  have hA := ask_m s hh x.call x.at_
  have hD := dialled_m s hh x.call x.conn x.yes
  have hF := free_m s hh x.call x.yes
  have hC := cancel_m s hh x.call
  have hT := tick_m s hh x.at_
  have hS := shut_m s hh
  simp at hA hD hF hC hT hS
  rcases act_cases h with hm | hm | hm | hm | hm | hm | hm | hm | hm | hm | hm | hm
  case' inl | inr.inl | inr.inr.inl | inr.inr.inr.inl =>
    have e : doA s x = ask s x.call x.at_ := by rw [doA, if_pos (by omega)]
    have hm : x.what.tmod 12 = _ := hm
    rw [e]
    simp [Tryz.ntmps12, hm]
    refine hA.mono ?_
    rintro _ rfl
    simp
    exact vcRet_of [] (by simp) rfl
  case' inr.inr.inr.inr.inl | inr.inr.inr.inr.inr.inl =>
    have e : doA s x = dialled s x.call x.conn x.yes := by rw [doA, if_neg (by omega), if_pos (by omega)]
    have hm : x.what.tmod 12 = _ := hm
    rw [e]
    simp [Tryz.ntmps12, hm]
    refine hD.mono ?_
    rintro _ rfl
    simp
    exact vcRet_of [] (by simp) rfl
  case' inr.inr.inr.inr.inr.inr.inl | inr.inr.inr.inr.inr.inr.inr.inl | inr.inr.inr.inr.inr.inr.inr.inr.inl =>
    have e : doA s x = free s x.call x.yes := by rw [doA, if_neg (by omega), if_neg (by omega), if_pos (by omega)]
    have hm : x.what.tmod 12 = _ := hm
    rw [e]
    simp [Tryz.ntmps12, hm]
    refine hF.mono ?_
    rintro _ rfl
    simp
    exact vcRet_of [] (by simp) rfl
  case' inr.inr.inr.inr.inr.inr.inr.inr.inr.inl =>
    have e : doA s x = cancel s x.call := by rw [doA, if_neg (by omega), if_neg (by omega), if_neg (by omega), if_pos (by omega)]
    have hm : x.what.tmod 12 = _ := hm
    rw [e]
    simp [Tryz.ntmps12, hm]
    refine hC.mono ?_
    rintro _ rfl
    simp
    exact vcRet_of [] (by simp) rfl
  case' inr.inr.inr.inr.inr.inr.inr.inr.inr.inr.inl =>
    have e : doA s x = tick s x.at_ := by rw [doA, if_neg (by omega), if_neg (by omega), if_neg (by omega), if_neg (by omega), if_pos (.inl hm)]
    have hm : x.what.tmod 12 = _ := hm
    rw [e]
    simp [Tryz.ntmps12, hm]
    refine hT.mono ?_
    rintro _ rfl
    simp
    exact vcRet_of [] (by simp) rfl
  case' inr.inr.inr.inr.inr.inr.inr.inr.inr.inr.inr =>
    cases hy : x.yes
    · have e : doA s x = tick s x.at_ := by rw [doA, if_neg (by omega), if_neg (by omega), if_neg (by omega), if_neg (by omega), if_pos (.inr hy)]
      have hm : x.what.tmod 12 = _ := hm
      rw [e]
      simp [Tryz.ntmps12, hm, hy]
      refine hT.mono ?_
      rintro _ rfl
      simp
      exact vcRet_of [] (by simp) rfl
    · have e : doA s x = shut s := by rw [doA, if_neg (by omega), if_neg (by omega), if_neg (by omega), if_neg (by omega), if_neg (by rw [hy]; simp; omega)]
      have hm : x.what.tmod 12 = _ := hm
      rw [e]
      simp [Tryz.ntmps12, hm, hy]
      refine hS.mono ?_
      rintro _ rfl
      simp
      exact vcRet_of [] (by simp) rfl
end Go.Proofs.YtajjmhpdiikjhaaGreat.Po
namespace Go.Proofs.YtajjmhpdiikjhaaGreat.Po
set_option maxRecDepth 100000
open Go.RowKit

theorem ask_noeff (s : Po) (c d : Int) : (ask s c d).2.2.1 = [] := by
  have hk : (askK s c d).2.2.1 = [] := by
    have h : ∀ {p : Prop} [Decidable p] {a b : Out}, a.2.2.1 = [] → b.2.2.1 = [] → (if p then a else b).2.2.1 = [] := fun ha hb => by split <;> assumption
    unfold askK
    repeat' (first | rfl | refine h ?_ ?_)
  unfold ask guarded
  split
  · exact hk
  · rfl
theorem cancel_noeff (s : Po) (c : Int) : (cancel s c).2.2.1 = [] := by
  have hk : (cancelK s c).2.2.1 = [] := by
    have h : ∀ {p : Prop} [Decidable p] {a b : Out}, a.2.2.1 = [] → b.2.2.1 = [] → (if p then a else b).2.2.1 = [] := fun ha hb => by split <;> assumption
    unfold cancelK
    repeat' (first | rfl | refine h ?_ ?_)
  unfold cancel guarded
  split
  · exact hk
  · rfl
set_option maxHeartbeats 16000000 in
theorem ref_m (s : Po) (hh : Held s) (x : Act) (h : 0 ≤ x.what) : Meets Tryz.prog 13 [s.pv, x.pv] [] (Ret (.tup [(doA s x).1.pv, (doA s x).2.1.pv, .d (el (doA s x).2.2.1), .i (doA s x).2.2.2])) := by
  refine meetsH [] tbOk mixed Tryz.func13 pl13 rfl rfl ?_
  have hA := refAsk_m s hh x.call x.at_
  have hD := refDialled_m s hh x.call x.conn x.yes
  have hF := refFree_m s hh x.call x.yes
  have hC := refCancel_m s hh x.call
  have hT := refTick_m s hh x.at_
  have hS := refShut_m s hh
  have nA := ask_noeff s x.call x.at_
  have nC := cancel_noeff s x.call
  simp at hA hD hF hC hT hS
  rcases act_cases h with hm | hm | hm | hm | hm | hm | hm | hm | hm | hm | hm | hm
  case' inl | inr.inl | inr.inr.inl | inr.inr.inr.inl =>
    have e : doA s x = ask s x.call x.at_ := by rw [doA, if_pos (by omega)]
    have hm : x.what.tmod 12 = _ := hm
    rw [e]
    simp [Tryz.ntmps13, hm]
    refine hA.mono ?_
    rintro _ rfl
    simp
    refine ⟨by kernel_rfl, ?_⟩
    exact vcRet_of [] (by simp [nA]) rfl
  case' inr.inr.inr.inr.inl | inr.inr.inr.inr.inr.inl =>
    have e : doA s x = dialled s x.call x.conn x.yes := by rw [doA, if_neg (by omega), if_pos (by omega)]
    have hm : x.what.tmod 12 = _ := hm
    rw [e]
    simp [Tryz.ntmps13, hm]
    refine hD.mono ?_
    rintro _ rfl
    simp
    exact vcRet_of [] (by simp) rfl
  case' inr.inr.inr.inr.inr.inr.inl | inr.inr.inr.inr.inr.inr.inr.inl | inr.inr.inr.inr.inr.inr.inr.inr.inl =>
    have e : doA s x = free s x.call x.yes := by rw [doA, if_neg (by omega), if_neg (by omega), if_pos (by omega)]
    have hm : x.what.tmod 12 = _ := hm
    rw [e]
    simp [Tryz.ntmps13, hm]
    refine hF.mono ?_
    rintro _ rfl
    simp
    exact vcRet_of [] (by simp) rfl
  case' inr.inr.inr.inr.inr.inr.inr.inr.inr.inl =>
    have e : doA s x = cancel s x.call := by rw [doA, if_neg (by omega), if_neg (by omega), if_neg (by omega), if_pos (by omega)]
    have hm : x.what.tmod 12 = _ := hm
    rw [e]
    simp [Tryz.ntmps13, hm]
    refine hC.mono ?_
    rintro _ rfl
    simp
    refine ⟨by kernel_rfl, ?_⟩
    exact vcRet_of [] (by simp [nC]) rfl
  case' inr.inr.inr.inr.inr.inr.inr.inr.inr.inr.inl =>
    have e : doA s x = tick s x.at_ := by rw [doA, if_neg (by omega), if_neg (by omega), if_neg (by omega), if_neg (by omega), if_pos (.inl hm)]
    have hm : x.what.tmod 12 = _ := hm
    rw [e]
    simp [Tryz.ntmps13, hm]
    refine hT.mono ?_
    rintro _ rfl
    simp
    exact vcRet_of [] (by simp) rfl
  case' inr.inr.inr.inr.inr.inr.inr.inr.inr.inr.inr =>
    cases hy : x.yes
    · have e : doA s x = tick s x.at_ := by rw [doA, if_neg (by omega), if_neg (by omega), if_neg (by omega), if_neg (by omega), if_pos (.inr hy)]
      have hm : x.what.tmod 12 = _ := hm
      rw [e]
      simp [Tryz.ntmps13, hm, hy]
      refine hT.mono ?_
      rintro _ rfl
      simp
      exact vcRet_of [] (by simp) rfl
    · have e : doA s x = shut s := by rw [doA, if_neg (by omega), if_neg (by omega), if_neg (by omega), if_neg (by omega), if_neg (by rw [hy]; simp; omega)]
      have hm : x.what.tmod 12 = _ := hm
      rw [e]
      simp [Tryz.ntmps13, hm, hy]
      refine hS.mono ?_
      rintro _ rfl
      simp
      exact vcRet_of [] (by simp) rfl
/-! The example. -/
def a_ (w c n t : Int) (y : Bool) : Act := ⟨w, c, n, t, y⟩
def exActs : List Act := [a_ 0 1 0 50 false, a_ 0 2 0 20 false, a_ 0 3 0 50 false, a_ 4 1 7 0 true, a_ 6 1 0 0 true, a_ 6 2 0 0 true, a_ 10 0 0 9 false, a_ 0 3 0 50 false, a_ 6 3 0 0 false, a_ 0 4 0 20 false, a_ 9 4 0 0 false, a_ 11 0 0 0 true, a_ 4 4 8 0 true]
def exS (now : Int) (sh : Bool) (cs : List Id.Cn) (ls : List Ls) (ds : List Dl) (ws : List Wa.Wt) : Po := ⟨0, 1, now, sh, ⟨1, 10, 100, cs⟩, ls, ds, ⟨1, ws⟩⟩
theorem ex0 : new 0 1 1 10 100 = (exS 0 false [] [] [] [], 0) := by decide
theorem ex1 : doA (exS 0 false [] [] [] []) (a_ 0 1 0 50 false) = (exS 0 false [] [] [⟨1, false⟩] [], ⟨2, 0, 0⟩, [], 0) := by decide
theorem ex2 : doA (exS 0 false [] [] [⟨1, false⟩] []) (a_ 0 2 0 20 false) = (exS 0 false [] [] [⟨1, false⟩] [⟨2, 0, 20⟩], ⟨3, 0, 0⟩, [], 0) := by decide
theorem ex3 : doA (exS 0 false [] [] [⟨1, false⟩] [⟨2, 0, 20⟩]) (a_ 0 3 0 50 false) = (exS 0 false [] [] [⟨1, false⟩] [⟨2, 0, 20⟩], ⟨4, 0, 0⟩, [], 0) := by decide
theorem ex4 : doA (exS 0 false [] [] [⟨1, false⟩] [⟨2, 0, 20⟩]) (a_ 4 1 7 0 true) = (exS 0 false [] [⟨1, 7, 0⟩] [] [⟨2, 0, 20⟩], ⟨1, 0, 7⟩, [], 0) := by decide
theorem ex5 : doA (exS 0 false [] [⟨1, 7, 0⟩] [] [⟨2, 0, 20⟩]) (a_ 6 1 0 0 true) = (exS 0 false [] [⟨2, 7, 0⟩] [] [], ⟨7, 0, 0⟩, [⟨1, 0, 2, 7⟩], 0) := by decide
theorem ex6 : doA (exS 0 false [] [⟨2, 7, 0⟩] [] []) (a_ 6 2 0 0 true) = (exS 0 false [⟨7, 0, 0⟩] [] [] [], ⟨7, 0, 0⟩, [], 0) := by decide
theorem ex7 : doA (exS 0 false [⟨7, 0, 0⟩] [] [] []) (a_ 10 0 0 9 false) = (exS 9 false [⟨7, 0, 0⟩] [] [] [], ⟨7, 0, 0⟩, [], 0) := by decide
theorem ex8 : doA (exS 9 false [⟨7, 0, 0⟩] [] [] []) (a_ 0 3 0 50 false) = (exS 9 false [] [⟨3, 7, 0⟩] [] [], ⟨1, 0, 7⟩, [], 0) := by decide
theorem ex9 : doA (exS 9 false [] [⟨3, 7, 0⟩] [] []) (a_ 6 3 0 0 false) = (exS 9 false [] [] [] [], ⟨7, 0, 0⟩, [⟨11, 0, 0, 7⟩], 0) := by decide
theorem ex10 : doA (exS 9 false [] [] [] []) (a_ 0 4 0 20 false) = (exS 9 false [] [] [⟨4, false⟩] [], ⟨2, 0, 0⟩, [], 0) := by decide
theorem ex11 : doA (exS 9 false [] [] [⟨4, false⟩] []) (a_ 9 4 0 0 false) = (exS 9 false [] [] [⟨4, true⟩] [], ⟨7, 0, 0⟩, [], 0) := by decide
theorem ex12 : doA (exS 9 false [] [] [⟨4, true⟩] []) (a_ 11 0 0 0 true) = (exS 9 true [] [] [⟨4, true⟩] [], ⟨7, 0, 0⟩, [], 0) := by decide
theorem ex13 : doA (exS 9 true [] [] [⟨4, true⟩] []) (a_ 4 4 8 0 true) = (exS 9 true [] [] [] [], ⟨7, 0, 0⟩, [⟨11, 0, 0, 8⟩], 0) := by decide
end Go.Proofs.YtajjmhpdiikjhaaGreat.Po
