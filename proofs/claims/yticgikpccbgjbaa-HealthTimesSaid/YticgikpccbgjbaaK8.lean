/- Contracts: marking a backend, the outcome of a check, IndexFunc, the stable sort. No condition. -/
import Derived.Test.YticgikpccbgjbaaK7
namespace Go.Proofs.Yticgikpccbgjbaa
open Go.RowKit

/-- A backend that is marked. -/
def markB (b : Bk) (up : Bool) : Bk := ⟨up, 0, b.next, b.probe, b.began⟩
def markL (b : Bk) (k : Nat) (up : Bool) (t : Int) : List Ch := if b.up = up then [] else [⟨k, up, t⟩]
set_option maxRecDepth 100000 in
set_option maxHeartbeats 2000000 in
theorem mark_m (s : Hs) {k : Nat} {b : Bk} (hb : s.bs[k]? = some b) (up : Bool) (t : Int) (cs : List Ch) (hc : cs.length < 4294967290) :
    Meets Try.prog 57 [.ptr 1000000 0, .i k, .b up, .i t] [.box 76 (mcells s 1000001 (.rw 1000002 cs.length)), .row 42 5 (s.bs.map Bk.ds) false, .row 51 3 (cs.map Ch.ds) false]
      (fun r => r = ⟨.tup [], [.box 76 (mcells s 1000001 (.rw 1000002 (cs ++ markL b k up t).length)), .row 42 5 ((s.bs.set k (markB b up)).map Bk.ds) false, .grown 51 3 ((cs ++ markL b k up t).map Ch.ds)], []⟩) := by
  refine meetsH [] tbOk mixed Try.func57 pl57 rfl rfl ?_
  have hlt := lt_some hb
  have e : s.bs[k] = b := by rw [List.getElem?_eq_getElem hlt] at hb; exact Option.some.inj hb
  by_cases h1 : b.up = up
  · simp [Try.ntmps57, hlt, e, h1]
    refine vcRet_of [] ?_ rfl
    simp [markL, markB, h1]
  · simp [Try.ntmps57, hlt, e, h1]
    refine ⟨by omega, ?_⟩
    refine vcRet_of [] ?_ rfl
    simp [markL, markB, h1]
set_option maxRecDepth 100000 in
set_option maxHeartbeats 2000000 in
theorem mark0_m (s : Hs) {k : Nat} {b : Bk} (hb : s.bs[k]? = some b) (up : Bool) (t : Int) :
    Meets Try.prog 57 [.ptr 1000000 0, .i k, .b up, .i t] [.box 76 (mcells s 1000001 (.d (.v (.slice none 0 0)))), .row 42 5 (s.bs.map Bk.ds) false]
      (fun r => r = ⟨.tup [], [.box 76 (mcells s 1000001 (.rw 2000000 (markL b k up t).length)), .row 42 5 ((s.bs.set k (markB b up)).map Bk.ds) false], [.row 51 3 ((markL b k up t).map Ch.ds) false]⟩) := by
  refine meetsH [] tbOk mixed Try.func57 pl57 rfl rfl ?_
  have hlt := lt_some hb
  have e : s.bs[k] = b := by rw [List.getElem?_eq_getElem hlt] at hb; exact Option.some.inj hb
  by_cases h1 : b.up = up
  · simp [Try.ntmps57, hlt, e, h1]
    refine vcRet_prep [.cell 1000000 7 32 51 3] [32] (by simp [Prep.all, Prep.run]; rfl) ?_ rfl
    simp [markL, markB, h1]
  · simp [Try.ntmps57, hlt, e, h1]
    refine vcRet_of [32] ?_ rfl
    simp [markL, markB, h1]

set_option maxRecDepth 100000 in
set_option maxHeartbeats 4000000 in
theorem outcome_m (s : Hs) {k : Nat} {b : Bk} (hb : s.bs[k]? = some b) (hr : 0 ≤ b.run ∧ b.run < 1000) (ok : Bool) (t : Int) (cs : List Ch) (hc : cs.length < 4294967290) :
    Meets Try.prog 56 [.ptr 1000000 0, .i k, .b ok, .i t] [.box 76 (mcells s 1000001 (.rw 1000002 cs.length)), .row 42 5 (s.bs.map Bk.ds) false, .row 51 3 (cs.map Ch.ds) false]
      (fun r => r = ⟨.tup [], [.box 76 (mcells s 1000001 (.rw 1000002 (cs ++ outL s.c b k ok t).length)), .row 42 5 ((s.bs.set k (outB s.c b ok)).map Bk.ds) false, .grown 51 3 ((cs ++ outL s.c b k ok t).map Ch.ds)], []⟩) := by
  refine meetsH [] tbOk mixed Try.func56 pl56 rfl rfl ?_
  have hlt := lt_some hb
  have e : s.bs[k] = b := by rw [List.getElem?_eq_getElem hlt] at hb; exact Option.some.inj hb
  have w1 : IntKind.i64.wrap (b.run + 1) = b.run + 1 := small_wrap (by omega)
  by_cases h1 : ok = b.up
  · simp [Try.ntmps56, hlt, e, h1]
    refine vcRet_of [] ?_ rfl
    simp [outL, outB]
  simp [Try.ntmps56, hlt, e, h1, w1]
  refine effCall (limit_m s.c b.up) ?_
  by_cases h2 : b.run + 1 = lim s.c b.up
  · simp [h2]
    refine ⟨by kernel_rfl, ?_⟩
    have hm := mark_m ⟨s.c, s.now, s.bs.set k ⟨b.up, lim s.c b.up, b.next, 0, 0⟩⟩ (k := k) (b := ⟨b.up, lim s.c b.up, b.next, 0, 0⟩) (by simp [List.getElem?_set, hlt]) ok t cs hc
    simp at hm
    refine hm.mono ?_
    rintro _ rfl
    have h3 : ¬ b.up = ok := fun h => h1 h.symm
    have h4 : ok = !b.up := by cases ok <;> cases hu : b.up <;> simp_all
    simp
    refine vcRet_of [] ?_ rfl
    simp [outL, outB, h1, h2, markL, markB, h3, h4]
  · simp [h2]
    refine ⟨by kernel_rfl, ?_⟩
    refine vcRet_of [] ?_ rfl
    simp [outL, outB, h1, h2]
set_option maxRecDepth 100000 in
set_option maxHeartbeats 4000000 in
theorem outcome0_m (s : Hs) {k : Nat} {b : Bk} (hb : s.bs[k]? = some b) (hr : 0 ≤ b.run ∧ b.run < 1000) (ok : Bool) (t : Int) :
    Meets Try.prog 56 [.ptr 1000000 0, .i k, .b ok, .i t] [.box 76 (mcells s 1000001 (.d (.v (.slice none 0 0)))), .row 42 5 (s.bs.map Bk.ds) false]
      (fun r => r = ⟨.tup [], [.box 76 (mcells s 1000001 (.rw 2000000 (outL s.c b k ok t).length)), .row 42 5 ((s.bs.set k (outB s.c b ok)).map Bk.ds) false], [.row 51 3 ((outL s.c b k ok t).map Ch.ds) false]⟩) := by
  refine meetsH [] tbOk mixed Try.func56 pl56 rfl rfl ?_
  have hlt := lt_some hb
  have e : s.bs[k] = b := by rw [List.getElem?_eq_getElem hlt] at hb; exact Option.some.inj hb
  have w1 : IntKind.i64.wrap (b.run + 1) = b.run + 1 := small_wrap (by omega)
  by_cases h1 : ok = b.up
  · simp [Try.ntmps56, hlt, e, h1]
    refine vcRet_prep [.cell 1000000 7 57 51 3] [57] (by simp [Prep.all, Prep.run]; rfl) ?_ rfl
    simp [outL, outB]
  simp [Try.ntmps56, hlt, e, h1, w1]
  refine effCall (limit_m s.c b.up) ?_
  by_cases h2 : b.run + 1 = lim s.c b.up
  · simp [h2]
    refine ⟨by kernel_rfl, ?_⟩
    have hm := mark0_m ⟨s.c, s.now, s.bs.set k ⟨b.up, lim s.c b.up, b.next, 0, 0⟩⟩ (k := k) (b := ⟨b.up, lim s.c b.up, b.next, 0, 0⟩) (by simp [List.getElem?_set, hlt]) ok t
    simp at hm
    refine hm.mono ?_
    rintro _ rfl
    have h3 : ¬ b.up = ok := fun h => h1 h.symm
    have h4 : ok = !b.up := by cases ok <;> cases hu : b.up <;> simp_all
    simp
    refine vcRet_of [57] ?_ rfl
    simp [outL, outB, h1, h2, markL, markB, h3, h4]
  · simp [h2]
    refine ⟨by kernel_rfl, ?_⟩
    refine vcRet_prep [.cell 1000000 7 57 51 3] [57] (by simp [Prep.all, Prep.run]; rfl) ?_ rfl
    simp [outL, outB, h1, h2]

theorem hasId_m (b : Bk) (x : Ev) : Meets Try.prog 53 [b.pv, .ptr 1000000 0] [.box 37 x.ps] (fun r => r = ⟨.b (decide (b.probe = x.id)), [.box 37 x.ps], []⟩) := by
  refine meetsH [] tbOk mixed Try.func53 pl53 rfl rfl ?_
  simp [Try.ntmps53]
  refine vcRet_of [] ?_ rfl
  simp
set_option maxHeartbeats 1000000 in
theorem indexF_m (bs : List Bk) (x : Ev) (hl : bs.length < 4294967296) : Meets Try.prog 52 [.rw 1000000 bs.length, .clo 53 [.ptr 1000001 0]] [.row 42 5 (bs.map Bk.ds) false, .box 37 x.ps] (fun r => r = ⟨.i (findP bs x.id), [.row 42 5 (bs.map Bk.ds) false, .box 37 x.ps], []⟩) := by
  refine meetsH [] tbOk mixed Try.func52 pl52 rfl rfl ?_
  simp [Try.ntmps52]
  refine vc_loop (fun n σ => ∃ k : Nat, n = bs.length - k ∧ k ≤ bs.length ∧ noProbe bs x.id k ∧ σ = ⟨19, [(8, .i k), (7, .i bs.length), (0, .rw 1000000 bs.length), (1, .clo 53 [.ptr 1000001 0])], [(1000000, .row 42 5 (bs.map Bk.ds) false), (1000001, .box 37 x.ps)]⟩) ?_ ?_
  · exact ⟨_, _, ⟨0, rfl, Nat.zero_le _, fun i y h => absurd h (by omega), rfl⟩, [], _, rfl, by simp⟩
  rintro n σ ⟨k, rfl, hk, hno, rfl⟩
  by_cases hlt : k < bs.length
  · obtain ⟨b, hb, e⟩ := at_lt hlt
    simp [hlt, e]
    refine (hasId_m b x).mono ?_
    rintro _ rfl
    by_cases hp : b.probe = x.id
    · simp [hp]
      refine vcRet_of [] ?_ rfl
      simp [find_hit hb hp hno]
    · simp [hp, wrap_succ hlt hl]
      refine ⟨_, ?_, _, ⟨k + 1, rfl, hlt, fun i z hi hz => ?_, rfl⟩, [], _, rfl, by simp⟩
      · omega
      · by_cases hij : i = k
        · subst hij; rw [hb] at hz; cases hz; exact hp
        · exact hno i z (by omega) hz
  · obtain rfl : k = bs.length := by omega
    simp
    refine vcRet_of [] ?_ rfl
    simp [find_miss hno]
@[simp] def hsR (s : Hs) (R : Nat) : PV := .agg [.i s.c.n, .i s.c.iv, .i s.c.tm, .i s.c.ri, .i s.c.fa, .i s.now, .rw R s.bs.length]
theorem deadlineR_m (s : Hs) (b : Bk) : Meets Try.prog 46 [hsR s 1000000, b.pv] [.row 42 5 (s.bs.map Bk.ds) false] (fun r => r = ⟨.i (IntKind.i64.wrap (b.began + s.c.tm)), [.row 42 5 (s.bs.map Bk.ds) false], []⟩) := by
  refine meetsH [] tbOk mixed Try.func46 pl46 rfl rfl ?_
  simp [Try.ntmps46]
  exact vcRet_of [] (by simp) rfl
theorem isDueR_m (s : Hs) (b : Bk) : Meets Try.prog 50 [hsR s 1000000, b.pv] [.row 42 5 (s.bs.map Bk.ds) false] (fun r => r = ⟨.b (dueB s b), [.row 42 5 (s.bs.map Bk.ds) false], []⟩) := by
  refine meetsH [] tbOk mixed Try.func50 pl50 rfl rfl ?_
  by_cases h1 : b.probe = 0 <;> simp [Try.ntmps50, h1] <;> exact vcRet_of [] (by simp [dueB, h1]) rfl
set_option maxRecDepth 100000 in
set_option maxHeartbeats 2000000 in
theorem stable_m (s : Hs) (hl : s.bs.length < 4294967296) (q : D) (xs : List Int) (hx : xs.length ≤ 16) (hi : Idx s xs) :
    Meets Try.prog 64 [.rw 1000000 xs.length, .i xs.length, .clo 62 [.ptr 1000001 0]] [.row 3 1 (xs.map nds) false, .box 74 [.ptr 1000002 0], .box 76 (mcells s 1000003 (.d q)), .row 42 5 (s.bs.map Bk.ds) false]
      (fun r => r = ⟨.tup [], [.row 3 1 ((sortI (ltB s) xs).map nds) false, .box 74 [.ptr 1000002 0], .box 76 (mcells s 1000003 (.d q)), .row 42 5 (s.bs.map Bk.ds) false], []⟩) := by
  refine meetsH [] tbOk mixed Try.func64 pl64 rfl rfl ?_
  have h1 : ¬ (20 : Int) ≤ xs.length := by omega
  have h2 : ¬ (20 : Int) < xs.length := by omega
  simp [Try.ntmps64]
  refine vc_loop (fun n σ => n = 0 ∧ σ = ⟨63, [(7, .i 0), (8, .i 20), (6, .i 20), (0, .rw 1000000 xs.length), (1, .i xs.length), (2, .clo 62 [.ptr 1000001 0])], [(1000000, .row 3 1 (xs.map nds) false), (1000001, .box 74 [.ptr 1000002 0]), (1000002, .box 76 (mcells s 1000003 (.d q))), (1000003, .row 42 5 (s.bs.map Bk.ds) false)]⟩) ?_ ?_
  · exact ⟨_, _, ⟨rfl, rfl⟩, [], _, rfl, by simp⟩
  rintro n σ ⟨rfl, rfl⟩
  simp [h1]
  refine (isort_m s hl q xs (by omega) hi).mono ?_
  rintro _ rfl
  simp
  refine vc_loop (fun n σ => n = 0 ∧ σ = ⟨63, [(6, .i 20), (0, .rw 1000000 xs.length), (1, .i xs.length), (2, .clo 62 [.ptr 1000001 0])], [(1000000, .row 3 1 ((sortI (ltB s) xs).map nds) false), (1000001, .box 74 [.ptr 1000002 0]), (1000002, .box 76 (mcells s 1000003 (.d q))), (1000003, .row 42 5 (s.bs.map Bk.ds) false)]⟩) ?_ ?_
  · exact ⟨_, _, ⟨rfl, rfl⟩, [], _, rfl, by simp⟩
  rintro n σ ⟨rfl, rfl⟩
  simp [h2]
  refine vcRet_of [] ?_ rfl
  simp
set_option maxHeartbeats 2000000 in
theorem sort_m (s : Hs) (hl : s.bs.length < 4294967296) (q : D) (xs : List Int) (hx : xs.length ≤ 16) (hi : Idx s xs) :
    Meets Try.prog 61 [.rw 1000000 xs.length, .clo 62 [.ptr 1000001 0]] [.row 3 1 (xs.map nds) false, .box 74 [.ptr 1000002 0], .box 76 (mcells s 1000003 (.d q)), .row 42 5 (s.bs.map Bk.ds) false]
      (fun r => r = ⟨.tup [], [.row 3 1 ((sortI (ltB s) xs).map nds) false, .box 74 [.ptr 1000002 0], .box 76 (mcells s 1000003 (.d q)), .row 42 5 (s.bs.map Bk.ds) false], []⟩) := by
  refine meetsH [] tbOk mixed Try.func61 pl61 rfl rfl ?_
  simp [Try.ntmps61]
  refine (stable_m s hl q xs hx hi).mono ?_
  rintro _ rfl
  simp
  refine vcRet_of [] ?_ rfl
  simp
end Go.Proofs.Yticgikpccbgjbaa
