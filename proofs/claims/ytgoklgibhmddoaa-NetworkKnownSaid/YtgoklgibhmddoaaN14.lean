/- Contracts: network 14. No condition. -/
import Derived.Test.YtgoklgibhmddoaaN13
namespace Go.Proofs.Ytgoklgibhmddoaa
open Go.RowKit
set_option maxRecDepth 100000

def k4 : Nw := (writeS n3 1 [97, 98, 99, 100, 101, 102]).1
theorem ck4 : chk k4 = 0 := nok_iff.2 (nok_write (nok_iff.1 c3) _ _)
theorem ek4 : writeS n3 1 [97, 98, 99, 100, 101, 102] = (k4, 4, 0) := by decide
def k5 : Nw := (tickS k4 10).1
theorem ck5 : chk k5 = 0 := nok_iff.2 (nok_tick (nok_iff.1 ck4) _)
theorem ek5 : tickS k4 10 = (k5, [(3, 1)], 0) := by decide
def k6 : Nw := (takeS k5 1).1
theorem ck6 : chk k6 = 0 := nok_iff.2 (nok_take (nok_iff.1 ck5) _)
theorem ek6 : takeS k5 1 = (k6, [97, 98, 99, 100], 0, 0) := by decide
def k7 : Nw := (writeS k6 1 [101, 102]).1
theorem ck7 : chk k7 = 0 := nok_iff.2 (nok_write (nok_iff.1 ck6) _ _)
theorem ek7 : writeS k6 1 [101, 102] = (k7, 2, 0) := by decide
def k8 : Nw := (closeS k7 1).1
theorem ck8 : chk k8 = 0 := nok_iff.2 (nok_close (nok_iff.1 ck7) _)
theorem ek8 : closeS k7 1 = (k8, 0) := by decide
def k9 : Nw := (putS k8 1 [120] 0).1
theorem ck9 : chk k9 = 0 := nok_iff.2 (nok_put (nok_iff.1 ck8) _ _ _)
theorem ek9 : putS k8 1 [120] 0 = (k9, 0) := by decide
def k10 : Nw := (tickS k9 15).1
theorem ck10 : chk k10 = 0 := nok_iff.2 (nok_tick (nok_iff.1 ck9) _)
theorem ek10 : tickS k9 15 = (k10, [(3, 1)], 0) := by decide
def k11 : Nw := (takeS k10 1).1
theorem ck11 : chk k11 = 0 := nok_iff.2 (nok_take (nok_iff.1 ck10) _)
theorem ek11 : takeS k10 1 = (k11, [101, 102], 1, 0) := by decide
def k12 : Nw := (dialS k11 0).1
theorem ck12 : chk k12 = 0 := nok_iff.2 (nok_dial (nok_iff.1 ck11) _)
theorem ek12 : dialS k11 0 = (k12, 2, 0) := by decide
def k13 : Nw := (tickS k12 20).1
theorem ck13 : chk k13 = 0 := nok_iff.2 (nok_tick (nok_iff.1 ck12) _)
theorem ek13 : tickS k12 20 = (k13, [(1, 2)], 0) := by decide
def k14 : Nw := (putS k13 2 [104, 101, 108, 108, 111] 3).1
theorem ck14 : chk k14 = 0 := nok_iff.2 (nok_put (nok_iff.1 ck13) _ _ _)
theorem ek14 : putS k13 2 [104, 101, 108, 108, 111] 3 = (k14, 0) := by decide
def k15 : Nw := (finS k14 2 1 0).1
theorem ck15 : chk k15 = 0 := nok_iff.2 (nok_fin (nok_iff.1 ck14) _ _ _)
theorem ek15 : finS k14 2 1 0 = (k15, 0) := by decide
def k16 : Nw := (tickS k15 28).1
theorem ck16 : chk k16 = 0 := nok_iff.2 (nok_tick (nok_iff.1 ck15) _)
theorem ek16 : tickS k15 28 = (k16, [(4, 2)], 0) := by decide
def k17 : Nw := (readS k16 2 3).1
theorem ck17 : chk k17 = 0 := nok_iff.2 (nok_read (nok_iff.1 ck16) _ _)
theorem ek17 : readS k16 2 3 = (k17, [104, 101, 108], 0) := by decide
def k18 : Nw := (readS k17 2 9).1
theorem ck18 : chk k18 = 0 := nok_iff.2 (nok_read (nok_iff.1 ck17) _ _)
theorem ek18 : readS k17 2 9 = (k18, [108, 111], 0) := by decide
def k19 : Nw := (readS k18 2 9).1
theorem ck19 : chk k19 = 0 := nok_iff.2 (nok_read (nok_iff.1 ck18) _ _)
theorem ek19 : readS k18 2 9 = (k19, [], 121) := by decide
set_option maxHeartbeats 16000000 in
theorem lawKnown_m : Meets Try.prog 3 [] [] (Ret (.b true)) := by
  refine meetsH [] tbOk mixed Try.func3 pl3 rfl rfl ?_
  simp [Try.ntmps3]
  refine one_m.mono ?_
  rintro _ rfl
  simp
  refine (Write_m n3 (fits_of c3) 1 [97, 98, 99, 100, 101, 102] (by decide)).mono ?_
  rintro _ rfl
  rw [ek4]
  simp
  refine (Tick_m k4 (fits_of ck4) 10).mono ?_
  rintro _ rfl
  rw [ek5]
  simp
  refine (Take_m k5 (fits_of ck5) 1).mono ?_
  rintro _ rfl
  rw [ek6]
  simp
  refine (Write_m k6 (fits_of ck6) 1 [101, 102] (by decide)).mono ?_
  rintro _ rfl
  rw [ek7]
  simp
  refine (Close_m k7 (fits_of ck7) 1).mono ?_
  rintro _ rfl
  rw [ek8]
  simp
  refine (Put_m k8 (fits_of ck8) 1 [120] (by decide) 0).mono ?_
  rintro _ rfl
  rw [ek9]
  simp
  refine (Tick_m k9 (fits_of ck9) 15).mono ?_
  rintro _ rfl
  rw [ek10]
  simp
  refine (Take_m k10 (fits_of ck10) 1).mono ?_
  rintro _ rfl
  rw [ek11]
  simp [numsOf]
  refine (Dial_m k11 (fits_of ck11) 0).mono ?_
  rintro _ rfl
  rw [ek12]
  simp
  refine (Tick_m k12 (fits_of ck12) 20).mono ?_
  rintro _ rfl
  rw [ek13]
  simp
  refine (Put_m k13 (fits_of ck13) 2 [104, 101, 108, 108, 111] (by decide) 3).mono ?_
  rintro _ rfl
  rw [ek14]
  simp
  refine (Finish_m k14 (fits_of ck14) 2 1 0).mono ?_
  rintro _ rfl
  rw [ek15]
  simp
  refine (Tick_m k15 (fits_of ck15) 28).mono ?_
  rintro _ rfl
  rw [ek16]
  simp
  refine (Read_m k16 (fits_of ck16) 2 3).mono ?_
  rintro _ rfl
  rw [ek17]
  simp
  refine (Read_m k17 (fits_of ck17) 2 9).mono ?_
  rintro _ rfl
  rw [ek18]
  simp
  refine (Read_m k18 (fits_of ck18) 2 9).mono ?_
  rintro _ rfl
  rw [ek19]
  simp [numsOf]
  refine awake_m.mono ?_
  rintro _ rfl
  simp
  exact vcRet_of [] (by simp) rfl
end Go.Proofs.Ytgoklgibhmddoaa
