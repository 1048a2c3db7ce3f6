/- Contracts: network 3. No condition. -/
import Derived.Test.YtgoklgibhmddoaaN2
namespace Go.Proofs.Ytgoklgibhmddoaa
open Go.RowKit
set_option maxRecDepth 100000

/-- The directions, by pointers into a row's element. -/
@[simp] def upR (j : Nat) : PV := .agg [.rp 1000000 16 j 6, .rp 1000000 16 j 8, .rp 1000000 16 j 10, .rp 1000000 16 j 14, .rp 1000000 16 j 12, .i 3, .i 2]
@[simp] def dnR (j : Nat) : PV := .agg [.rp 1000000 16 j 7, .rp 1000000 16 j 9, .rp 1000000 16 j 11, .rp 1000000 16 j 15, .rp 1000000 16 j 13, .i 4, .i (-1)]
@[simp] def waysR (j : Nat) : PV := .agg [.rp 1000000 16 j 6, .rp 1000000 16 j 8, .rp 1000000 16 j 10, .rp 1000000 16 j 14, .rp 1000000 16 j 12, .i 3, .i 2, .rp 1000000 16 j 7, .rp 1000000 16 j 9, .rp 1000000 16 j 11, .rp 1000000 16 j 15, .rp 1000000 16 j 13, .i 4, .i (-1)]
theorem last_some {l : List Pc} {k : Nat} {p : Pc} (h : l[k]? = some p) (hk : k + 1 = l.length) : l.getLast? = some p := by
  rw [List.getLast?_eq_getElem?, show l.length - 1 = k by omega, h]
/-- A connection that is looked at closely: its lists as data, or one as a row of its own. -/
@[simp] def foD (XS : List (List D)) (PR : Nat → Bool) (j : Nat) (c : Cn) : MObj := .nest 67 16 XS PR [] (some (j, cnC c (.d (pcs c.up.ps)) (.d (pcs c.dn.ps)) (.d (bs c.up.ar)) (.d (bs c.dn.ar))))
@[simp] def foU (XS : List (List D)) (PR : Nat → Bool) (j : Nat) (c : Cn) (k n : Nat) : MObj := .nest 67 16 XS PR [(6, 119)] (some (j, cnC c (.rw k n) (.d (pcs c.dn.ps)) (.d (bs c.up.ar)) (.d (bs c.dn.ar))))
@[simp] def foP (XS : List (List D)) (PR : Nat → Bool) (j : Nat) (c : Cn) (k n : Nat) : MObj := .nest 67 16 XS PR [(7, 119)] (some (j, cnC c (.d (pcs c.up.ps)) (.rw k n) (.d (bs c.up.ar)) (.d (bs c.dn.ar))))
theorem waysFD_m (XS : List (List D)) (PR : Nat → Bool) (j : Nat) (c : Cn) : Meets Try.prog 31 [.rp 1000000 16 j 0] [foD XS PR j c] (fun r => r = ⟨waysR j, [foD XS PR j c], []⟩) := by
  refine meetsH [] tbOk mixed Try.func31 pl31 rfl rfl ?_
  simp [Try.ntmps31]
  refine ⟨by kernel_rfl, ?_⟩
  refine vcRet_of [] ?_ rfl
  simp
theorem waysFU_m (XS : List (List D)) (PR : Nat → Bool) (j : Nat) (c : Cn) : Meets Try.prog 31 [.rp 1000000 16 j 0] [foU XS PR j c 1000001 c.up.ps.length, rowP c.up.ps] (fun r => r = ⟨waysR j, [foU XS PR j c 1000001 c.up.ps.length, rowP c.up.ps], []⟩) := by
  refine meetsH [] tbOk mixed Try.func31 pl31 rfl rfl ?_
  simp [Try.ntmps31]
  refine ⟨by kernel_rfl, ?_⟩
  refine vcRet_of [] ?_ rfl
  simp
theorem waysFP_m (XS : List (List D)) (PR : Nat → Bool) (j : Nat) (c : Cn) : Meets Try.prog 31 [.rp 1000000 16 j 0] [foP XS PR j c 1000001 c.dn.ps.length, rowP c.dn.ps] (fun r => r = ⟨waysR j, [foP XS PR j c 1000001 c.dn.ps.length, rowP c.dn.ps], []⟩) := by
  refine meetsH [] tbOk mixed Try.func31 pl31 rfl rfl ?_
  simp [Try.ntmps31]
  refine ⟨by kernel_rfl, ?_⟩
  refine vcRet_of [] ?_ rfl
  simp
theorem flyingDD_m (XS : List (List D)) (PR : Nat → Bool) (j : Nat) (c : Cn) (h : c.dn.Fits) : Meets Try.prog 32 [dnR j] [foD XS PR j c] (fun r => r = ⟨.i (fly c.dn.ps), [foD XS PR j c], []⟩) := by
  obtain ⟨f1, f2⟩ := h
  have f1 : fly c.dn.ps + c.dn.ar.length < 4294967296 := f1
  refine meetsH [] tbOk mixed Try.func32 pl32 rfl rfl ?_
  simp [Try.ntmps32]
  refine vc_loop (fun m σ => ∃ k : Nat, m = c.dn.ps.length - k ∧ k ≤ c.dn.ps.length ∧ σ = ⟨22, [(11, .i k), (10, .i c.dn.ps.length), (9, .d (pcs c.dn.ps)), (3, .i (fly (c.dn.ps.take k)))], [(1000000, foD XS PR j c)]⟩) ?_ ?_
  · exact ⟨_, _, ⟨0, rfl, Nat.zero_le _, rfl⟩, [], _, rfl, by simp [fly]⟩
  rintro m σ ⟨k, rfl, hk, rfl⟩
  by_cases hlt : k < c.dn.ps.length
  · obtain ⟨p, hp, e⟩ := at_lt hlt
    have hft := fly_take hp
    have hle := fly_le c.dn.ps (k + 1)
    have hw : IntKind.i64.wrap ((fly (c.dn.ps.take k) : Int) + p.bytes.length) = (fly (c.dn.ps.take k) : Int) + p.bytes.length := IntWalk.i64_in _ (by omega)
    simp [hlt, e, hw, wrap_succ hlt f2]
    exact ⟨_, by omega, _, ⟨k + 1, rfl, hlt, rfl⟩, [], _, rfl, by simp [hft]⟩
  obtain rfl : k = c.dn.ps.length := by omega
  simp
  exact vcRet_of [] (by simp) rfl
theorem bytesDD_m (XS : List (List D)) (PR : Nat → Bool) (j : Nat) (c : Cn) (h : c.dn.Fits) : Meets Try.prog 33 [dnR j] [foD XS PR j c] (fun r => r = ⟨.i c.dn.n, [foD XS PR j c], []⟩) := by
  refine meetsH [] tbOk mixed Try.func33 pl33 rfl rfl ?_
  simp [Try.ntmps33]
  refine effCall (flyingDD_m XS PR j c h) ?_
  have hw : IntKind.i64.wrap ((fly c.dn.ps : Int) + c.dn.ar.length) = (fly c.dn.ps : Int) + c.dn.ar.length := IntWalk.i64_in _ (by have : fly c.dn.ps + c.dn.ar.length < 4294967296 := h.1; omega)
  simp [hw]
  refine ⟨by kernel_rfl, ?_⟩
  exact vcRet_of [] (by simp [Dr.n]) rfl
theorem lastDU_m (XS : List (List D)) (PR : Nat → Bool) (j : Nat) (c : Cn) (h : c.up.ps.length < 4294967296) (now by_ : Int) (hn : -1000000000000000000 < now + by_ ∧ now + by_ < 1000000000000000000) : Meets Try.prog 40 [upR j, .i now, .i by_] [foD XS PR j c] (fun r => r = ⟨.i (c.up.last now by_), [foD XS PR j c], []⟩) := by
  refine meetsH [] tbOk mixed Try.func40 pl40 rfl rfl ?_
  have hw : IntKind.i64.wrap (now + by_) = now + by_ := IntWalk.i64_in _ (by omega)
  by_cases h0 : c.up.ps.length = 0
  · have h0' : c.up.ps = [] := List.length_eq_zero_iff.1 h0
    simp [Try.ntmps40, h0', hw]
    exact vcRet_of [] (by simp [Dr.last, h0']) rfl
  · have hp0 : 0 < c.up.ps.length := by omega
    have hlt : c.up.ps.length - 1 < c.up.ps.length := by omega
    obtain ⟨p, hp, e⟩ := at_lt hlt
    have hl := last_some hp (by omega)
    have hwn : IntKind.i64.wrap ((c.up.ps.length : Int) - 1) = ((c.up.ps.length - 1 : Nat) : Int) := by rw [IntWalk.i64_in _ (by omega)]; omega
    simp [Try.ntmps40, hp0, hw, hwn, hlt, e]
    exact vcRet_of [] (by simp [Dr.last, hl]) rfl
theorem lastDD_m (XS : List (List D)) (PR : Nat → Bool) (j : Nat) (c : Cn) (h : c.dn.ps.length < 4294967296) (now by_ : Int) (hn : -1000000000000000000 < now + by_ ∧ now + by_ < 1000000000000000000) : Meets Try.prog 40 [dnR j, .i now, .i by_] [foD XS PR j c] (fun r => r = ⟨.i (c.dn.last now by_), [foD XS PR j c], []⟩) := by
  refine meetsH [] tbOk mixed Try.func40 pl40 rfl rfl ?_
  have hw : IntKind.i64.wrap (now + by_) = now + by_ := IntWalk.i64_in _ (by omega)
  by_cases h0 : c.dn.ps.length = 0
  · have h0' : c.dn.ps = [] := List.length_eq_zero_iff.1 h0
    simp [Try.ntmps40, h0', hw]
    exact vcRet_of [] (by simp [Dr.last, h0']) rfl
  · have hp0 : 0 < c.dn.ps.length := by omega
    have hlt : c.dn.ps.length - 1 < c.dn.ps.length := by omega
    obtain ⟨p, hp, e⟩ := at_lt hlt
    have hl := last_some hp (by omega)
    have hwn : IntKind.i64.wrap ((c.dn.ps.length : Int) - 1) = ((c.dn.ps.length - 1 : Nat) : Int) := by rw [IntWalk.i64_in _ (by omega)]; omega
    simp [Try.ntmps40, hp0, hw, hwn, hlt, e]
    exact vcRet_of [] (by simp [Dr.last, hl]) rfl
theorem flyingUU_m (XS : List (List D)) (PR : Nat → Bool) (j : Nat) (c : Cn) (h : c.up.Fits) : Meets Try.prog 32 [upR j] [foU XS PR j c 1000001 c.up.ps.length, rowP c.up.ps] (fun r => r = ⟨.i (fly c.up.ps), [foU XS PR j c 1000001 c.up.ps.length, rowP c.up.ps], []⟩) := by
  obtain ⟨f1, f2⟩ := h
  have f1 : fly c.up.ps + c.up.ar.length < 4294967296 := f1
  refine meetsH [] tbOk mixed Try.func32 pl32 rfl rfl ?_
  simp [Try.ntmps32]
  refine vc_loop (fun m σ => ∃ k : Nat, m = c.up.ps.length - k ∧ k ≤ c.up.ps.length ∧ σ = ⟨22, [(11, .i k), (10, .i c.up.ps.length), (9, .rw 1000001 c.up.ps.length), (3, .i (fly (c.up.ps.take k)))], [(1000000, foU XS PR j c 1000001 c.up.ps.length), (1000001, rowP c.up.ps)]⟩) ?_ ?_
  · exact ⟨_, _, ⟨0, rfl, Nat.zero_le _, rfl⟩, [], _, rfl, by simp [fly]⟩
  rintro m σ ⟨k, rfl, hk, rfl⟩
  by_cases hlt : k < c.up.ps.length
  · obtain ⟨p, hp, e⟩ := at_lt hlt
    have hft := fly_take hp
    have hle := fly_le c.up.ps (k + 1)
    have hw : IntKind.i64.wrap ((fly (c.up.ps.take k) : Int) + p.bytes.length) = (fly (c.up.ps.take k) : Int) + p.bytes.length := IntWalk.i64_in _ (by omega)
    simp [hlt, e, hw, wrap_succ hlt f2]
    exact ⟨_, by omega, _, ⟨k + 1, rfl, hlt, rfl⟩, [], _, rfl, by simp [hft]⟩
  obtain rfl : k = c.up.ps.length := by omega
  simp
  exact vcRet_of [] (by simp) rfl
theorem bytesUU_m (XS : List (List D)) (PR : Nat → Bool) (j : Nat) (c : Cn) (h : c.up.Fits) : Meets Try.prog 33 [upR j] [foU XS PR j c 1000001 c.up.ps.length, rowP c.up.ps] (fun r => r = ⟨.i c.up.n, [foU XS PR j c 1000001 c.up.ps.length, rowP c.up.ps], []⟩) := by
  refine meetsH [] tbOk mixed Try.func33 pl33 rfl rfl ?_
  simp [Try.ntmps33]
  refine effCall (flyingUU_m XS PR j c h) ?_
  have hw : IntKind.i64.wrap ((fly c.up.ps : Int) + c.up.ar.length) = (fly c.up.ps : Int) + c.up.ar.length := IntWalk.i64_in _ (by have : fly c.up.ps + c.up.ar.length < 4294967296 := h.1; omega)
  simp [hw]
  refine ⟨by kernel_rfl, ?_⟩
  exact vcRet_of [] (by simp [Dr.n]) rfl
theorem lastUU_m (XS : List (List D)) (PR : Nat → Bool) (j : Nat) (c : Cn) (h : c.up.ps.length < 4294967296) (now by_ : Int) (hn : -1000000000000000000 < now + by_ ∧ now + by_ < 1000000000000000000) : Meets Try.prog 40 [upR j, .i now, .i by_] [foU XS PR j c 1000001 c.up.ps.length, rowP c.up.ps] (fun r => r = ⟨.i (c.up.last now by_), [foU XS PR j c 1000001 c.up.ps.length, rowP c.up.ps], []⟩) := by
  refine meetsH [] tbOk mixed Try.func40 pl40 rfl rfl ?_
  have hw : IntKind.i64.wrap (now + by_) = now + by_ := IntWalk.i64_in _ (by omega)
  by_cases h0 : c.up.ps.length = 0
  · have h0' : c.up.ps = [] := List.length_eq_zero_iff.1 h0
    simp [Try.ntmps40, h0', hw]
    exact vcRet_of [] (by simp [Dr.last, h0']) rfl
  · have hp0 : 0 < c.up.ps.length := by omega
    have hlt : c.up.ps.length - 1 < c.up.ps.length := by omega
    obtain ⟨p, hp, e⟩ := at_lt hlt
    have hl := last_some hp (by omega)
    have hwn : IntKind.i64.wrap ((c.up.ps.length : Int) - 1) = ((c.up.ps.length - 1 : Nat) : Int) := by rw [IntWalk.i64_in _ (by omega)]; omega
    simp [Try.ntmps40, hp0, hw, hwn, hlt, e]
    exact vcRet_of [] (by simp [Dr.last, hl]) rfl
/-- The direction with one piece more. -/
theorem sendUU_m (XS : List (List D)) (PR : Nat → Bool) (j : Nat) (c : Cn) (h : c.up.ps.length < 4294967295) (now by_ : Int) (hn : -1000000000000000000 < now + by_ ∧ now + by_ < 1000000000000000000) (b : List Int) (hb : b.length < 4294967296) (h0 : 0 < b.length) :
    Meets Try.prog 34 [upR j, .i now, .i by_, .d (bs b)] [foU XS PR j c 1000001 c.up.ps.length, rowP c.up.ps] (fun r => r = ⟨.tup [], [foU XS PR j c 1000001 (c.up.ps.length + 1), .grown 119 2 (c.up.ps.map Pc.ds ++ [Pc.ds ⟨c.up.last now by_, b⟩])], []⟩) := by
  refine meetsH [] tbOk mixed Try.func34 pl34 rfl rfl ?_
  simp [Try.ntmps34, h0]
  refine effCall (lastUU_m XS PR j c (by omega) now by_ hn) ?_
  simp
  refine effCall (cloneBd_m b hb) ?_
  simp
  refine ⟨by omega, by kernel_rfl, ?_⟩
  refine vcRet_of [] ?_ rfl
  simp
theorem sendNoUU_m (XS : List (List D)) (PR : Nat → Bool) (j : Nat) (c : Cn) (now by_ : Int) (b : List Int) (h0 : b.length = 0) :
    Meets Try.prog 34 [upR j, .i now, .i by_, .d (bs b)] [foU XS PR j c 1000001 c.up.ps.length, rowP c.up.ps] (fun r => r = ⟨.tup [], [foU XS PR j c 1000001 c.up.ps.length, rowP c.up.ps], []⟩) := by
  have h0' : b = [] := List.length_eq_zero_iff.1 h0
  refine meetsH [] tbOk mixed Try.func34 pl34 rfl rfl ?_
  simp [Try.ntmps34, h0']
  exact vcRet_of [] (by simp) rfl
theorem flyingPD_m (XS : List (List D)) (PR : Nat → Bool) (j : Nat) (c : Cn) (h : c.dn.Fits) : Meets Try.prog 32 [dnR j] [foP XS PR j c 1000001 c.dn.ps.length, rowP c.dn.ps] (fun r => r = ⟨.i (fly c.dn.ps), [foP XS PR j c 1000001 c.dn.ps.length, rowP c.dn.ps], []⟩) := by
  obtain ⟨f1, f2⟩ := h
  have f1 : fly c.dn.ps + c.dn.ar.length < 4294967296 := f1
  refine meetsH [] tbOk mixed Try.func32 pl32 rfl rfl ?_
  simp [Try.ntmps32]
  refine vc_loop (fun m σ => ∃ k : Nat, m = c.dn.ps.length - k ∧ k ≤ c.dn.ps.length ∧ σ = ⟨22, [(11, .i k), (10, .i c.dn.ps.length), (9, .rw 1000001 c.dn.ps.length), (3, .i (fly (c.dn.ps.take k)))], [(1000000, foP XS PR j c 1000001 c.dn.ps.length), (1000001, rowP c.dn.ps)]⟩) ?_ ?_
  · exact ⟨_, _, ⟨0, rfl, Nat.zero_le _, rfl⟩, [], _, rfl, by simp [fly]⟩
  rintro m σ ⟨k, rfl, hk, rfl⟩
  by_cases hlt : k < c.dn.ps.length
  · obtain ⟨p, hp, e⟩ := at_lt hlt
    have hft := fly_take hp
    have hle := fly_le c.dn.ps (k + 1)
    have hw : IntKind.i64.wrap ((fly (c.dn.ps.take k) : Int) + p.bytes.length) = (fly (c.dn.ps.take k) : Int) + p.bytes.length := IntWalk.i64_in _ (by omega)
    simp [hlt, e, hw, wrap_succ hlt f2]
    exact ⟨_, by omega, _, ⟨k + 1, rfl, hlt, rfl⟩, [], _, rfl, by simp [hft]⟩
  obtain rfl : k = c.dn.ps.length := by omega
  simp
  exact vcRet_of [] (by simp) rfl
theorem bytesPD_m (XS : List (List D)) (PR : Nat → Bool) (j : Nat) (c : Cn) (h : c.dn.Fits) : Meets Try.prog 33 [dnR j] [foP XS PR j c 1000001 c.dn.ps.length, rowP c.dn.ps] (fun r => r = ⟨.i c.dn.n, [foP XS PR j c 1000001 c.dn.ps.length, rowP c.dn.ps], []⟩) := by
  refine meetsH [] tbOk mixed Try.func33 pl33 rfl rfl ?_
  simp [Try.ntmps33]
  refine effCall (flyingPD_m XS PR j c h) ?_
  have hw : IntKind.i64.wrap ((fly c.dn.ps : Int) + c.dn.ar.length) = (fly c.dn.ps : Int) + c.dn.ar.length := IntWalk.i64_in _ (by have : fly c.dn.ps + c.dn.ar.length < 4294967296 := h.1; omega)
  simp [hw]
  refine ⟨by kernel_rfl, ?_⟩
  exact vcRet_of [] (by simp [Dr.n]) rfl
theorem lastPD_m (XS : List (List D)) (PR : Nat → Bool) (j : Nat) (c : Cn) (h : c.dn.ps.length < 4294967296) (now by_ : Int) (hn : -1000000000000000000 < now + by_ ∧ now + by_ < 1000000000000000000) : Meets Try.prog 40 [dnR j, .i now, .i by_] [foP XS PR j c 1000001 c.dn.ps.length, rowP c.dn.ps] (fun r => r = ⟨.i (c.dn.last now by_), [foP XS PR j c 1000001 c.dn.ps.length, rowP c.dn.ps], []⟩) := by
  refine meetsH [] tbOk mixed Try.func40 pl40 rfl rfl ?_
  have hw : IntKind.i64.wrap (now + by_) = now + by_ := IntWalk.i64_in _ (by omega)
  by_cases h0 : c.dn.ps.length = 0
  · have h0' : c.dn.ps = [] := List.length_eq_zero_iff.1 h0
    simp [Try.ntmps40, h0', hw]
    exact vcRet_of [] (by simp [Dr.last, h0']) rfl
  · have hp0 : 0 < c.dn.ps.length := by omega
    have hlt : c.dn.ps.length - 1 < c.dn.ps.length := by omega
    obtain ⟨p, hp, e⟩ := at_lt hlt
    have hl := last_some hp (by omega)
    have hwn : IntKind.i64.wrap ((c.dn.ps.length : Int) - 1) = ((c.dn.ps.length - 1 : Nat) : Int) := by rw [IntWalk.i64_in _ (by omega)]; omega
    simp [Try.ntmps40, hp0, hw, hwn, hlt, e]
    exact vcRet_of [] (by simp [Dr.last, hl]) rfl
/-- The direction with one piece more. -/
theorem sendPD_m (XS : List (List D)) (PR : Nat → Bool) (j : Nat) (c : Cn) (h : c.dn.ps.length < 4294967295) (now by_ : Int) (hn : -1000000000000000000 < now + by_ ∧ now + by_ < 1000000000000000000) (b : List Int) (hb : b.length < 4294967296) (h0 : 0 < b.length) :
    Meets Try.prog 34 [dnR j, .i now, .i by_, .d (bs b)] [foP XS PR j c 1000001 c.dn.ps.length, rowP c.dn.ps] (fun r => r = ⟨.tup [], [foP XS PR j c 1000001 (c.dn.ps.length + 1), .grown 119 2 (c.dn.ps.map Pc.ds ++ [Pc.ds ⟨c.dn.last now by_, b⟩])], []⟩) := by
  refine meetsH [] tbOk mixed Try.func34 pl34 rfl rfl ?_
  simp [Try.ntmps34, h0]
  refine effCall (lastPD_m XS PR j c (by omega) now by_ hn) ?_
  simp
  refine effCall (cloneBd_m b hb) ?_
  simp
  refine ⟨by omega, by kernel_rfl, ?_⟩
  refine vcRet_of [] ?_ rfl
  simp
theorem sendNoPD_m (XS : List (List D)) (PR : Nat → Bool) (j : Nat) (c : Cn) (now by_ : Int) (b : List Int) (h0 : b.length = 0) :
    Meets Try.prog 34 [dnR j, .i now, .i by_, .d (bs b)] [foP XS PR j c 1000001 c.dn.ps.length, rowP c.dn.ps] (fun r => r = ⟨.tup [], [foP XS PR j c 1000001 c.dn.ps.length, rowP c.dn.ps], []⟩) := by
  have h0' : b = [] := List.length_eq_zero_iff.1 h0
  refine meetsH [] tbOk mixed Try.func34 pl34 rfl rfl ?_
  simp [Try.ntmps34, h0']
  exact vcRet_of [] (by simp) rfl
end Go.Proofs.Ytgoklgibhmddoaa
namespace Go.Proofs.Ytgoklgibhmddoaa
open Go.RowKit
set_option maxRecDepth 100000

@[simp] def nilv : PV := .d (.v (.slice none 0 0))
def closeF (now : Int) (p : Pl) (c : Cn) : Cn := { c with status := 3, up := if c.status = 1 then { c.up with e := 1, t := c.up.last now p.delay } else c.up, dn := ⟨[], [], 0, 0, 0⟩ }
set_option maxHeartbeats 1000000 in
theorem close1_m (XS : List (List D)) (PR : Nat → Bool) (j : Nat) (c : Cn) (p : Pl) (s : Nw) (hc : c.up.ps.length < 4294967296) (hn : -1000000000000000000 < s.now + p.delay ∧ s.now + p.delay < 1000000000000000000) :
    Meets Try.prog 39 [.rp 1000000 16 j 0, p.pv, .ptr 1000001 0] [foD XS PR j c, s.box] (fun r => r = ⟨.i 0, [.nest 67 16 XS PR [] (some (j, cnC (closeF s.now p c) (.d (pcs c.up.ps)) nilv (.d (bs c.up.ar)) nilv)), s.box], []⟩) := by
  refine meetsH [] tbOk mixed Try.func39 pl39 rfl rfl ?_
  by_cases h : c.status = 1
  · obtain ⟨id, be, st, bo, re, se, up, dn⟩ := c
    simp only at h hc
    subst h
    simp [Try.ntmps39]
    refine effCall (waysFD_m XS PR j ⟨id, be, 1, bo, re, se, up, dn⟩) ?_
    simp
    refine effCall (lastDU_m XS PR j ⟨id, be, 1, bo, re, se, up, dn⟩ hc s.now p.delay hn) ?_
    simp
    refine ⟨by kernel_rfl, ?_⟩
    refine vcRet_of [] ?_ rfl
    simp [closeF]
  · simp [Try.ntmps39, h]
    refine vcRet_of [] ?_ rfl
    simp [closeF, h]
def takeF (c : Cn) : Cn := { c with up := { c.up with ar := [] } }
theorem take1_m (XS : List (List D)) (PR : Nat → Bool) (j : Nat) (c : Cn) (p : Pl) :
    Meets Try.prog 38 [.rp 1000000 16 j 0, p.pv, .ptr 1000001 0, .ptr 1000002 0] [foD XS PR j c, .box 31 [nilv], .box 3 [.i 0]]
      (fun r => r = ⟨.i 0, [.nest 67 16 XS PR [] (some (j, cnC (takeF c) (.d (pcs c.up.ps)) (.d (pcs c.dn.ps)) nilv (.d (bs c.dn.ar)))), .box 31 [.d (bs c.up.ar)], .box 3 [.i c.up.d]], []⟩) := by
  refine meetsH [] tbOk mixed Try.func38 pl38 rfl rfl ?_
  simp [Try.ntmps38]
  refine ⟨by kernel_rfl, ?_⟩
  refine vcRet_of [] ?_ rfl
  simp [takeF]
def readF (most : Int) (c : Cn) : Int × List Int × Cn :=
  if most < 1 then (7, [], c) else if 0 < c.dn.ar.length then (0, c.dn.ar.take (min most c.dn.ar.length).toNat, { c with dn := { c.dn with ar := c.dn.ar.drop (min most c.dn.ar.length).toNat } })
  else if c.dn.d = 1 then (121, [], c) else if c.dn.d = 2 then (120, [], c) else (10, [], c)
set_option maxHeartbeats 1000000 in
theorem read1_m (XS : List (List D)) (PR : Nat → Bool) (j : Nat) (c : Cn) (p : Pl) (most : Int) (hc : c.dn.ar.length < 4294967296) :
    Meets Try.prog 45 [.rp 1000000 16 j 0, p.pv, .ptr 1000001 0, .ptr 1000002 0] [foD XS PR j c, .box 3 [.i most], .box 31 [nilv]]
      (fun r => r = ⟨.i (readF most c).1, [foD XS PR j (readF most c).2.2, .box 3 [.i most], .box 31 [if (readF most c).1 = 0 then .d (bs (readF most c).2.1) else nilv]], []⟩) := by
  refine meetsH [] tbOk mixed Try.func45 pl45 rfl rfl ?_
  by_cases h1 : most < 1
  · simp [Try.ntmps45, h1]
    refine vcRet_of [] ?_ rfl
    simp [readF, h1]
  by_cases h2 : 0 < c.dn.ar.length
  · simp [Try.ntmps45, h1, h2]
    have hq : 0 ≤ min most (c.dn.ar.length : Int) ∧ min most (c.dn.ar.length : Int) ≤ c.dn.ar.length := by omega
    have hcl := cloneBd_m (c.dn.ar.take (min most (c.dn.ar.length : Int)).toNat) (by simp; omega)
    simp only [bs, List.map_take] at hcl
    refine ⟨by kernel_rfl, hq, ?_⟩
    refine effCall hcl ?_
    simp [hq.1, hq.2]
    refine ⟨by kernel_rfl, ?_⟩
    refine vcRet_of [] ?_ rfl
    simp [readF, h1, h2, List.take_of_length_le]
  have h2' : c.dn.ar = [] := List.length_eq_zero_iff.1 (by omega)
  by_cases h3 : c.dn.d = 1
  · simp [Try.ntmps45, h1, h2', h3]
    refine vcRet_of [] ?_ rfl
    simp [readF, h1, h2', h3]
  by_cases h4 : c.dn.d = 2
  · simp [Try.ntmps45, h1, h2', h4]
    refine vcRet_of [] ?_ rfl
    simp [readF, h1, h2', h4]
  simp [Try.ntmps45, h1, h2', h3, h4]
  refine vcRet_of [] ?_ rfl
  simp [readF, h1, h2', h3, h4]
end Go.Proofs.Ytgoklgibhmddoaa
namespace Go.Proofs.Ytgoklgibhmddoaa
open Go.RowKit
set_option maxRecDepth 100000

theorem chk_zero {s : Nw} (h : chk s = 0) : s.plans.length ≤ 16 ∧ s.conns.length ≤ 500 ∧ s.conns.any longC = false ∧ ranges s = true ∧ idsTo 0 s.now s.conns = true := by
  unfold chk at h
  split at h
  · cases h
  · split at h
    · cases h
    · split at h
      · cases h
      · split at h
        · rename_i h1 h2 h3 h4
          exact ⟨by omega, by omega, by simpa using h2, by simpa using h3, h4⟩
        · cases h
theorem chk_conn {s : Nw} (h : chk s = 0) {c : Cn} (hc : c ∈ s.conns) : cnRanges s c = true := by
  obtain ⟨_, _, _, h4, _⟩ := chk_zero h
  unfold ranges at h4
  simp only [Bool.and_eq_true] at h4
  exact List.all_eq_true.1 h4.2.2.2 c hc
theorem chk_now {s : Nw} (h : chk s = 0) : 0 ≤ s.now ∧ s.now ≤ 1000000000000 ∧ 1 ≤ s.next ∧ s.next ≤ 1000000000000000 := by
  obtain ⟨_, _, _, h4, _⟩ := chk_zero h
  unfold ranges timeOk inR at h4
  simp only [Bool.and_eq_true, decide_eq_true_eq] at h4
  omega
theorem chk_plan {s : Nw} (h : chk s = 0) {p : Pl} (hp : p ∈ s.plans) : 0 ≤ p.delay ∧ p.delay ≤ 100000 ∧ 1 ≤ p.window ∧ p.window ≤ 65536 := by
  obtain ⟨_, _, _, h4, _⟩ := chk_zero h
  unfold ranges at h4
  simp only [Bool.and_eq_true] at h4
  have := List.all_eq_true.1 h4.1 p hp
  unfold plOk inR at this
  simp only [Bool.and_eq_true, decide_eq_true_eq] at this
  omega
theorem idx_lt {α : Type} (p : α → Bool) : ∀ (l : List α) (k : Int), idx p l k < k + l.length ∨ idx p l k = -1
  | [], k => .inr rfl
  | x :: l, k => by
    unfold idx
    split
    · left; simp only [List.length_cons]; omega
    · rcases idx_lt p l (k + 1) with h | h
      · left; simp only [List.length_cons]; omega
      · exact .inr h
theorem find_ok {s : Nw} {n : Int} (h : (findE s n).2 = 0) : chk s = 0 ∧ 0 ≤ (findE s n).1 ∧ (findE s n).1 < s.conns.length := by
  unfold findE at h ⊢
  split at h
  · contradiction
  · rename_i hc
    split at h
    · cases h
    · rename_i hi
      rw [if_neg hc, if_neg hi]
      refine ⟨by simpa using hc, by simpa using hi, ?_⟩
      rcases idx_lt (fun c : Cn => decide (c.id = n)) s.conns 0 with h | h
      · simpa using h
      · rw [h] at hi; simp at hi
/-- What is done to a connection whose status is among some. -/
def changeS (s : Nw) (n : Int) (st : List Int) (F : Cn → Pl → Int × Cn) : Nw × Int :=
  if (findE s n).2 ≠ 0 then (s, (findE s n).2)
  else if (s.conns.getD (findE s n).1.toNat default).status ∉ st then (s, 9)
  else if (F (s.conns.getD (findE s n).1.toNat default) (s.plans.getD (s.conns.getD (findE s n).1.toNat default).backend.toNat default)).1 ≠ 0
    then (s, (F (s.conns.getD (findE s n).1.toNat default) (s.plans.getD (s.conns.getD (findE s n).1.toNat default).backend.toNat default)).1)
  else (⟨s.now, s.next, s.plans, s.conns.set (findE s n).1.toNat (F (s.conns.getD (findE s n).1.toNat default) (s.plans.getD (s.conns.getD (findE s n).1.toNat default).backend.toNat default)).2⟩, 0)
@[simp] theorem soft6 : softR 6 2 ∘ Cn.ds = Cn.ds := rfl
@[simp] theorem soft7 : softR 7 2 ∘ Cn.ds = Cn.ds := rfl
@[simp] theorem soft8 : softR 8 1 ∘ Cn.ds = Cn.ds := rfl
@[simp] theorem soft9 : softR 9 1 ∘ Cn.ds = Cn.ds := rfl
theorem cn_explicit (c : Cn) : Cn.ds c = [.v (.int .i64 c.id), .v (.int .i64 c.backend), .v (.int .i64 c.status), .v (.int .i64 c.born), .v (.int .i64 c.ready), .v (.int .i64 c.sent),
    .sl 2 (c.up.ps.map Pc.ds), .sl 2 (c.dn.ps.map Pc.ds), .sl 1 (c.up.ar.map u8s), .sl 1 (c.dn.ar.map u8s), .v (.int .i64 c.up.e), .v (.int .i64 c.dn.e), .v (.int .i64 c.up.t), .v (.int .i64 c.dn.t), .v (.int .i64 c.up.d), .v (.int .i64 c.dn.d)] := rfl
set_option maxHeartbeats 4000000 in
theorem changeClose_m (s : Nw) (hf : Fits s) (n : Int) :
    Meets Try.prog 29 [s.pv, .i n, .d (.sl 1 ([0, 1].map ics)), .clo 39 [.ptr 1000000 0]] [s.box] (fun r => r = ⟨.tup [(changeS s n [0, 1] fun c p => (0, closeF s.now p c)).1.pv, .i (changeS s n [0, 1] fun c p => (0, closeF s.now p c)).2], [s.box], []⟩) := by
  refine meetsP [(42, [.focus 10037 10 []]), (53, [.close 10037, .unnest 10037, .soft 10037 7 2, .soft 10037 9 1])] tbOk mixed Try.func29 pl29 rfl rfl ?_
  simp [Try.ntmps29]
  refine (find_m s hf n).mono ?_
  rintro _ rfl
  by_cases hfe : (findE s n).2 = 0
  case neg =>
    simp [hfe]
    refine vcRet_of [] ?_ rfl
    simp [changeS, hfe]
  obtain ⟨hc, hi0, hil⟩ := find_ok hfe
  have hlt : (findE s n).1.toNat < s.conns.length := by omega
  obtain ⟨c, hcm, e⟩ := at_lt hlt
  have hg : s.conns.getD (findE s n).1.toNat default = c := by rw [List.getD_eq_getElem?_getD, hcm]; rfl
  have hcr := chk_conn hc (List.mem_of_getElem? hcm)
  have hb : 0 ≤ c.backend ∧ c.backend < s.plans.length := by
    unfold cnRanges inR at hcr
    simp only [Bool.and_eq_true, decide_eq_true_eq] at hcr
    omega
  have hblt : c.backend.toNat < s.plans.length := by omega
  obtain ⟨p, hpm, ep⟩ := at_lt hblt
  have hpg : s.plans.getD c.backend.toNat default = p := by rw [List.getD_eq_getElem?_getD, hpm]; rfl
  have hpd := chk_plan hc (List.mem_of_getElem? hpm)
  have hnow := chk_now hc
  obtain ⟨g1, g2⟩ := hf.2.2 c (List.mem_of_getElem? hcm)
  simp [hfe, hi0, hil, hlt, e]
  have hcon := contains_m [0, 1] (by simp) c.status
  simp only [List.map, ics] at hcon
  refine hcon.mono ?_
  rintro _ rfl
  by_cases hs : c.status ∈ [0, 1]
  case neg =>
    simp [hs]
    have hcs : changeS s n [0, 1] (fun c p => (0, closeF s.now p c)) = (s, 9) := by
      unfold changeS
      rw [if_neg (by simp [hfe]), hg, if_pos hs]
    rw [hcs]
    refine vcRet_of [] ?_ rfl
    simp
  simp [hs]
  refine (copiedD_m s hf).mono ?_
  rintro _ rfl
  simp [Prep.run, hlt, e, hblt, ep, hb.1, hb.2, hi0, hil, List.idxOf_cons]
  refine ⟨fun i hi => by have : i = 0 ∨ i = 1 := by omega
                         rcases this with rfl | rfl <;> simp, ?_⟩
  refine effCallN (close1_m _ _ _ c p s g1.2 (by omega)) ?_
  simp [Prep.run]
  refine ⟨by kernel_rfl, ?_⟩
  have hcs : changeS s n [0, 1] (fun c p => (0, closeF s.now p c)) = (⟨s.now, s.next, s.plans, s.conns.set (findE s n).1.toNat (closeF s.now p c)⟩, 0) := by
    unfold changeS
    rw [if_neg (by simp [hfe]), hg, if_neg (fun h => h hs), hpg, if_neg (by simp)]
  rw [hcs]
  refine vcRet_of [] ?_ rfl
  have e1 : (closeF s.now p c).up.ps = c.up.ps := by by_cases h : c.status = 1 <;> simp [closeF, h]
  have e2 : (closeF s.now p c).up.ar = c.up.ar := by by_cases h : c.status = 1 <;> simp [closeF, h]
  have e3 : (closeF s.now p c).dn = ⟨[], [], 0, 0, 0⟩ := rfl
  simp [List.take_of_length_le, List.map_set, cn_explicit (closeF s.now p c), e1, e2, e3]
end Go.Proofs.Ytgoklgibhmddoaa
namespace Go.Proofs.Ytgoklgibhmddoaa
open Go.RowKit
set_option maxRecDepth 100000

def roomW (c : Cn) (p : Pl) : Int := max (p.window - fly c.up.ps) 0
def manyW (b : List Int) (c : Cn) (p : Pl) : Int := min (roomW c p) b.length
def upSend (now : Int) (b : List Int) (c : Cn) (p : Pl) : Dr := { c.up with ps := c.up.ps ++ [⟨c.up.last now p.delay, b.take (manyW b c p).toNat⟩] }
def writeF (now : Int) (b : List Int) (c : Cn) (p : Pl) : Int × Int × Cn :=
  if c.dn.d = 2 then (120, 0, c) else if roomW c p = 0 ∧ 0 < b.length then (10, 0, c)
  else if 1048576 < c.up.n + manyW b c p ∨ 1000000000000000 < c.sent + manyW b c p then (3, 0, c)
  else (0, manyW b c p, { c with sent := c.sent + manyW b c p, up := if 0 < b.length then upSend now b c p else c.up })
abbrev writeExt (XS : List (List D)) (PR : Nat → Bool) (j : Nat) (c : Cn) (b : List Int) (s : Nw) : List MObj := [foU XS PR j c 1000004 c.up.ps.length, .box 31 [.d (bs b)], s.box, .box 3 [.i 0], rowP c.up.ps]
set_option maxHeartbeats 2000000 in
theorem write1_m (XS : List (List D)) (PR : Nat → Bool) (j : Nat) (c : Cn) (p : Pl) (s : Nw) (b : List Int) (hb : b.length < 4294967296) (hu : c.up.Fits) (hu2 : c.up.ps.length < 4294967295) (hw : 1 ≤ p.window ∧ p.window ≤ 65536)
    (hs : 0 ≤ c.sent ∧ c.sent ≤ 1000000000000000) (hn : -1000000000000000000 < s.now + p.delay ∧ s.now + p.delay < 1000000000000000000) :
    Meets Try.prog 30 [.rp 1000000 16 j 0, p.pv, .ptr 1000001 0, .ptr 1000002 0, .ptr 1000003 0] (writeExt XS PR j c b s)
      (fun r => r = ⟨.i (writeF s.now b c p).1, [foU XS PR j (writeF s.now b c p).2.2 1000004 (writeF s.now b c p).2.2.up.ps.length, .box 31 [.d (bs b)], s.box, .box 3 [.i (writeF s.now b c p).2.1],
        if (writeF s.now b c p).1 = 0 ∧ 0 < b.length then .grown 119 2 ((writeF s.now b c p).2.2.up.ps.map Pc.ds) else rowP c.up.ps], []⟩) := by
  obtain ⟨u1, u2⟩ := hu
  have hfl : fly c.up.ps + c.up.ar.length < 4294967296 := u1
  have w1 : IntKind.i64.wrap (p.window - (fly c.up.ps : Int)) = p.window - fly c.up.ps := IntWalk.i64_in _ (by omega)
  refine meetsH [] tbOk mixed Try.func30 pl30 rfl rfl ?_
  simp [Try.ntmps30]
  refine (waysFU_m XS PR j c).mono ?_
  rintro _ rfl
  simp
  refine effCall (flyingUU_m XS PR j c ⟨u1, u2⟩) ?_
  by_cases h1 : c.dn.d = 2
  · simp [w1, h1]
    refine ⟨by kernel_rfl, ?_⟩
    refine vcRet_of [] ?_ rfl
    simp [writeF, h1]
  have hR : max (p.window - (fly c.up.ps : Int)) 0 = roomW c p := rfl
  have hR0 : 0 ≤ roomW c p := by unfold roomW; omega
  have hRm : roomW c p ≤ 65536 := by unfold roomW; omega
  have hM : min (roomW c p) (b.length : Int) = manyW b c p := rfl
  have hM0 : 0 ≤ manyW b c p ∧ manyW b c p ≤ 65536 ∧ manyW b c p ≤ b.length := by unfold manyW; omega
  by_cases h2 : roomW c p = 0 ∧ 0 < b.length
  · simp [w1, h1, hR, h2.1, h2.2]
    refine ⟨by kernel_rfl, ?_⟩
    refine vcRet_of [] ?_ rfl
    simp [writeF, h1, h2.1, h2.2]
  have h2' : ¬ (roomW c p = 0 ∧ ¬ b = []) := fun h => h2 ⟨h.1, List.length_pos_iff.2 h.2⟩
  have w3 : IntKind.i64.wrap ((c.up.n : Int) + manyW b c p) = (c.up.n : Int) + manyW b c p := IntWalk.i64_in _ (by omega)
  have w4 : IntKind.i64.wrap (c.sent + manyW b c p) = c.sent + manyW b c p := IntWalk.i64_in _ (by omega)
  by_cases hb0 : b.length = 0
  · have hb0' : b = [] := List.length_eq_zero_iff.1 hb0
    subst hb0'
    have hM00 : min (roomW c p) 0 = 0 := by omega
    have hmw : manyW [] c p = 0 := by simp [manyW, hM00]
    have w5 : IntKind.i64.wrap (c.up.n : Int) = (c.up.n : Int) := IntWalk.i64_in _ (by omega)
    have w6 : IntKind.i64.wrap c.sent = c.sent := IntWalk.i64_in _ (by omega)
    by_cases hr : roomW c p = 0
    all_goals
      simp [w1, h1, hR, hM00, hr]
      refine ⟨by kernel_rfl, ?_⟩
      refine (bytesUU_m XS PR j c ⟨u1, u2⟩).mono ?_
      rintro _ rfl
      have h4 : ¬ (1000000000000000 : Int) < c.sent := by omega
      by_cases h3 : (1048576 : Int) < c.up.n
      · simp [w5, h3]
        refine vcRet_of [] ?_ rfl
        simp [writeF, h1, hmw, h3]
      simp [w5, w6, h3, h4]
      have hsend := sendNoUU_m XS PR j c s.now p.delay [] rfl
      simp only [bs, List.map_nil] at hsend
      refine effCallN hsend ?_
      simp [w6]
      refine ⟨by kernel_rfl, ?_⟩
      refine vcRet_of [] ?_ rfl
      have hwF : writeF s.now [] c p = (0, 0, c) := by
        unfold writeF
        rw [if_neg h1, if_neg (by simp), hmw, if_neg (by omega)]
        simp
      rw [hwF]
      simp
  · have hbp : 0 < b.length := by omega
    have hr0 : ¬ roomW c p = 0 := fun h => h2 ⟨h, hbp⟩
    have hMp : 0 < manyW b c p := by unfold manyW; omega
    by_cases h3 : (1048576 : Int) < c.up.n + manyW b c p
    · simp [w1, h1, hR, hM, hr0]
      refine ⟨by kernel_rfl, ?_⟩
      refine (bytesUU_m XS PR j c ⟨u1, u2⟩).mono ?_
      rintro _ rfl
      simp [w3, h3]
      refine vcRet_of [] ?_ rfl
      simp [writeF, h1, hr0, h3]
    by_cases h4 : (1000000000000000 : Int) < c.sent + manyW b c p
    · simp [w1, h1, hR, hM, hr0]
      refine ⟨by kernel_rfl, ?_⟩
      refine (bytesUU_m XS PR j c ⟨u1, u2⟩).mono ?_
      rintro _ rfl
      simp [w3, w4, h3, h4]
      refine vcRet_of [] ?_ rfl
      simp [writeF, h1, hr0, h4]
    simp [w1, h1, hR, hM, hr0]
    refine ⟨by kernel_rfl, ?_⟩
    refine (bytesUU_m XS PR j c ⟨u1, u2⟩).mono ?_
    rintro _ rfl
    simp [w3, w4, h3, h4, hM0.1, hM0.2.2]
    have htl : (b.take (manyW b c p).toNat).length = (manyW b c p).toNat := by rw [List.length_take]; omega
    have hsend := sendUU_m XS PR j c hu2 s.now p.delay hn (b.take (manyW b c p).toNat) (by omega) (by omega)
    simp only [bs, List.map_take] at hsend
    refine effCallN hsend ?_
    simp [w4]
    refine ⟨by kernel_rfl, ?_⟩
    refine vcRet_of [] ?_ rfl
    have hwF : writeF s.now b c p = (0, manyW b c p, { c with sent := c.sent + manyW b c p, up := upSend s.now b c p }) := by
      unfold writeF
      rw [if_neg h1, if_neg h2, if_neg (by omega), if_pos hbp]
    rw [hwF]
    simp [upSend, hbp]
end Go.Proofs.Ytgoklgibhmddoaa
namespace Go.Proofs.Ytgoklgibhmddoaa
open Go.RowKit
set_option maxRecDepth 100000

def dnSend (now by_ : Int) (b : List Int) (c : Cn) : Dr := { c.dn with ps := c.dn.ps ++ [⟨c.dn.last now by_, b⟩] }
def putC (now by_ : Int) (b : List Int) (c : Cn) : Cn := { c with dn := if 0 < b.length then dnSend now by_ b c else c.dn }
set_option maxHeartbeats 1000000 in
theorem put1_m (XS : List (List D)) (PR : Nat → Bool) (j : Nat) (c : Cn) (s : Nw) (b : List Int) (by_ : Int) (hb : b.length < 4294967296) (hd : c.dn.ps.length < 4294967295) (hn : -1000000000000000000 < s.now + by_ ∧ s.now + by_ < 1000000000000000000) :
    Meets Try.prog 42 [.rp 1000000 16 j 0, .i by_, .ptr 1000001 0, .ptr 1000002 0] [foP XS PR j c 1000003 c.dn.ps.length, s.box, .box 31 [.d (bs b)], rowP c.dn.ps]
      (fun r => r = ⟨.tup [], [foP XS PR j (putC s.now by_ b c) 1000003 (putC s.now by_ b c).dn.ps.length, s.box, .box 31 [.d (bs b)], if 0 < b.length then .grown 119 2 ((putC s.now by_ b c).dn.ps.map Pc.ds) else rowP c.dn.ps], []⟩) := by
  refine meetsH [] tbOk mixed Try.func42 pl42 rfl rfl ?_
  simp [Try.ntmps42]
  refine effCall (waysFP_m XS PR j c) ?_
  simp
  by_cases h0 : b.length = 0
  · have h0' : b = [] := List.length_eq_zero_iff.1 h0
    subst h0'
    have hsend := sendNoPD_m XS PR j c s.now by_ [] rfl
    simp only [bs, List.map_nil] at hsend
    simp
    refine effCallN hsend ?_
    simp
    refine ⟨by kernel_rfl, ?_⟩
    refine vcRet_of [] ?_ rfl
    simp [putC]
  · have hp : 0 < b.length := by omega
    refine effCallN (sendPD_m XS PR j c hd s.now by_ hn b hb hp) ?_
    simp
    refine ⟨by kernel_rfl, ?_⟩
    refine vcRet_of [] ?_ rfl
    simp [putC, dnSend, hp]
def finC (now by_ how : Int) (c : Cn) : Cn := { c with dn := { c.dn with e := how, t := c.dn.last now by_ } }
theorem fin1_m (XS : List (List D)) (PR : Nat → Bool) (j : Nat) (c : Cn) (s : Nw) (how by_ : Int) (hd : c.dn.ps.length < 4294967296) (hn : -1000000000000000000 < s.now + by_ ∧ s.now + by_ < 1000000000000000000) :
    Meets Try.prog 44 [.rp 1000000 16 j 0, .i by_, .ptr 1000001 0, .ptr 1000002 0] [foD XS PR j c, .box 3 [.i how], s.box]
      (fun r => r = ⟨.tup [], [foD XS PR j (finC s.now by_ how c), .box 3 [.i how], s.box], []⟩) := by
  refine meetsH [] tbOk mixed Try.func44 pl44 rfl rfl ?_
  simp [Try.ntmps44]
  refine effCall (waysFD_m XS PR j c) ?_
  simp
  refine effCall (lastDD_m XS PR j c hd s.now by_ hn) ?_
  simp
  refine ⟨by kernel_rfl, ?_⟩
  refine vcRet_of [] ?_ rfl
  simp [finC]
/-- A backend answers: G is what is done to a connection that is up. -/
def ansF (delay how many : Int) (G : Cn → Pl → Cn) (c : Cn) (p : Pl) : Int × Cn :=
  if !inR delay 0 100000 then (7, c) else if how ≠ 0 then (how, c) else if c.dn.e ≠ 0 ∨ c.dn.d ≠ 0 then (9, c) else if 1048576 < c.dn.n + many then (3, c)
  else if c.status = 1 then (0, G c p) else (0, c)
abbrev putExt (XS : List (List D)) (PR : Nat → Bool) (j : Nat) (c : Cn) (b : List Int) (s : Nw) (delay : Int) : List MObj :=
  [foP XS PR j c 1000005 c.dn.ps.length, .box 2 [.i delay], .box 28 [.i 0], .box 3 [.i b.length], .box 98 [.clo 42 [.ptr 1000006 0, .ptr 1000007 0]], rowP c.dn.ps, s.box, .box 31 [.d (bs b)]]
def putF (now delay : Int) (b : List Int) : Cn → Pl → Int × Cn := ansF delay 0 b.length fun c p => putC now (p.delay + delay) b c
set_option maxHeartbeats 2000000 in
theorem ansPut_m (XS : List (List D)) (PR : Nat → Bool) (j : Nat) (c : Cn) (p : Pl) (s : Nw) (b : List Int) (delay : Int) (hb : b.length < 4294967296) (hd : c.dn.Fits) (hd2 : c.dn.ps.length < 4294967295) (hp : 0 ≤ p.delay ∧ p.delay ≤ 100000) (hn : 0 ≤ s.now ∧ s.now ≤ 1000000000000) :
    Meets Try.prog 76 [.rp 1000000 16 j 0, p.pv, .ptr 1000001 0, .ptr 1000002 0, .ptr 1000003 0, .ptr 1000004 0] (putExt XS PR j c b s delay)
      (fun r => r = ⟨.i (putF s.now delay b c p).1, [foP XS PR j (putF s.now delay b c p).2 1000005 (putF s.now delay b c p).2.dn.ps.length, .box 2 [.i delay], .box 28 [.i 0], .box 3 [.i b.length], .box 98 [.clo 42 [.ptr 1000006 0, .ptr 1000007 0]],
        if (putF s.now delay b c p).1 = 0 ∧ c.status = 1 ∧ 0 < b.length then .grown 119 2 ((putF s.now delay b c p).2.dn.ps.map Pc.ds) else rowP c.dn.ps, s.box, .box 31 [.d (bs b)]], []⟩) := by
  have hdn : c.dn.n < 4294967296 := hd.1
  refine meetsH [] tbOk mixed Try.func76 pl76 rfl rfl ?_
  simp [Try.ntmps76]
  refine (inL_m delay 0 100000).mono ?_
  rintro _ rfl
  cases h1 : inR delay 0 100000
  · simp
    refine vcRet_of [] ?_ rfl
    simp [putF, ansF, h1]
  have hdl : 0 ≤ delay ∧ delay ≤ 100000 := by unfold inR at h1; simpa using h1
  simp
  by_cases h2 : c.dn.e = 0
  case neg =>
    simp [h2]
    refine vcRet_of [] ?_ rfl
    simp [putF, ansF, h1, h2]
  by_cases h3 : c.dn.d = 0
  case neg =>
    simp [h2, h3]
    refine vcRet_of [] ?_ rfl
    simp [putF, ansF, h1, h2, h3]
  obtain ⟨id, be, st, bo, re, se, up, dps, dar, de, dd, dt⟩ := c
  simp only at h2 h3
  subst h2
  subst h3
  have w1 : IntKind.i64.wrap (((⟨dps, dar, 0, 0, dt⟩ : Dr).n : Int) + b.length) = ((⟨dps, dar, 0, 0, dt⟩ : Dr).n : Int) + b.length := IntWalk.i64_in _ (by simp only at hdn; omega)
  have w2 : IntKind.i64.wrap (p.delay + delay) = p.delay + delay := IntWalk.i64_in _ (by omega)
  simp
  refine effCall (waysFP_m XS PR j ⟨id, be, st, bo, re, se, up, dps, dar, 0, 0, dt⟩) ?_
  simp
  refine effCall (bytesPD_m XS PR j ⟨id, be, st, bo, re, se, up, dps, dar, 0, 0, dt⟩ hd) ?_
  by_cases h4 : (1048576 : Int) < ((⟨dps, dar, 0, 0, dt⟩ : Dr).n : Int) + b.length
  · simp [w1, h4]
    refine ⟨by kernel_rfl, ?_⟩
    refine vcRet_of [] ?_ rfl
    simp [putF, ansF, h1, h4]
  by_cases h5 : st = 1
  case neg =>
    simp [w1, h4, h5]
    refine ⟨by kernel_rfl, ?_⟩
    refine vcRet_of [] ?_ rfl
    simp [putF, ansF, h1, h4, h5]
  subst h5
  simp [w1, h4, w2]
  refine ⟨by kernel_rfl, ?_⟩
  have hput := put1_m XS PR j ⟨id, be, 1, bo, re, se, up, dps, dar, 0, 0, dt⟩ s b (p.delay + delay) hb hd2 (by omega)
  refine hput.mono ?_
  rintro _ rfl
  have hpF : putF s.now delay b ⟨id, be, 1, bo, re, se, up, dps, dar, 0, 0, dt⟩ p = (0, putC s.now (p.delay + delay) b ⟨id, be, 1, bo, re, se, up, dps, dar, 0, 0, dt⟩) := by
    unfold putF ansF
    rw [if_neg (by simp [h1]), if_neg (by simp), if_neg (by simp), if_neg h4, if_pos rfl]
  rw [hpF]
  by_cases hb0 : 0 < b.length
  · simp [hb0]
    refine vcRet_of [] ?_ rfl
    simp
  · simp [hb0]
    refine vcRet_of [] ?_ rfl
    simp
def finF (now delay how : Int) : Cn → Pl → Int × Cn := ansF delay (if how ≠ 1 ∧ how ≠ 2 then 2 else 0) 0 fun c p => finC now (p.delay + delay) how c
abbrev finExt (XS : List (List D)) (PR : Nat → Bool) (j : Nat) (c : Cn) (s : Nw) (delay how e : Int) : List MObj :=
  [foD XS PR j c, .box 2 [.i delay], .box 28 [.i e], .box 3 [.i 0], .box 98 [.clo 44 [.ptr 1000005 0, .ptr 1000006 0]], .box 3 [.i how], s.box]
set_option maxHeartbeats 2000000 in
theorem ansFin_m (XS : List (List D)) (PR : Nat → Bool) (j : Nat) (c : Cn) (p : Pl) (s : Nw) (delay how e : Int) (he : e = if how ≠ 1 ∧ how ≠ 2 then 2 else 0) (hd : c.dn.Fits) (hp : 0 ≤ p.delay ∧ p.delay ≤ 100000) (hn : 0 ≤ s.now ∧ s.now ≤ 1000000000000) :
    Meets Try.prog 76 [.rp 1000000 16 j 0, p.pv, .ptr 1000001 0, .ptr 1000002 0, .ptr 1000003 0, .ptr 1000004 0] (finExt XS PR j c s delay how e)
      (fun r => r = ⟨.i (finF s.now delay how c p).1, finExt XS PR j (finF s.now delay how c p).2 s delay how e, []⟩) := by
  have hdn : c.dn.n < 4294967296 := hd.1
  refine meetsH [] tbOk mixed Try.func76 pl76 rfl rfl ?_
  simp [Try.ntmps76]
  refine (inL_m delay 0 100000).mono ?_
  rintro _ rfl
  cases h1 : inR delay 0 100000
  · simp
    refine vcRet_of [] ?_ rfl
    simp [finF, ansF, h1]
  have hdl : 0 ≤ delay ∧ delay ≤ 100000 := by unfold inR at h1; simpa using h1
  by_cases h0 : e = 0
  case neg =>
    simp [h0]
    refine vcRet_of [] ?_ rfl
    have : finF s.now delay how c p = (e, c) := by
      unfold finF ansF
      rw [if_neg (by simp [h1]), ← he, if_pos h0]
    rw [this]
    simp
  subst h0
  have heF : ∀ c, finF s.now delay how c p = if c.dn.e ≠ 0 ∨ c.dn.d ≠ 0 then (9, c) else if (1048576 : Int) < c.dn.n + 0 then (3, c) else if c.status = 1 then (0, finC s.now (p.delay + delay) how c) else (0, c) := fun c => by
    unfold finF ansF
    rw [if_neg (by simp [h1]), ← he, if_neg (by simp)]
  by_cases h2 : c.dn.e = 0
  case neg =>
    simp [h2]
    refine vcRet_of [] ?_ rfl
    rw [heF, if_pos (.inl h2)]
    simp
  by_cases h3 : c.dn.d = 0
  case neg =>
    simp [h2, h3]
    refine vcRet_of [] ?_ rfl
    rw [heF, if_pos (.inr h3)]
    simp [h2]
  obtain ⟨id, be, st, bo, re, se, up, dps, dar, de, dd, dt⟩ := c
  simp only at h2 h3
  subst h2
  subst h3
  have w1 : IntKind.i64.wrap ((⟨dps, dar, 0, 0, dt⟩ : Dr).n : Int) = ((⟨dps, dar, 0, 0, dt⟩ : Dr).n : Int) := IntWalk.i64_in _ (by simp only at hdn; omega)
  have w2 : IntKind.i64.wrap (p.delay + delay) = p.delay + delay := IntWalk.i64_in _ (by omega)
  have hF2 := heF ⟨id, be, st, bo, re, se, up, dps, dar, 0, 0, dt⟩
  rw [if_neg (by simp)] at hF2
  simp
  refine effCall (waysFD_m XS PR j ⟨id, be, st, bo, re, se, up, dps, dar, 0, 0, dt⟩) ?_
  simp
  refine effCall (bytesDD_m XS PR j ⟨id, be, st, bo, re, se, up, dps, dar, 0, 0, dt⟩ hd) ?_
  by_cases h4 : (1048576 : Int) < ((⟨dps, dar, 0, 0, dt⟩ : Dr).n : Int)
  · simp [w1, h4]
    refine ⟨by kernel_rfl, ?_⟩
    refine vcRet_of [] ?_ rfl
    rw [hF2, if_pos (by simpa using h4)]
    simp
  rw [if_neg (by simpa using h4)] at hF2
  by_cases h5 : st = 1
  case neg =>
    simp [w1, h4, h5]
    refine ⟨by kernel_rfl, ?_⟩
    refine vcRet_of [] ?_ rfl
    rw [hF2, if_neg (by simpa using h5)]
    simp
  subst h5
  simp [w1, h4, w2]
  refine ⟨by kernel_rfl, ?_⟩
  refine (fin1_m XS PR j ⟨id, be, 1, bo, re, se, up, dps, dar, 0, 0, dt⟩ s how (p.delay + delay) hd.2 (by omega)).mono ?_
  rintro _ rfl
  simp
  refine vcRet_of [] ?_ rfl
  rw [hF2, if_pos rfl]
  simp
end Go.Proofs.Ytgoklgibhmddoaa
