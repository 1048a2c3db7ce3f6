/- Contracts: explore 5. No condition. -/
import Derived.Test.YtplooifpgmlofaaGreatN4
namespace Go.Proofs.YtplooifpgmlofaaGreat
open Go.RowKit
/-- Whoever is told: what is wanted, whether it was found, in which run. -/
@[simp] def tlP (a b c : Nat) : PV := .clo 38 [.ptr a 0, .ptr b 0, .ptr c 0]
abbrev Tz := Bool × List Int
/-- What is found, and what was told. -/
abbrev FdT := FdB (List ByteArray × Tz)
/-- The end of a run. -/
def leafT (Y : Sys) (f : Cf) (want : ByteArray → Bool) (p : List Int) (cut : Bool) (s : FdT) : FdT :=
  if s.1.runs = f.most then ({ s.1 with full := false, enough := true }, s.2)
  else if cut then ({ s.1 with runs := s.1.runs + 1, full := false }, s.2)
  else ({ s.1 with runs := s.1.runs + 1, stuck := if Y.done p then s.1.stuck else s.1.stuck + 1, enough := want (Y.out p) }, putZ (Y.out p) s.2.1, want (Y.out p), p)
theorem leafT_ok {Y : Sys} {want : ByteArray → Bool} {p : List Int} {cut : Bool} {f : Cf} {s : FdT} (h : Ct.Ok f s.1) : Ct.Ok f (leafT Y f want p cut s).1 := by
  obtain ⟨h1, h2, h3, h4, h5⟩ := h
  unfold leafT
  split
  · exact ⟨h1, h2, h3, h4, h5⟩
  · split
    · exact ⟨h1, by show 0 ≤ s.1.runs + 1; omega, by show s.1.runs + 1 ≤ f.most; omega, h4, by show s.1.stuck ≤ s.1.runs + 1; omega⟩
    · refine ⟨h1, by show 0 ≤ s.1.runs + 1; omega, by show s.1.runs + 1 ≤ f.most; omega, ?_, ?_⟩
      · show 0 ≤ if Y.done p then s.1.stuck else s.1.stuck + 1
        split <;> omega
      · show (if Y.done p then s.1.stuck else s.1.stuck + 1) ≤ s.1.runs + 1
        split <;> omega
section
variable {want : ByteArray → Bool} {fw : Nat}
theorem tellT_m (hw : ∀ s : ByteArray, Meets Tryz.prog fw [.d (.v (.string s))] [] (Ret (.b (want s)))) (s : ByteArray) (z : Tz) (p : List Int) (h60 : p.length ≤ 60) :
    Meets Tryz.prog 38 [.d (.v (.string s)), .rw 1000000 p.length, .ptr 1000001 0, .ptr 1000002 0, .ptr 1000003 0] [rowO p, .box 56 [.clo fw []], .box 4 [.b z.1], .box 24 [.d (intD z.2)]]
      (fun r => r = ⟨.b (want s), [rowO p, .box 56 [.clo fw []], .box 4 [.b (want s, p).1], .box 24 [.d (intD (want s, p).2)]], []⟩) := by
  refine meets tbOk mixed Tryz.func38 pl38 rfl rfl ?_
  simp [Tryz.ntmps38]
  refine (hw s).mono ?_
  rintro _ rfl
  simp
  refine (cloneR_m (p.map intC) p.length (by simp) (by omega)).mono ?_
  rintro _ rfl
  simp
  refine vcRet_of [] ?_ rfl
  simp
  rw [List.take_of_length_le (by simp)]
theorem reachT_m {Y : Sys} (A : Plr Y) (f : Cf) (c : Ct) (z : Bool × List Int) (mp : List (Value × Value)) (q : Option (List Int)) (hq : ∀ p, q = some p → legal Y p) (p : List Int) (hp : legal Y p) :
    Meets Tryz.prog 48 [.ptr 1000000 0] [walkO f c (tlP 1000001 1000002 1000003) A.t 1000004 (.rw 1000005 p.length) (.mp 1000006), .box 56 [.clo fw []], .box 4 [.b z.1], .box 24 [.d (intD z.2)], .sys (A.at_ q), rowO p, .map mp]
      (fun r => r = ⟨unitV, [walkO f c (tlP 1000001 1000002 1000003) A.t 1000004 (.rw 1000005 p.length) (.mp 1000006), .box 56 [.clo fw []], .box 4 [.b z.1], .box 24 [.d (intD z.2)], .sys (A.at_ (some p)), rowO p, .map mp], []⟩) := by
  refine meets tbOk mixed Tryz.func48 pl48 rfl rfl ?_
  simp [Tryz.ntmps48, A.nS]
  refine (A.mS q hq).mono ?_
  rintro _ rfl
  simp
  have h60 := hp.1
  refine vc_loop (fun n σ => ∃ k : Nat, n = p.length - k ∧ k ≤ p.length ∧ σ = ⟨25, [(14, .i k), (13, .i p.length), (12, .rw 1000005 p.length), (0, .ptr 1000000 0)], extMem 1000000 [walkO f c (tlP 1000001 1000002 1000003) A.t 1000004 (.rw 1000005 p.length) (.mp 1000006), .box 56 [.clo fw []], .box 4 [.b z.1], .box 24 [.d (intD z.2)], .sys (A.at_ (some (p.take k))), rowO p, .map mp]⟩) ?_ ?_
  · exact ⟨_, _, ⟨0, rfl, Nat.zero_le _, rfl⟩, [], _, rfl, by simp [extMem]⟩
  · rintro n σ ⟨k, rfl, hk, rfl⟩
    by_cases hlt : k < p.length
    · obtain ⟨x, hx, e⟩ := at_lt hlt
      have htk : p.take (k + 1) = p.take k ++ [x] := by rw [List.take_add_one, hx]; rfl
      simp [hlt, e, extMem, A.nT]
      refine (A.mT (p.take k) x (legal_take hp k) (legal_at hp hx) (by rw [List.length_take]; omega)).mono ?_
      rintro _ rfl
      simp [wrap_succ hlt (show p.length < 4294967296 by omega)]
      exact ⟨_, by omega, _, ⟨k + 1, rfl, hlt, rfl⟩, [], _, rfl, by simp [htk]⟩
    · obtain rfl : k = p.length := by omega
      simp [extMem]
      refine vcRet_of [] ?_ rfl
      simp
theorem lastT_m {Y : Sys} (A : Plr Y) (f : Cf) (c : Ct) (z : Bool × List Int) (mp : List (Value × Value)) (H : Hid) (p : List Int) (h60 : p.length ≤ 60) (en : List Int) (hen : en.length < 1000) :
    Meets Tryz.prog 46 [.ptr 1000000 0, .d (intD en)] [walkO f c (tlP 1000001 1000002 1000003) A.t 1000004 (.rw 1000005 p.length) (.mp 1000006), .box 56 [.clo fw []], .box 4 [.b z.1], .box 24 [.d (intD z.2)], .sys H, rowO p, .map mp]
      (fun r => r = ⟨.i (lastOf p en), [walkO f c (tlP 1000001 1000002 1000003) A.t 1000004 (.rw 1000005 p.length) (.mp 1000006), .box 56 [.clo fw []], .box 4 [.b z.1], .box 24 [.d (intD z.2)], .sys H, rowO p, .map mp], []⟩) := by
  refine meets tbOk mixed Tryz.func46 pl46 rfl rfl ?_
  by_cases h0 : p = []
  · subst h0
    simp [Tryz.ntmps46]
    refine vcRet_of [] ?_ rfl
    simp [lastOf]
  · obtain ⟨p', t, rfl⟩ : ∃ p' t, p = p' ++ [t] := ⟨p.dropLast, p.getLast h0, (List.dropLast_concat_getLast h0).symm⟩
    simp at h60
    have hw : IntKind.i64.wrap (p'.length : Int) = p'.length := wrap_in (by omega)
    simp [Tryz.ntmps46, hw]
    refine ⟨by omega, (containsI_m en t (by omega)).mono ?_⟩
    rintro _ rfl
    by_cases ht : t ∈ en
    · simp [ht, hw]
      refine ⟨by omega, vcRet_of [] ?_ rfl⟩
      simp [lastOf, ht]
    · simp [ht]
      refine vcRet_of [] ?_ rfl
      simp [lastOf, ht]
theorem leafT_m (hw : ∀ s : ByteArray, Meets Tryz.prog fw [.d (.v (.string s))] [] (Ret (.b (want s)))) {Y : Sys} (A : Plr Y) (f : Cf) (s : FdT) (hc : Ct.Ok f s.1) (p : List Int) (hp : legal Y p) (cut : Bool) :
    Meets Tryz.prog 45 [.ptr 1000000 0, .b cut] [walkO f s.1 (tlP 1000001 1000002 1000003) A.t 1000004 (.rw 1000005 p.length) (.mp 1000006), .box 56 [.clo fw []], .box 4 [.b s.2.2.1], .box 24 [.d (intD s.2.2.2)], .sys (A.at_ (some p)), rowO p, .map (mapZ s.2.1)]
      (fun r => r = ⟨unitV, [walkO f (leafT Y f want p cut s).1 (tlP 1000001 1000002 1000003) A.t 1000004 (.rw 1000005 p.length) (.mp 1000006), .box 56 [.clo fw []], .box 4 [.b (leafT Y f want p cut s).2.2.1], .box 24 [.d (intD (leafT Y f want p cut s).2.2.2)], .sys (A.at_ (some p)), rowO p, .map (mapZ (leafT Y f want p cut s).2.1)], []⟩) := by
  refine meetsH [] tbOk mixed Tryz.func45 pl45 rfl rfl ?_
  obtain ⟨h1, h2, h3, h4, h5⟩ := hc
  have hw1 : IntKind.i64.wrap (s.1.runs + 1) = s.1.runs + 1 := wrap_in (by omega)
  have hw2 : IntKind.i64.wrap (s.1.stuck + 1) = s.1.stuck + 1 := wrap_in (by omega)
  have hm := mPut_Z (Y.out p) s.2.1
  have htl := tellT_m hw (Y.out p) s.2.2 p hp.1
  simp only [rowO] at htl
  by_cases hr : s.1.runs = f.most
  · simp [Tryz.ntmps45, hr]
    refine ⟨by kernel_rfl, vcRet_of [] ?_ rfl⟩
    simp [leafT, hr]
  cases cut
  · simp [Tryz.ntmps45, hr, hw1, A.nD]
    refine ⟨by kernel_rfl, (A.mD p hp).mono ?_⟩
    rintro _ rfl
    cases hd : Y.done p
    · simp [hw2, A.nO]
      refine (A.mO p hp).mono ?_
      rintro _ rfl
      set_option maxRecDepth 4000 in simp [hm]
      refine effCallN htl ?_
      simp
      refine ⟨by kernel_rfl, vcRet_of [] ?_ rfl⟩
      simp [leafT, hr, hd]
    · simp [A.nO]
      refine (A.mO p hp).mono ?_
      rintro _ rfl
      set_option maxRecDepth 4000 in simp [hm]
      refine effCallN htl ?_
      simp
      refine ⟨by kernel_rfl, vcRet_of [] ?_ rfl⟩
      simp [leafT, hr, hd]
  · simp [Tryz.ntmps45, hr, hw1]
    refine ⟨by kernel_rfl, vcRet_of [] ?_ rfl⟩
    simp [leafT, hr]
end
end Go.Proofs.YtplooifpgmlofaaGreat
namespace Go.Proofs.YtplooifpgmlofaaGreat
open Go.RowKit
section
variable {fw : Nat}
theorem sleptT_m (f : Cf) (z : Tz) (s : Stp) (t : Int) : Meets Tryz.prog 47 [s.pv, .ptr 1000000 0, .ptr 1000001 0] [planO f (tlP 1000002 1000003 1000004), .box 3 [.i t], .box 56 [.clo fw []], .box 4 [.b z.1], .box 24 [.d (intD z.2)]] (fun r => r = ⟨.b (f.sleeps && s.task == t), [planO f (tlP 1000002 1000003 1000004), .box 3 [.i t], .box 56 [.clo fw []], .box 4 [.b z.1], .box 24 [.d (intD z.2)]], []⟩) := by
  refine meets tbOk mixed Tryz.func47 pl47 rfl rfl ?_
  simp [Tryz.ntmps47]
  refine ⟨fun h => vcRet_of [] ?_ rfl, fun h => vcRet_of [] ?_ rfl⟩
  · simp [h]
    rfl
  · simp [h]
set_option maxHeartbeats 400000 in
theorem indexST_m (f : Cf) (z : Tz) (t : Int) (xs : List Stp) (hl : xs.length < 4294967296) :
    Meets Tryz.prog 58 [.d (stD xs), .clo 47 [.ptr 1000000 0, .ptr 1000001 0]] [planO f (tlP 1000002 1000003 1000004), .box 3 [.i t], .box 56 [.clo fw []], .box 4 [.b z.1], .box 24 [.d (intD z.2)]] (fun r => r = ⟨.i (idx (fun s => f.sleeps && s.task == t) xs 0), [planO f (tlP 1000002 1000003 1000004), .box 3 [.i t], .box 56 [.clo fw []], .box 4 [.b z.1], .box 24 [.d (intD z.2)]], []⟩) := by
  refine meets tbOk mixed Tryz.func58 pl58 rfl rfl ?_
  simp [Tryz.ntmps58]
  refine vc_loop (fun n σ => ∃ k : Nat, n = xs.length - k ∧ k ≤ xs.length ∧ noneTo (fun s => f.sleeps && s.task == t) xs k ∧ σ = ⟨19, [(8, .i k), (7, .i xs.length), (0, .d (stD xs)), (1, .clo 47 [.ptr 1000000 0, .ptr 1000001 0])], extMem 1000000 [planO f (tlP 1000002 1000003 1000004), .box 3 [.i t], .box 56 [.clo fw []], .box 4 [.b z.1], .box 24 [.d (intD z.2)]]⟩) ?_ ?_
  · exact ⟨_, _, ⟨0, rfl, Nat.zero_le _, noneTo_zero _ _, rfl⟩, [], _, rfl, by simp [extMem]⟩
  · rintro n σ ⟨k, rfl, hk, hn, rfl⟩
    by_cases hlt : k < xs.length
    · obtain ⟨x, hx, e⟩ := at_lt hlt
      simp [hlt, e, extMem]
      refine (sleptT_m f z x t).mono ?_
      rintro _ rfl
      cases h : (f.sleeps && x.task == t)
      · simp [wrap_succ hlt hl]
        exact ⟨_, by omega, _, ⟨k + 1, rfl, hlt, noneTo_succ hn hx h, rfl⟩, [], _, rfl, by simp⟩
      · simp
        refine vcRet_of [] ?_ rfl
        simp [idx_hit _ xs k x hx h hn]
    · obtain rfl : k = xs.length := by omega
      simp [extMem]
      refine vcRet_of [] ?_ rfl
      simp [idx_miss _ xs hn]
theorem containsST_m (f : Cf) (z : Tz) (t : Int) (xs : List Stp) (hl : xs.length < 4294967296) :
    Meets Tryz.prog 34 [.d (stD xs), .clo 47 [.ptr 1000000 0, .ptr 1000001 0]] [planO f (tlP 1000002 1000003 1000004), .box 3 [.i t], .box 56 [.clo fw []], .box 4 [.b z.1], .box 24 [.d (intD z.2)]] (fun r => r = ⟨.b (xs.any fun s => f.sleeps && s.task == t), [planO f (tlP 1000002 1000003 1000004), .box 3 [.i t], .box 56 [.clo fw []], .box 4 [.b z.1], .box 24 [.d (intD z.2)]], []⟩) := by
  refine meets tbOk mixed Tryz.func34 pl34 rfl rfl ?_
  simp [Tryz.ntmps34]
  refine (indexST_m f z t xs hl).mono ?_
  rintro _ rfl
  simp
  refine vcRet_of [] ?_ rfl
  simp [← idx_any (fun s => f.sleeps && s.task == t) xs 0 (by omega)]

/-- The exploration's own objects. -/
@[simp] def extT (fw : Nat) {Y : Sys} (A : Plr Y) (f : Cf) (s : FdT) (q : List Int) (row : MObj) (n : Nat) : List MObj :=
  [row, .map (mapZ s.2.1), .sys (A.at_ (some q)), walkO f s.1 (tlP 1000004 1000005 1000006) A.t 1000002 (.rw 1000000 n) (.mp 1000001), .box 56 [.clo fw []], .box 4 [.b s.2.2.1], .box 24 [.d (intD s.2.2.2)], .box 83 [.ifc A.t 1000002], .box 117 [.ptr 1000003 0], planO f (tlP 1000004 1000005 1000006), .box 121 [.clo 44 [.ptr 1000007 0, .ptr 1000008 0, .ptr 1000009 0, .ptr 1000010 0]]]
end
end Go.Proofs.YtplooifpgmlofaaGreat
