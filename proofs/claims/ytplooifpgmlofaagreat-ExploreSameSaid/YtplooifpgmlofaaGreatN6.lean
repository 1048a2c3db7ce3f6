/- Find. No condition. -/
import Derived.Test.YtplooifpgmlofaaGreatN4
import Derived.Laws.Strings
namespace Go.Proofs.YtplooifpgmlofaaGreat
open Go.RowKit
@[simp] def tlP (a b c : Nat) : PV := .clo 38 [.ptr a 0, .ptr b 0, .ptr c 0]
abbrev Tz := Bool × List Int
abbrev FdT := FdB (List ByteArray × Tz)
def leafT (Y : Sys) (f : Cf) (want : ByteArray → Bool) (p : List Int) (cut : Bool) (s : FdT) : FdT :=
  if s.1.runs = f.most then ({ s.1 with full := false, enough := true }, s.2)
  else if cut then ({ s.1 with runs := s.1.runs + 1, full := false }, s.2)
  else ({ s.1 with runs := s.1.runs + 1, stuck := if Y.done p then s.1.stuck else s.1.stuck + 1, enough := want (Y.out p) }, putZ (Y.out p) s.2.1, want (Y.out p), p)
theorem leafT_ok {Y : Sys} {want : ByteArray → Bool} {p : List Int} {cut : Bool} {f : Cf} {s : FdT} (h : Ct.Ok f s.1) : Ct.Ok f (leafT Y f want p cut s).1 := by
  obtain ⟨h1, h2, h3, h4, h5⟩ := h
  unfold leafT
  split
  · exact ⟨h1, h2, h3, h4, h5⟩
  · split
    · exact ⟨h1, by show 0 ≤ s.1.runs + 1; omega, by show s.1.runs + 1 ≤ f.most; omega, h4, by show s.1.stuck ≤ s.1.runs + 1; omega⟩
    · refine ⟨h1, by show 0 ≤ s.1.runs + 1; omega, by show s.1.runs + 1 ≤ f.most; omega, ?_, ?_⟩
      · show 0 ≤ if Y.done p then s.1.stuck else s.1.stuck + 1
        split <;> omega
      · show (if Y.done p then s.1.stuck else s.1.stuck + 1) ≤ s.1.runs + 1
        split <;> omega
section
variable {want : ByteArray → Bool} {fw : Nat}
theorem tellT_m (hw : ∀ s : ByteArray, Meets Tryz.prog fw [.d (.v (.string s))] [] (Ret (.b (want s)))) (s : ByteArray) (z : Tz) (p : List Int) (h60 : p.length ≤ 60) :
    Meets Tryz.prog 38 [.d (.v (.string s)), .rw 1000000 p.length, .ptr 1000001 0, .ptr 1000002 0, .ptr 1000003 0] [rowO p, .box 56 [.clo fw []], .box 4 [.b z.1], .box 24 [.d (intD z.2)]]
      (fun r => r = ⟨.b (want s), [rowO p, .box 56 [.clo fw []], .box 4 [.b (want s, p).1], .box 24 [.d (intD (want s, p).2)]], []⟩) := by
  refine meets tbOk mixed Tryz.func38 pl38 rfl rfl ?_
  simp [Tryz.ntmps38]
  refine (hw s).mono ?_
  rintro _ rfl
  simp
  refine (cloneR_m (p.map intC) p.length (by simp) (by omega)).mono ?_
  rintro _ rfl
  simp
  refine vcRet_of [] ?_ rfl
  simp
  rw [List.take_of_length_le (by simp)]
theorem reachT_m {Y : Sys} (A : Plr Y) (f : Cf) (c : Ct) (z : Bool × List Int) (mp : List (Value × Value)) (q : Option (List Int)) (hq : ∀ p, q = some p → legal Y p) (p : List Int) (hp : legal Y p) :
    Meets Tryz.prog 48 [.ptr 1000000 0] [walkO f c (tlP 1000001 1000002 1000003) A.t 1000004 (.rw 1000005 p.length) (.mp 1000006), .box 56 [.clo fw []], .box 4 [.b z.1], .box 24 [.d (intD z.2)], .sys (A.at_ q), rowO p, .map mp]
      (fun r => r = ⟨unitV, [walkO f c (tlP 1000001 1000002 1000003) A.t 1000004 (.rw 1000005 p.length) (.mp 1000006), .box 56 [.clo fw []], .box 4 [.b z.1], .box 24 [.d (intD z.2)], .sys (A.at_ (some p)), rowO p, .map mp], []⟩) := by
  refine meets tbOk mixed Tryz.func48 pl48 rfl rfl ?_
  simp [Tryz.ntmps48, A.nS]
  refine (A.mS q hq).mono ?_
  rintro _ rfl
  simp
  have h60 := hp.1
  refine vc_loop (fun n σ => ∃ k : Nat, n = p.length - k ∧ k ≤ p.length ∧ σ = ⟨25, [(14, .i k), (13, .i p.length), (12, .rw 1000005 p.length), (0, .ptr 1000000 0)], extMem 1000000 [walkO f c (tlP 1000001 1000002 1000003) A.t 1000004 (.rw 1000005 p.length) (.mp 1000006), .box 56 [.clo fw []], .box 4 [.b z.1], .box 24 [.d (intD z.2)], .sys (A.at_ (some (p.take k))), rowO p, .map mp]⟩) ?_ ?_
  · exact ⟨_, _, ⟨0, rfl, Nat.zero_le _, rfl⟩, [], _, rfl, by simp [extMem]⟩
  · rintro n σ ⟨k, rfl, hk, rfl⟩
    by_cases hlt : k < p.length
    · obtain ⟨x, hx, e⟩ := at_lt hlt
      have htk : p.take (k + 1) = p.take k ++ [x] := by rw [List.take_add_one, hx]; rfl
      simp [hlt, e, extMem, A.nT]
      refine (A.mT (p.take k) x (legal_take hp k) (legal_at hp hx) (by rw [List.length_take]; omega)).mono ?_
      rintro _ rfl
      simp [wrap_succ hlt (show p.length < 4294967296 by omega)]
      exact ⟨_, by omega, _, ⟨k + 1, rfl, hlt, rfl⟩, [], _, rfl, by simp [htk]⟩
    · obtain rfl : k = p.length := by omega
      simp [extMem]
      refine vcRet_of [] ?_ rfl
      simp
theorem lastT_m {Y : Sys} (A : Plr Y) (f : Cf) (c : Ct) (z : Bool × List Int) (mp : List (Value × Value)) (H : Hid) (p : List Int) (h60 : p.length ≤ 60) (en : List Int) (hen : en.length < 1000) :
    Meets Tryz.prog 46 [.ptr 1000000 0, .d (intD en)] [walkO f c (tlP 1000001 1000002 1000003) A.t 1000004 (.rw 1000005 p.length) (.mp 1000006), .box 56 [.clo fw []], .box 4 [.b z.1], .box 24 [.d (intD z.2)], .sys H, rowO p, .map mp]
      (fun r => r = ⟨.i (lastOf p en), [walkO f c (tlP 1000001 1000002 1000003) A.t 1000004 (.rw 1000005 p.length) (.mp 1000006), .box 56 [.clo fw []], .box 4 [.b z.1], .box 24 [.d (intD z.2)], .sys H, rowO p, .map mp], []⟩) := by
  refine meets tbOk mixed Tryz.func46 pl46 rfl rfl ?_
  by_cases h0 : p = []
  · subst h0
    simp [Tryz.ntmps46]
    refine vcRet_of [] ?_ rfl
    simp [lastOf]
  · obtain ⟨p', t, rfl⟩ : ∃ p' t, p = p' ++ [t] := ⟨p.dropLast, p.getLast h0, (List.dropLast_concat_getLast h0).symm⟩
    simp at h60
    have hw : IntKind.i64.wrap (p'.length : Int) = p'.length := wrap_in (by omega)
    simp [Tryz.ntmps46, hw]
    refine ⟨by omega, (containsI_m en t (by omega)).mono ?_⟩
    rintro _ rfl
    by_cases ht : t ∈ en
    · simp [ht, hw]
      refine ⟨by omega, vcRet_of [] ?_ rfl⟩
      simp [lastOf, ht]
    · simp [ht]
      refine vcRet_of [] ?_ rfl
      simp [lastOf, ht]
theorem leafT_m (hw : ∀ s : ByteArray, Meets Tryz.prog fw [.d (.v (.string s))] [] (Ret (.b (want s)))) {Y : Sys} (A : Plr Y) (f : Cf) (s : FdT) (hc : Ct.Ok f s.1) (p : List Int) (hp : legal Y p) (cut : Bool) :
    Meets Tryz.prog 45 [.ptr 1000000 0, .b cut] [walkO f s.1 (tlP 1000001 1000002 1000003) A.t 1000004 (.rw 1000005 p.length) (.mp 1000006), .box 56 [.clo fw []], .box 4 [.b s.2.2.1], .box 24 [.d (intD s.2.2.2)], .sys (A.at_ (some p)), rowO p, .map (mapZ s.2.1)]
      (fun r => r = ⟨unitV, [walkO f (leafT Y f want p cut s).1 (tlP 1000001 1000002 1000003) A.t 1000004 (.rw 1000005 p.length) (.mp 1000006), .box 56 [.clo fw []], .box 4 [.b (leafT Y f want p cut s).2.2.1], .box 24 [.d (intD (leafT Y f want p cut s).2.2.2)], .sys (A.at_ (some p)), rowO p, .map (mapZ (leafT Y f want p cut s).2.1)], []⟩) := by
  refine meetsH [] tbOk mixed Tryz.func45 pl45 rfl rfl ?_
  obtain ⟨h1, h2, h3, h4, h5⟩ := hc
  have hw1 : IntKind.i64.wrap (s.1.runs + 1) = s.1.runs + 1 := wrap_in (by omega)
  have hw2 : IntKind.i64.wrap (s.1.stuck + 1) = s.1.stuck + 1 := wrap_in (by omega)
  have hm := mPut_Z (Y.out p) s.2.1
  have htl := tellT_m hw (Y.out p) s.2.2 p hp.1
  simp only [rowO] at htl
  by_cases hr : s.1.runs = f.most
  · simp [Tryz.ntmps45, hr]
    refine ⟨by kernel_rfl, vcRet_of [] ?_ rfl⟩
    simp [leafT, hr]
  cases cut
  · simp [Tryz.ntmps45, hr, hw1, A.nD]
    refine ⟨by kernel_rfl, (A.mD p hp).mono ?_⟩
    rintro _ rfl
    cases hd : Y.done p
    · simp [hw2, A.nO]
      refine (A.mO p hp).mono ?_
      rintro _ rfl
      set_option maxRecDepth 4000 in simp [hm]
      refine effCallN htl ?_
      simp
      refine ⟨by kernel_rfl, vcRet_of [] ?_ rfl⟩
      simp [leafT, hr, hd]
    · simp [A.nO]
      refine (A.mO p hp).mono ?_
      rintro _ rfl
      set_option maxRecDepth 4000 in simp [hm]
      refine effCallN htl ?_
      simp
      refine ⟨by kernel_rfl, vcRet_of [] ?_ rfl⟩
      simp [leafT, hr, hd]
  · simp [Tryz.ntmps45, hr, hw1]
    refine ⟨by kernel_rfl, vcRet_of [] ?_ rfl⟩
    simp [leafT, hr]
end
end Go.Proofs.YtplooifpgmlofaaGreat
namespace Go.Proofs.YtplooifpgmlofaaGreat
open Go.RowKit
section
variable {fw : Nat}
theorem sleptT_m (f : Cf) (z : Tz) (s : Stp) (t : Int) : Meets Tryz.prog 47 [s.pv, .ptr 1000000 0, .ptr 1000001 0] [planO f (tlP 1000002 1000003 1000004), .box 3 [.i t], .box 56 [.clo fw []], .box 4 [.b z.1], .box 24 [.d (intD z.2)]] (fun r => r = ⟨.b (f.sleeps && s.task == t), [planO f (tlP 1000002 1000003 1000004), .box 3 [.i t], .box 56 [.clo fw []], .box 4 [.b z.1], .box 24 [.d (intD z.2)]], []⟩) := by
  refine meets tbOk mixed Tryz.func47 pl47 rfl rfl ?_
  simp [Tryz.ntmps47]
  refine ⟨fun h => vcRet_of [] ?_ rfl, fun h => vcRet_of [] ?_ rfl⟩
  · simp [h]
    rfl
  · simp [h]
set_option maxHeartbeats 400000 in
theorem indexST_m (f : Cf) (z : Tz) (t : Int) (xs : List Stp) (hl : xs.length < 4294967296) :
    Meets Tryz.prog 58 [.d (stD xs), .clo 47 [.ptr 1000000 0, .ptr 1000001 0]] [planO f (tlP 1000002 1000003 1000004), .box 3 [.i t], .box 56 [.clo fw []], .box 4 [.b z.1], .box 24 [.d (intD z.2)]] (fun r => r = ⟨.i (idx (fun s => f.sleeps && s.task == t) xs 0), [planO f (tlP 1000002 1000003 1000004), .box 3 [.i t], .box 56 [.clo fw []], .box 4 [.b z.1], .box 24 [.d (intD z.2)]], []⟩) := by
  refine meets tbOk mixed Tryz.func58 pl58 rfl rfl ?_
  simp [Tryz.ntmps58]
  refine vc_loop (fun n σ => ∃ k : Nat, n = xs.length - k ∧ k ≤ xs.length ∧ noneTo (fun s => f.sleeps && s.task == t) xs k ∧ σ = ⟨19, [(8, .i k), (7, .i xs.length), (0, .d (stD xs)), (1, .clo 47 [.ptr 1000000 0, .ptr 1000001 0])], extMem 1000000 [planO f (tlP 1000002 1000003 1000004), .box 3 [.i t], .box 56 [.clo fw []], .box 4 [.b z.1], .box 24 [.d (intD z.2)]]⟩) ?_ ?_
  · exact ⟨_, _, ⟨0, rfl, Nat.zero_le _, noneTo_zero _ _, rfl⟩, [], _, rfl, by simp [extMem]⟩
  · rintro n σ ⟨k, rfl, hk, hn, rfl⟩
    by_cases hlt : k < xs.length
    · obtain ⟨x, hx, e⟩ := at_lt hlt
      simp [hlt, e, extMem]
      refine (sleptT_m f z x t).mono ?_
      rintro _ rfl
      cases h : (f.sleeps && x.task == t)
      · simp [wrap_succ hlt hl]
        exact ⟨_, by omega, _, ⟨k + 1, rfl, hlt, noneTo_succ hn hx h, rfl⟩, [], _, rfl, by simp⟩
      · simp
        refine vcRet_of [] ?_ rfl
        simp [idx_hit _ xs k x hx h hn]
    · obtain rfl : k = xs.length := by omega
      simp [extMem]
      refine vcRet_of [] ?_ rfl
      simp [idx_miss _ xs hn]
theorem containsST_m (f : Cf) (z : Tz) (t : Int) (xs : List Stp) (hl : xs.length < 4294967296) :
    Meets Tryz.prog 34 [.d (stD xs), .clo 47 [.ptr 1000000 0, .ptr 1000001 0]] [planO f (tlP 1000002 1000003 1000004), .box 3 [.i t], .box 56 [.clo fw []], .box 4 [.b z.1], .box 24 [.d (intD z.2)]] (fun r => r = ⟨.b (xs.any fun s => f.sleeps && s.task == t), [planO f (tlP 1000002 1000003 1000004), .box 3 [.i t], .box 56 [.clo fw []], .box 4 [.b z.1], .box 24 [.d (intD z.2)]], []⟩) := by
  refine meets tbOk mixed Tryz.func34 pl34 rfl rfl ?_
  simp [Tryz.ntmps34]
  refine (indexST_m f z t xs hl).mono ?_
  rintro _ rfl
  simp
  refine vcRet_of [] ?_ rfl
  simp [← idx_any (fun s => f.sleeps && s.task == t) xs 0 (by omega)]

@[simp] def extT (fw : Nat) {Y : Sys} (A : Plr Y) (f : Cf) (s : FdT) (q : List Int) (row : MObj) (n : Nat) : List MObj :=
  [row, .map (mapZ s.2.1), .sys (A.at_ (some q)), walkO f s.1 (tlP 1000004 1000005 1000006) A.t 1000002 (.rw 1000000 n) (.mp 1000001), .box 56 [.clo fw []], .box 4 [.b s.2.2.1], .box 24 [.d (intD s.2.2.2)], .box 83 [.ifc A.t 1000002], .box 117 [.ptr 1000003 0], planO f (tlP 1000004 1000005 1000006), .box 121 [.clo 44 [.ptr 1000007 0, .ptr 1000008 0, .ptr 1000009 0, .ptr 1000010 0]]]
end
end Go.Proofs.YtplooifpgmlofaaGreat
namespace Go.Proofs.YtplooifpgmlofaaGreat
open Go.RowKit
section
variable {want : ByteArray → Bool} {fw : Nat}
inductive FromT (fw : Nat) {Y : Sys} (A : Plr Y) (f : Cf) (G : List Int → List Stp → Int → FdT → FdT) (p : List Int) (left : Int) (T : FdT) : Nat → Sta → Prop
 | mk (i : Nat) (sl : List Stp) (s : FdT) (q : List Int) (st : Bool) (hi : i ≤ (Y.en p).length) (hT : loopX G Y f p (lastOf p (Y.en p)) left ((Y.en p).drop i) sl s = T) (hsl : sl.length ≤ 1000 * p.length + i) (hso : slOk sl) (hok : Ct.Ok f s.1) (hq : legal Y q) (hst : st = false → q = p) :
  FromT fw A f G p left T ((Y.en p).length - i) ⟨130, [(42, .i i), (41, .i (Y.en p).length), (40, .d (intD (Y.en p))), (10, .b st), (9, .i (lastOf p (Y.en p))), (0, .d (stD sl)), (1, .i left), (2, .ptr 1000007 0), (3, .ptr 1000008 0), (4, .ptr 1000009 0), (5, .ptr 1000010 0)], (4000000, .row 0 1 [] false) :: extMem 1000000 (extT fw A f s q (rowO p) p.length)⟩
inductive NextT (fw : Nat) {Y : Sys} (A : Plr Y) (f : Cf) (p : List Int) (sl : List Stp) (s : FdT) (left rest : Int) (i : Nat) (t : Int) : Nat → Sta → Prop
 | mk (k : Nat) (hk : k ≤ sl.length) :
  NextT fw A f p sl s left rest i t (sl.length - k) ⟨130, [(74, .i k), (73, .i sl.length), (72, .d (stD sl)), (15, .rw 15 ((sl.take k).filter fun q => indy q.uses (Y.foot p t)).length), (14, .d (fpD (Y.foot p t))), (13, .i rest), (12, .ptr 12 0), (42, .i i), (41, .i (Y.en p).length), (40, .d (intD (Y.en p))), (9, .i (lastOf p (Y.en p))), (0, .d (stD sl)), (1, .i left), (2, .ptr 1000007 0), (3, .ptr 1000008 0), (4, .ptr 1000009 0), (5, .ptr 1000010 0)],
   (15, .row 104 2 (((sl.take k).filter fun q => indy q.uses (Y.foot p t)).map Stp.ds) false) :: (12, .box 3 [.i t]) :: (4000000, .row 0 1 [] false) :: extMem 1000000 (extT fw A f s p (rowO p) p.length)⟩
set_option maxHeartbeats 8000000 in
theorem fromT_m (hw : ∀ s : ByteArray, Meets Tryz.prog fw [.d (.v (.string s))] [] (Ret (.b (want s)))) {Y : Sys} (hY : Fair Y) (A : Plr Y) (f : Cf) : ∀ (n : Nat) (p : List Int) (sl : List Stp) (left : Int) (s : FdT), p.length + n = 60 → legal Y p → sl.length ≤ 1000 * p.length → slOk sl → (0 ≤ left ∧ left ≤ 60) → Ct.Ok f s.1 →
  Meets Tryz.prog 44 [.d (stD sl), .i left, .ptr 1000007 0, .ptr 1000008 0, .ptr 1000009 0, .ptr 1000010 0] (extT fw A f s p (rowO p) p.length)
   (fun r => ∃ q, legal Y q ∧ r = ⟨unitV, extT fw A f (goX (leafT Y f want) Y f n p sl left s) q (.grown 3 1 (p.map intC)) p.length, []⟩) := by
 intro n
 induction n with
 | zero =>
  intro p sl left s hn hp hsl hso hleft hok
  have hfew := hY.few p
  have hpl : p.length = 60 := by omega
  refine meetsH [] tbOk mixed Tryz.func44 pl44 rfl rfl ?_
  simp [Tryz.ntmps44, A.nE]
  refine (A.mE p hp).mono ?_
  rintro _ rfl
  simp
  refine (cloneI_m (Y.en p) (by omega)).mono ?_
  rintro _ rfl
  by_cases he : Y.en p = []
  ·simp [he]
   refine (leafT_m hw A f s hok p hp false).mono ?_
   rintro _ rfl
   simp
   refine vcRet_of [] ?_ ⟨p, hp, rfl⟩
   simp [goX, he]
  ·have hpos : 0 < (Y.en p).length := List.length_pos_iff.2 he
   have hq : ((p.length : Int) = 60) = True := eq_true (by omega)
   simp [he, hq, hpos]
   refine (leafT_m hw A f s hok p hp true).mono ?_
   rintro _ rfl
   simp
   refine vcRet_of [] ?_ ⟨p, hp, rfl⟩
   simp [goX, hpos]
 | succ n ih =>
  intro p sl left s hn hp hsl hso hleft hok
  have hfew := hY.few p
  refine meetsH [] tbOk mixed Tryz.func44 pl44 rfl rfl ?_
  simp [Tryz.ntmps44, A.nE]
  refine (A.mE p hp).mono ?_
  rintro _ rfl
  simp
  refine (cloneI_m (Y.en p) (by omega)).mono ?_
  rintro _ rfl
  by_cases he : Y.en p = []
  ·simp [he]
   refine (leafT_m hw A f s hok p hp false).mono ?_
   rintro _ rfl
   simp
   refine vcRet_of [] ?_ ⟨p, hp, rfl⟩
   simp [goX, he]
  ·have hpl : ¬ (p.length : Int) = 60 := by omega
   simp [he, hpl]
   refine (lastT_m A f s.1 s.2.2 _ _ p (by omega) (Y.en p) hfew).mono ?_
   rintro _ rfl
   simp
   have hG : goX (leafT Y f want) Y f (n + 1) p sl left s = loopX (goX (leafT Y f want) Y f n) Y f p (lastOf p (Y.en p)) left (Y.en p) sl s := by simp [goX, he]
   rw [hG]
   obtain ⟨T, hT⟩ : ∃ T, loopX (goX (leafT Y f want) Y f n) Y f p (lastOf p (Y.en p)) left (Y.en p) sl s = T := ⟨_, rfl⟩
   rw [hT]
   clear hG
   have hlen : (Y.en p).length < 4294967296 := by omega
   have hpn : p.length < 60 := by omega
   have hwl : IntKind.i64.wrap (left - 1) = left - 1 := wrap_in (by omega)
   refine vc_loop (FromT fw A f (goX (leafT Y f want) Y f n) p left T) ?_ ?_
   ·exact ⟨_, _, .mk 0 sl s p false (Nat.zero_le _) hT (by omega) hso hok hp (fun _ => rfl), [.mark 1000000], _, rfl, by simp [extMem]⟩
   ·rintro m σ ⟨i, sl', s', q, st, hi, hT', hsl', hso', hok', hq, hst⟩
    by_cases hlt : i < (Y.en p).length
    ·obtain ⟨t, ht, e⟩ := at_lt hlt
     have htm : t ∈ Y.en p := List.mem_of_getElem? ht
     have hdrop : (Y.en p).drop i = t :: (Y.en p).drop (i + 1) := by rw [List.drop_eq_getElem_cons hlt, e]
     rw [hdrop, loopX] at hT'
     simp [hlt, e, extMem]
     refine (containsST_m f s'.2.2 t sl' (by omega)).mono ?_
     rintro _ rfl
     cases hs : (sl'.any fun s => f.sleeps && s.task == t)
     ·rw [if_neg (by rw [hs]; exact Bool.false_ne_true)] at hT'
      by_cases hL : 0 < lastOf p (Y.en p)
      ·by_cases hLt : lastOf p (Y.en p) = t
       ·have hcond : ¬ (0 < lastOf p (Y.en p) ∧ lastOf p (Y.en p) ≠ t) := fun h => h.2 hLt
        have hl0 : ¬ left < 0 := by omega
        have hLq : (lastOf p (Y.en p) = t) = True := eq_true hLt
        simp only [if_neg hcond, if_neg hl0] at hT'
        simp [hL, hLq, hl0]
        cases st
        ·have hqp : p = q := (hst rfl).symm
         subst hqp
         simp [A.nF]
         refine (A.mF p t hp htm).mono ?_
         rintro _ rfl
         simp
         have huses := hY.uses p t
         refine (cloneA_m (Y.foot p t) (by omega)).mono ?_
         rintro _ rfl
         simp
         refine vc_loop (NextT fw A f p sl' s' left left i t) ⟨_, _, .mk 0 (Nat.zero_le _), [.row 15 104 2], _, rfl, by simp [extMem]⟩ ?_
         rintro m σ ⟨k, hk⟩
         by_cases hk2 : k < sl'.length
         ·obtain ⟨y, hy, ey⟩ := at_lt hk2
          have hyu := hso' y (List.mem_of_getElem? hy)
          have hyl : sl'.length < 4294967296 := by omega
          have htk : sl'.take (k + 1) = sl'.take k ++ [y] := by rw [List.take_add_one, hy]; rfl
          simp [hk2, ey, extMem]
          refine (indep_m y.uses (Y.foot p t) (by omega) (by omega)).mono ?_
          rintro _ rfl
          cases hyi : indy y.uses (Y.foot p t)
          ·simp [wrap_succ hk2 hyl]
           exact ⟨_, by omega, _, .mk (k + 1) hk2, [], _, rfl, by simp [extMem, htk, hyi, List.filter_append]⟩
          ·simp [wrap_succ hk2 hyl]
           have hfl := List.length_filter_le (fun q : Stp => indy q.uses (Y.foot p t)) (sl'.take k)
           rw [List.length_take] at hfl
           exact ⟨by omega, _, by omega, _, .mk (k + 1) hk2, [], _, rfl, by simp [extMem, htk, hyi, List.filter_append]⟩
         ·obtain rfl : k = sl'.length := by omega
          simp [extMem, A.nT]
          refine (A.mT p t hp htm hpn).mono ?_
          rintro _ rfl
          simp
          refine ⟨by omega, by kernel_rfl, ?_⟩
          rw [List.take_of_length_le (by simp)]
          have hfl := List.length_filter_le (fun q : Stp => indy q.uses (Y.foot p t)) sl'
          have hrec := ih (p ++ [t]) (sl'.filter fun q => indy q.uses (Y.foot p t)) left s' (by simp; omega) (legal_snoc hp htm hpn) (by simp; omega) (fun y hy => hso' y (List.mem_filter.1 hy).1) (by omega) hok'
          simp only [extT, rowO, List.map_append, List.map_cons, List.map_nil, List.length_append, List.length_cons, List.length_nil, Nat.zero_add] at hrec
          obtain ⟨S, hS⟩ : ∃ S, goX (leafT Y f want) Y f n (p ++ [t]) (sl'.filter fun q => indy q.uses (Y.foot p t)) left s' = S := ⟨_, rfl⟩
          have hSok : Ct.Ok f S.1 := by rw [← hS]; exact goX_ok (fun p cut s h => leafT_ok h) n _ _ _ _ hok'
          rw [hS] at hrec hT'
          refine hrec.mono ?_
          rintro _ ⟨q', hq', rfl⟩
          have hw1 : IntKind.i64.wrap (p.length : Int) = p.length := wrap_in (by omega)
          cases hen : S.1.enough
          ·rw [if_neg (by rw [hen]; exact Bool.false_ne_true)] at hT'
           set_option maxRecDepth 8000 in simp [hw1, hen]
           refine ⟨by omega, by kernel_rfl, effCall (clip_m sl') ?_⟩
           simp [wrap_succ hlt hlen]
           refine ⟨by omega, by kernel_rfl, _, by omega, _, .mk (i + 1) (sl' ++ [⟨t, Y.foot p t⟩]) S q' true hlt hT' (by simp; omega) (fun y hy => ?_) hSok hq' (fun h => by cases h), [.trim 1000000 p.length], _, by simp [Prep.all, Prep.run]; rfl, by simp [extMem, hen]⟩
           rcases List.mem_append.1 hy with hy | hy
           ·exact hso' y hy
           ·rw [List.mem_singleton] at hy
            subst hy; exact huses
          ·rw [if_pos hen] at hT'
           subst hT'
           set_option maxRecDepth 8000 in simp [hw1, hen]
           refine ⟨by omega, by kernel_rfl, vcRet_prep [.trim 1000000 p.length] [] (by simp [Prep.all, Prep.run]; rfl) ?_ ⟨q', hq', rfl⟩⟩
           simp
        ·simp
         refine (reachT_m A f s'.1 s'.2.2 (mapZ s'.2.1) (some q) (fun p h => by cases h; exact hq) p hp).mono ?_
         rintro _ rfl
         simp [A.nF]
         refine (A.mF p t hp htm).mono ?_
         rintro _ rfl
         simp
         have huses := hY.uses p t
         refine (cloneA_m (Y.foot p t) (by omega)).mono ?_
         rintro _ rfl
         simp
         refine vc_loop (NextT fw A f p sl' s' left left i t) ⟨_, _, .mk 0 (Nat.zero_le _), [.row 15 104 2], _, rfl, by simp [extMem]⟩ ?_
         rintro m σ ⟨k, hk⟩
         by_cases hk2 : k < sl'.length
         ·obtain ⟨y, hy, ey⟩ := at_lt hk2
          have hyu := hso' y (List.mem_of_getElem? hy)
          have hyl : sl'.length < 4294967296 := by omega
          have htk : sl'.take (k + 1) = sl'.take k ++ [y] := by rw [List.take_add_one, hy]; rfl
          simp [hk2, ey, extMem]
          refine (indep_m y.uses (Y.foot p t) (by omega) (by omega)).mono ?_
          rintro _ rfl
          cases hyi : indy y.uses (Y.foot p t)
          ·simp [wrap_succ hk2 hyl]
           exact ⟨_, by omega, _, .mk (k + 1) hk2, [], _, rfl, by simp [extMem, htk, hyi, List.filter_append]⟩
          ·simp [wrap_succ hk2 hyl]
           have hfl := List.length_filter_le (fun q : Stp => indy q.uses (Y.foot p t)) (sl'.take k)
           rw [List.length_take] at hfl
           exact ⟨by omega, _, by omega, _, .mk (k + 1) hk2, [], _, rfl, by simp [extMem, htk, hyi, List.filter_append]⟩
         ·obtain rfl : k = sl'.length := by omega
          simp [extMem, A.nT]
          refine (A.mT p t hp htm hpn).mono ?_
          rintro _ rfl
          simp
          refine ⟨by omega, by kernel_rfl, ?_⟩
          rw [List.take_of_length_le (by simp)]
          have hfl := List.length_filter_le (fun q : Stp => indy q.uses (Y.foot p t)) sl'
          have hrec := ih (p ++ [t]) (sl'.filter fun q => indy q.uses (Y.foot p t)) left s' (by simp; omega) (legal_snoc hp htm hpn) (by simp; omega) (fun y hy => hso' y (List.mem_filter.1 hy).1) (by omega) hok'
          simp only [extT, rowO, List.map_append, List.map_cons, List.map_nil, List.length_append, List.length_cons, List.length_nil, Nat.zero_add] at hrec
          obtain ⟨S, hS⟩ : ∃ S, goX (leafT Y f want) Y f n (p ++ [t]) (sl'.filter fun q => indy q.uses (Y.foot p t)) left s' = S := ⟨_, rfl⟩
          have hSok : Ct.Ok f S.1 := by rw [← hS]; exact goX_ok (fun p cut s h => leafT_ok h) n _ _ _ _ hok'
          rw [hS] at hrec hT'
          refine hrec.mono ?_
          rintro _ ⟨q', hq', rfl⟩
          have hw1 : IntKind.i64.wrap (p.length : Int) = p.length := wrap_in (by omega)
          cases hen : S.1.enough
          ·rw [if_neg (by rw [hen]; exact Bool.false_ne_true)] at hT'
           set_option maxRecDepth 8000 in simp [hw1, hen]
           refine ⟨by omega, by kernel_rfl, effCall (clip_m sl') ?_⟩
           simp [wrap_succ hlt hlen]
           refine ⟨by omega, by kernel_rfl, _, by omega, _, .mk (i + 1) (sl' ++ [⟨t, Y.foot p t⟩]) S q' true hlt hT' (by simp; omega) (fun y hy => ?_) hSok hq' (fun h => by cases h), [.trim 1000000 p.length], _, by simp [Prep.all, Prep.run]; rfl, by simp [extMem, hen]⟩
           rcases List.mem_append.1 hy with hy | hy
           ·exact hso' y hy
           ·rw [List.mem_singleton] at hy
            subst hy; exact huses
          ·rw [if_pos hen] at hT'
           subst hT'
           set_option maxRecDepth 8000 in simp [hw1, hen]
           refine ⟨by omega, by kernel_rfl, vcRet_prep [.trim 1000000 p.length] [] (by simp [Prep.all, Prep.run]; rfl) ?_ ⟨q', hq', rfl⟩⟩
           simp
       ·have hcond : 0 < lastOf p (Y.en p) ∧ lastOf p (Y.en p) ≠ t := ⟨hL, hLt⟩
        by_cases hl1 : left - 1 < 0
        ·simp only [if_pos hcond, if_pos hl1] at hT'
         simp [hL, hLt, hl1, hwl, wrap_succ hlt hlen]
         exact ⟨_, by omega, _, .mk (i + 1) sl' ({ s'.1 with full := false }, s'.2) q st hlt hT' (by omega) hso' ⟨hok'.most, hok'.runs0, hok'.runs, hok'.stuck0, hok'.stuck⟩ hq hst, [], _, rfl, by simp [extMem]⟩
        ·simp only [if_pos hcond, if_neg hl1] at hT'
         simp [hL, hLt, hl1, hwl]
         cases st
         ·have hqp : p = q := (hst rfl).symm
          subst hqp
          simp [A.nF]
          refine (A.mF p t hp htm).mono ?_
          rintro _ rfl
          simp
          have huses := hY.uses p t
          refine (cloneA_m (Y.foot p t) (by omega)).mono ?_
          rintro _ rfl
          simp
          refine vc_loop (NextT fw A f p sl' s' left (left - 1) i t) ⟨_, _, .mk 0 (Nat.zero_le _), [.row 15 104 2], _, rfl, by simp [extMem]⟩ ?_
          rintro m σ ⟨k, hk⟩
          by_cases hk2 : k < sl'.length
          ·obtain ⟨y, hy, ey⟩ := at_lt hk2
           have hyu := hso' y (List.mem_of_getElem? hy)
           have hyl : sl'.length < 4294967296 := by omega
           have htk : sl'.take (k + 1) = sl'.take k ++ [y] := by rw [List.take_add_one, hy]; rfl
           simp [hk2, ey, extMem]
           refine (indep_m y.uses (Y.foot p t) (by omega) (by omega)).mono ?_
           rintro _ rfl
           cases hyi : indy y.uses (Y.foot p t)
           ·simp [wrap_succ hk2 hyl]
            exact ⟨_, by omega, _, .mk (k + 1) hk2, [], _, rfl, by simp [extMem, htk, hyi, List.filter_append]⟩
           ·simp [wrap_succ hk2 hyl]
            have hfl := List.length_filter_le (fun q : Stp => indy q.uses (Y.foot p t)) (sl'.take k)
            rw [List.length_take] at hfl
            exact ⟨by omega, _, by omega, _, .mk (k + 1) hk2, [], _, rfl, by simp [extMem, htk, hyi, List.filter_append]⟩
          ·obtain rfl : k = sl'.length := by omega
           simp [extMem, A.nT]
           refine (A.mT p t hp htm hpn).mono ?_
           rintro _ rfl
           simp
           refine ⟨by omega, by kernel_rfl, ?_⟩
           rw [List.take_of_length_le (by simp)]
           have hfl := List.length_filter_le (fun q : Stp => indy q.uses (Y.foot p t)) sl'
           have hrec := ih (p ++ [t]) (sl'.filter fun q => indy q.uses (Y.foot p t)) (left - 1) s' (by simp; omega) (legal_snoc hp htm hpn) (by simp; omega) (fun y hy => hso' y (List.mem_filter.1 hy).1) (by omega) hok'
           simp only [extT, rowO, List.map_append, List.map_cons, List.map_nil, List.length_append, List.length_cons, List.length_nil, Nat.zero_add] at hrec
           obtain ⟨S, hS⟩ : ∃ S, goX (leafT Y f want) Y f n (p ++ [t]) (sl'.filter fun q => indy q.uses (Y.foot p t)) (left - 1) s' = S := ⟨_, rfl⟩
           have hSok : Ct.Ok f S.1 := by rw [← hS]; exact goX_ok (fun p cut s h => leafT_ok h) n _ _ _ _ hok'
           rw [hS] at hrec hT'
           refine hrec.mono ?_
           rintro _ ⟨q', hq', rfl⟩
           have hw1 : IntKind.i64.wrap (p.length : Int) = p.length := wrap_in (by omega)
           cases hen : S.1.enough
           ·rw [if_neg (by rw [hen]; exact Bool.false_ne_true)] at hT'
            set_option maxRecDepth 8000 in simp [hw1, hen]
            refine ⟨by omega, by kernel_rfl, effCall (clip_m sl') ?_⟩
            simp [wrap_succ hlt hlen]
            refine ⟨by omega, by kernel_rfl, _, by omega, _, .mk (i + 1) (sl' ++ [⟨t, Y.foot p t⟩]) S q' true hlt hT' (by simp; omega) (fun y hy => ?_) hSok hq' (fun h => by cases h), [.trim 1000000 p.length], _, by simp [Prep.all, Prep.run]; rfl, by simp [extMem, hen]⟩
            rcases List.mem_append.1 hy with hy | hy
            ·exact hso' y hy
            ·rw [List.mem_singleton] at hy
             subst hy; exact huses
           ·rw [if_pos hen] at hT'
            subst hT'
            set_option maxRecDepth 8000 in simp [hw1, hen]
            refine ⟨by omega, by kernel_rfl, vcRet_prep [.trim 1000000 p.length] [] (by simp [Prep.all, Prep.run]; rfl) ?_ ⟨q', hq', rfl⟩⟩
            simp
         ·simp
          refine (reachT_m A f s'.1 s'.2.2 (mapZ s'.2.1) (some q) (fun p h => by cases h; exact hq) p hp).mono ?_
          rintro _ rfl
          simp [A.nF]
          refine (A.mF p t hp htm).mono ?_
          rintro _ rfl
          simp
          have huses := hY.uses p t
          refine (cloneA_m (Y.foot p t) (by omega)).mono ?_
          rintro _ rfl
          simp
          refine vc_loop (NextT fw A f p sl' s' left (left - 1) i t) ⟨_, _, .mk 0 (Nat.zero_le _), [.row 15 104 2], _, rfl, by simp [extMem]⟩ ?_
          rintro m σ ⟨k, hk⟩
          by_cases hk2 : k < sl'.length
          ·obtain ⟨y, hy, ey⟩ := at_lt hk2
           have hyu := hso' y (List.mem_of_getElem? hy)
           have hyl : sl'.length < 4294967296 := by omega
           have htk : sl'.take (k + 1) = sl'.take k ++ [y] := by rw [List.take_add_one, hy]; rfl
           simp [hk2, ey, extMem]
           refine (indep_m y.uses (Y.foot p t) (by omega) (by omega)).mono ?_
           rintro _ rfl
           cases hyi : indy y.uses (Y.foot p t)
           ·simp [wrap_succ hk2 hyl]
            exact ⟨_, by omega, _, .mk (k + 1) hk2, [], _, rfl, by simp [extMem, htk, hyi, List.filter_append]⟩
           ·simp [wrap_succ hk2 hyl]
            have hfl := List.length_filter_le (fun q : Stp => indy q.uses (Y.foot p t)) (sl'.take k)
            rw [List.length_take] at hfl
            exact ⟨by omega, _, by omega, _, .mk (k + 1) hk2, [], _, rfl, by simp [extMem, htk, hyi, List.filter_append]⟩
          ·obtain rfl : k = sl'.length := by omega
           simp [extMem, A.nT]
           refine (A.mT p t hp htm hpn).mono ?_
           rintro _ rfl
           simp
           refine ⟨by omega, by kernel_rfl, ?_⟩
           rw [List.take_of_length_le (by simp)]
           have hfl := List.length_filter_le (fun q : Stp => indy q.uses (Y.foot p t)) sl'
           have hrec := ih (p ++ [t]) (sl'.filter fun q => indy q.uses (Y.foot p t)) (left - 1) s' (by simp; omega) (legal_snoc hp htm hpn) (by simp; omega) (fun y hy => hso' y (List.mem_filter.1 hy).1) (by omega) hok'
           simp only [extT, rowO, List.map_append, List.map_cons, List.map_nil, List.length_append, List.length_cons, List.length_nil, Nat.zero_add] at hrec
           obtain ⟨S, hS⟩ : ∃ S, goX (leafT Y f want) Y f n (p ++ [t]) (sl'.filter fun q => indy q.uses (Y.foot p t)) (left - 1) s' = S := ⟨_, rfl⟩
           have hSok : Ct.Ok f S.1 := by rw [← hS]; exact goX_ok (fun p cut s h => leafT_ok h) n _ _ _ _ hok'
           rw [hS] at hrec hT'
           refine hrec.mono ?_
           rintro _ ⟨q', hq', rfl⟩
           have hw1 : IntKind.i64.wrap (p.length : Int) = p.length := wrap_in (by omega)
           cases hen : S.1.enough
           ·rw [if_neg (by rw [hen]; exact Bool.false_ne_true)] at hT'
            set_option maxRecDepth 8000 in simp [hw1, hen]
            refine ⟨by omega, by kernel_rfl, effCall (clip_m sl') ?_⟩
            simp [wrap_succ hlt hlen]
            refine ⟨by omega, by kernel_rfl, _, by omega, _, .mk (i + 1) (sl' ++ [⟨t, Y.foot p t⟩]) S q' true hlt hT' (by simp; omega) (fun y hy => ?_) hSok hq' (fun h => by cases h), [.trim 1000000 p.length], _, by simp [Prep.all, Prep.run]; rfl, by simp [extMem, hen]⟩
            rcases List.mem_append.1 hy with hy | hy
            ·exact hso' y hy
            ·rw [List.mem_singleton] at hy
             subst hy; exact huses
           ·rw [if_pos hen] at hT'
            subst hT'
            set_option maxRecDepth 8000 in simp [hw1, hen]
            refine ⟨by omega, by kernel_rfl, vcRet_prep [.trim 1000000 p.length] [] (by simp [Prep.all, Prep.run]; rfl) ?_ ⟨q', hq', rfl⟩⟩
            simp
      ·have hcond : ¬ (0 < lastOf p (Y.en p) ∧ lastOf p (Y.en p) ≠ t) := fun h => hL h.1
       have hl0 : ¬ left < 0 := by omega
       simp only [if_neg hcond, if_neg hl0] at hT'
       simp [hL, hl0]
       cases st
       ·have hqp : p = q := (hst rfl).symm
        subst hqp
        simp [A.nF]
        refine (A.mF p t hp htm).mono ?_
        rintro _ rfl
        simp
        have huses := hY.uses p t
        refine (cloneA_m (Y.foot p t) (by omega)).mono ?_
        rintro _ rfl
        simp
        refine vc_loop (NextT fw A f p sl' s' left left i t) ⟨_, _, .mk 0 (Nat.zero_le _), [.row 15 104 2], _, rfl, by simp [extMem]⟩ ?_
        rintro m σ ⟨k, hk⟩
        by_cases hk2 : k < sl'.length
        ·obtain ⟨y, hy, ey⟩ := at_lt hk2
         have hyu := hso' y (List.mem_of_getElem? hy)
         have hyl : sl'.length < 4294967296 := by omega
         have htk : sl'.take (k + 1) = sl'.take k ++ [y] := by rw [List.take_add_one, hy]; rfl
         simp [hk2, ey, extMem]
         refine (indep_m y.uses (Y.foot p t) (by omega) (by omega)).mono ?_
         rintro _ rfl
         cases hyi : indy y.uses (Y.foot p t)
         ·simp [wrap_succ hk2 hyl]
          exact ⟨_, by omega, _, .mk (k + 1) hk2, [], _, rfl, by simp [extMem, htk, hyi, List.filter_append]⟩
         ·simp [wrap_succ hk2 hyl]
          have hfl := List.length_filter_le (fun q : Stp => indy q.uses (Y.foot p t)) (sl'.take k)
          rw [List.length_take] at hfl
          exact ⟨by omega, _, by omega, _, .mk (k + 1) hk2, [], _, rfl, by simp [extMem, htk, hyi, List.filter_append]⟩
        ·obtain rfl : k = sl'.length := by omega
         simp [extMem, A.nT]
         refine (A.mT p t hp htm hpn).mono ?_
         rintro _ rfl
         simp
         refine ⟨by omega, by kernel_rfl, ?_⟩
         rw [List.take_of_length_le (by simp)]
         have hfl := List.length_filter_le (fun q : Stp => indy q.uses (Y.foot p t)) sl'
         have hrec := ih (p ++ [t]) (sl'.filter fun q => indy q.uses (Y.foot p t)) left s' (by simp; omega) (legal_snoc hp htm hpn) (by simp; omega) (fun y hy => hso' y (List.mem_filter.1 hy).1) (by omega) hok'
         simp only [extT, rowO, List.map_append, List.map_cons, List.map_nil, List.length_append, List.length_cons, List.length_nil, Nat.zero_add] at hrec
         obtain ⟨S, hS⟩ : ∃ S, goX (leafT Y f want) Y f n (p ++ [t]) (sl'.filter fun q => indy q.uses (Y.foot p t)) left s' = S := ⟨_, rfl⟩
         have hSok : Ct.Ok f S.1 := by rw [← hS]; exact goX_ok (fun p cut s h => leafT_ok h) n _ _ _ _ hok'
         rw [hS] at hrec hT'
         refine hrec.mono ?_
         rintro _ ⟨q', hq', rfl⟩
         have hw1 : IntKind.i64.wrap (p.length : Int) = p.length := wrap_in (by omega)
         cases hen : S.1.enough
         ·rw [if_neg (by rw [hen]; exact Bool.false_ne_true)] at hT'
          set_option maxRecDepth 8000 in simp [hw1, hen]
          refine ⟨by omega, by kernel_rfl, effCall (clip_m sl') ?_⟩
          simp [wrap_succ hlt hlen]
          refine ⟨by omega, by kernel_rfl, _, by omega, _, .mk (i + 1) (sl' ++ [⟨t, Y.foot p t⟩]) S q' true hlt hT' (by simp; omega) (fun y hy => ?_) hSok hq' (fun h => by cases h), [.trim 1000000 p.length], _, by simp [Prep.all, Prep.run]; rfl, by simp [extMem, hen]⟩
          rcases List.mem_append.1 hy with hy | hy
          ·exact hso' y hy
          ·rw [List.mem_singleton] at hy
           subst hy; exact huses
         ·rw [if_pos hen] at hT'
          subst hT'
          set_option maxRecDepth 8000 in simp [hw1, hen]
          refine ⟨by omega, by kernel_rfl, vcRet_prep [.trim 1000000 p.length] [] (by simp [Prep.all, Prep.run]; rfl) ?_ ⟨q', hq', rfl⟩⟩
          simp
       ·simp
        refine (reachT_m A f s'.1 s'.2.2 (mapZ s'.2.1) (some q) (fun p h => by cases h; exact hq) p hp).mono ?_
        rintro _ rfl
        simp [A.nF]
        refine (A.mF p t hp htm).mono ?_
        rintro _ rfl
        simp
        have huses := hY.uses p t
        refine (cloneA_m (Y.foot p t) (by omega)).mono ?_
        rintro _ rfl
        simp
        refine vc_loop (NextT fw A f p sl' s' left left i t) ⟨_, _, .mk 0 (Nat.zero_le _), [.row 15 104 2], _, rfl, by simp [extMem]⟩ ?_
        rintro m σ ⟨k, hk⟩
        by_cases hk2 : k < sl'.length
        ·obtain ⟨y, hy, ey⟩ := at_lt hk2
         have hyu := hso' y (List.mem_of_getElem? hy)
         have hyl : sl'.length < 4294967296 := by omega
         have htk : sl'.take (k + 1) = sl'.take k ++ [y] := by rw [List.take_add_one, hy]; rfl
         simp [hk2, ey, extMem]
         refine (indep_m y.uses (Y.foot p t) (by omega) (by omega)).mono ?_
         rintro _ rfl
         cases hyi : indy y.uses (Y.foot p t)
         ·simp [wrap_succ hk2 hyl]
          exact ⟨_, by omega, _, .mk (k + 1) hk2, [], _, rfl, by simp [extMem, htk, hyi, List.filter_append]⟩
         ·simp [wrap_succ hk2 hyl]
          have hfl := List.length_filter_le (fun q : Stp => indy q.uses (Y.foot p t)) (sl'.take k)
          rw [List.length_take] at hfl
          exact ⟨by omega, _, by omega, _, .mk (k + 1) hk2, [], _, rfl, by simp [extMem, htk, hyi, List.filter_append]⟩
        ·obtain rfl : k = sl'.length := by omega
         simp [extMem, A.nT]
         refine (A.mT p t hp htm hpn).mono ?_
         rintro _ rfl
         simp
         refine ⟨by omega, by kernel_rfl, ?_⟩
         rw [List.take_of_length_le (by simp)]
         have hfl := List.length_filter_le (fun q : Stp => indy q.uses (Y.foot p t)) sl'
         have hrec := ih (p ++ [t]) (sl'.filter fun q => indy q.uses (Y.foot p t)) left s' (by simp; omega) (legal_snoc hp htm hpn) (by simp; omega) (fun y hy => hso' y (List.mem_filter.1 hy).1) (by omega) hok'
         simp only [extT, rowO, List.map_append, List.map_cons, List.map_nil, List.length_append, List.length_cons, List.length_nil, Nat.zero_add] at hrec
         obtain ⟨S, hS⟩ : ∃ S, goX (leafT Y f want) Y f n (p ++ [t]) (sl'.filter fun q => indy q.uses (Y.foot p t)) left s' = S := ⟨_, rfl⟩
         have hSok : Ct.Ok f S.1 := by rw [← hS]; exact goX_ok (fun p cut s h => leafT_ok h) n _ _ _ _ hok'
         rw [hS] at hrec hT'
         refine hrec.mono ?_
         rintro _ ⟨q', hq', rfl⟩
         have hw1 : IntKind.i64.wrap (p.length : Int) = p.length := wrap_in (by omega)
         cases hen : S.1.enough
         ·rw [if_neg (by rw [hen]; exact Bool.false_ne_true)] at hT'
          set_option maxRecDepth 8000 in simp [hw1, hen]
          refine ⟨by omega, by kernel_rfl, effCall (clip_m sl') ?_⟩
          simp [wrap_succ hlt hlen]
          refine ⟨by omega, by kernel_rfl, _, by omega, _, .mk (i + 1) (sl' ++ [⟨t, Y.foot p t⟩]) S q' true hlt hT' (by simp; omega) (fun y hy => ?_) hSok hq' (fun h => by cases h), [.trim 1000000 p.length], _, by simp [Prep.all, Prep.run]; rfl, by simp [extMem, hen]⟩
          rcases List.mem_append.1 hy with hy | hy
          ·exact hso' y hy
          ·rw [List.mem_singleton] at hy
           subst hy; exact huses
         ·rw [if_pos hen] at hT'
          subst hT'
          set_option maxRecDepth 8000 in simp [hw1, hen]
          refine ⟨by omega, by kernel_rfl, vcRet_prep [.trim 1000000 p.length] [] (by simp [Prep.all, Prep.run]; rfl) ?_ ⟨q', hq', rfl⟩⟩
          simp
     ·rw [if_pos hs] at hT'
      simp [wrap_succ hlt hlen]
      exact ⟨_, by omega, _, .mk (i + 1) sl' s' q st hlt hT' (by omega) hso' hok' hq hst, [], _, rfl, by simp [extMem]⟩
    ·obtain rfl : i = (Y.en p).length := by omega
     rw [List.drop_length, loopX] at hT'
     simp [extMem]
     refine vcRet_of [] ?_ ⟨q, hq, rfl⟩
     simp [← hT']
end
end Go.Proofs.YtplooifpgmlofaaGreat
namespace Go.Proofs.YtplooifpgmlofaaGreat
open Go.RowKit
def lenOkT (s : FdT) : Prop := (s.2.1.length : Int) ≤ s.1.runs
theorem leafT_len {Y : Sys} {f : Cf} {p : List Int} {want : ByteArray → Bool} {cut : Bool} {s : FdT} (h : lenOkT s) : lenOkT (leafT Y f want p cut s) := by
  unfold lenOkT leafT at *
  split
  · exact h
  · split
    · show (s.2.1.length : Int) ≤ s.1.runs + 1
      omega
    · show ((putZ (Y.out p) s.2.1).length : Int) ≤ s.1.runs + 1
      unfold putZ
      split
      · omega
      · simp; omega
theorem loopXT_len {Y : Sys} {f : Cf} {rec : List Int → List Stp → Int → FdT → FdT} {p : List Int} {last left : Int} (hrec : ∀ p sl left s, lenOkT s → lenOkT (rec p sl left s)) : ∀ (ts : List Int) (sl : List Stp) (s : FdT), lenOkT s → lenOkT (loopX rec Y f p last left ts sl s)
  | [], _, _, h => h
  | t :: ts, sl, s, h => by
    unfold loopX
    generalize (if 0 < last ∧ last ≠ t then left - 1 else left) = r
    split
    · exact loopXT_len hrec ts sl s h
    · split
      · exact loopXT_len hrec ts sl _ h
      · split
        · exact hrec _ _ _ _ h
        · exact loopXT_len hrec ts _ _ (hrec _ _ _ _ h)
theorem goXT_len {Y : Sys} {f : Cf} {lf : List Int → Bool → FdT → FdT} (hlf : ∀ p cut s, lenOkT s → lenOkT (lf p cut s)) : ∀ (n : Nat) (p : List Int) (sl : List Stp) (left : Int) (s : FdT), lenOkT s → lenOkT (goX lf Y f n p sl left s)
  | 0, p, _, _, s, h => hlf _ _ _ h
  | n + 1, p, sl, left, s, h => by
    unfold goX
    split
    · exact hlf _ _ _ h
    · exact loopXT_len (fun p sl left s h => goXT_len hlf n p sl left s h) _ _ _ h
section
variable {want : ByteArray → Bool} {fw : Nat}
inductive OutT (fw : Nat) (z : Tz) (A : PV) (f : Cf) (c : Ct) (l : List ByteArray) (H : Hid) : Nat → Sta → Prop
  | mk (lz acc : List ByteArray) (cur : Option (Value × Value)) (hp : (acc ++ lz).Perm l) :
    OutT fw z A f c l H lz.length ⟨52, [(25, .ptr 25 0), (5, .ptr 5 0), (4, .ptr 4 0)], [(25, .sys (iterH (mapZ lz) cur)), (901, .row 9 1 (acc.map strC) false), (13, .box 120 [.i f.most, .i f.switches, .b f.sleeps, tlP 1000001 1000002 1000003, A, .any, .i c.runs, .i c.stuck, .rw 901 acc.length, .b c.full, .any, .b c.enough]), (5, .box 117 [.ptr 13 0]), (4, .box 34 [.i 0, .i 0, .d (.v (.slice none 0 0)), .b false]), (1000000, .sys H), (1000001, .box 56 [.clo fw []]), (1000002, .box 4 [.b z.1]), (1000003, .box 24 [.d (intD z.2)])]⟩

set_option maxHeartbeats 2000000 in
theorem exploreT_m (hw : ∀ s : ByteArray, Meets Tryz.prog fw [.d (.v (.string s))] [] (Ret (.b (want s)))) {Y : Sys} (hY : Fair Y) (A : Plr Y) (f : Cf) (hm : 0 ≤ f.most ∧ f.most ≤ 100000) (hs : 0 ≤ f.switches ∧ f.switches ≤ 60) (q : Option (List Int)) (hq : ∀ p, q = some p → legal Y p) :
    Meets Tryz.prog 26 [.ifc A.t 1000000, .agg [.i f.most, .i f.switches, .b f.sleeps, tlP 1000001 1000002 1000003]] [.sys (A.at_ q), .box 56 [.clo fw []], .box 4 [.b false], .box 24 [.d (.v (.slice none 0 0))]]
      (fun r => ∃ p, legal Y p ∧ r = ⟨.agg [.i (goX (leafT Y f want) Y f 60 [] [] f.switches (⟨0, 0, true, false⟩, [], false, [])).1.runs, .i (goX (leafT Y f want) Y f 60 [] [] f.switches (⟨0, 0, true, false⟩, [], false, [])).1.stuck, .d (.sl 1 ((sortB (goX (leafT Y f want) Y f 60 [] [] f.switches (⟨0, 0, true, false⟩, [], false, [])).2.1).map strC)), .b (goX (leafT Y f want) Y f 60 [] [] f.switches (⟨0, 0, true, false⟩, [], false, [])).1.full], [.sys (A.at_ (some p)), .box 56 [.clo fw []], .box 4 [.b (goX (leafT Y f want) Y f 60 [] [] f.switches (⟨0, 0, true, false⟩, [], false, [])).2.2.1], .box 24 [.d (intD (goX (leafT Y f want) Y f 60 [] [] f.switches (⟨0, 0, true, false⟩, [], false, [])).2.2.2)]], []⟩) := by
  obtain ⟨R, hR⟩ : ∃ R, goX (leafT Y f want) Y f 60 [] [] f.switches (⟨0, 0, true, false⟩, [], false, []) = R := ⟨_, rfl⟩
  refine meetsP [(8, [.cell 1000003 0 902 3 1, .seen 1000003 0]), (15, [.cell 13 5 900 3 1]), (21, [.cell 13 8 901 9 1])] tbOk mixed Tryz.func26 pl26 rfl rfl ?_
  simp [Tryz.ntmps26, Prep.run]
  refine (reachT_m A f ⟨0, 0, true, false⟩ (false, []) [] q hq [] (legal_nil Y)).mono ?_
  rintro _ rfl
  simp
  refine (Meets.nil0 (sz := 2) (by omega) (fromT_m hw hY A f 60 [] [] f.switches (⟨0, 0, true, false⟩, [], false, []) (by simp) (legal_nil Y) (by simp) (fun _ h => by cases h) hs ⟨hm.2, by simp, by simpa using hm.1, by simp, by simp⟩)).mono ?_
  rw [hR]
  rintro _ ⟨p, hp, rfl⟩
  simp [Prep.run]
  have hRok : Ct.Ok f R.1 := by rw [← hR]; exact goX_ok (fun p cut s h => leafT_ok h) 60 _ _ _ _ ⟨hm.2, by simp, by simpa using hm.1, by simp, by simp⟩
  have hRl : lenOkT R := by rw [← hR]; exact goXT_len (fun p cut s h => leafT_len h) 60 _ _ _ _ (by simp [lenOkT])
  have hRn : R.2.1.length ≤ 100000 := by
    have h1 := hRok.runs
    have h2 := hRok.most
    unfold lenOkT at hRl
    omega
  refine vc_loop (OutT fw R.2.2 (.ifc A.t 1000000) f R.1 R.2.1 (A.at_ (some p))) ⟨_, _, .mk R.2.1 [] none (by simp), [], _, rfl, by simp⟩ ?_
  rintro m σ ⟨lz, acc, cur, hpm⟩
  have hpl := hpm.length_eq
  rw [List.length_append] at hpl
  simp
  refine nextOk.of (fun h => ?_) (fun i e hi => ?_)
  · have hlz : lz = [] := by simpa [mapZ] using h
    subst hlz
    refine (sortA_m acc (by omega)).mono ?_
    rintro _ rfl
    simp
    have hac : acc.Perm R.2.1 := by simpa using hpm
    refine vcRet_of [] ?_ ⟨p, hp, rfl⟩
    have hsl : (sortB R.2.1).length = acc.length := by rw [sortB_len, hac.length_eq]
    simp [sortB_perm hac, sortB_len]
    exact ⟨by rw [hac.length_eq]; exact Nat.le_refl _, List.take_of_length_le (by rw [List.length_map, hsl]; exact Nat.le_refl _)⟩
  · obtain ⟨s, hs, rfl⟩ : ∃ s, lz[i]? = some s ∧ e = (.string s, .bool true) := by
      unfold mapZ at hi
      rw [List.getElem?_map] at hi
      obtain ⟨s, h1, h2⟩ := Option.map_eq_some_iff.1 hi
      exact ⟨s, h1, h2.symm⟩
    simp
    refine entryOk.of ?_
    simp
    have hil : i < lz.length := (List.getElem?_eq_some_iff.1 hs).1
    have hperm : (acc ++ [s] ++ lz.eraseIdx i).Perm R.2.1 := by
      refine List.Perm.trans ?_ hpm
      rw [List.append_assoc]
      refine List.Perm.append_left acc ?_
      have hx : lz[i] = s := by rw [List.getElem?_eq_getElem hil] at hs; exact Option.some.inj hs
      rw [← hx]
      exact eraseI_perm hil
    refine ⟨by omega, by kernel_rfl, _, ?_, _, .mk (lz.eraseIdx i) (acc ++ [s]) (some (.string s, .bool true)) hperm, [], _, rfl, by simp [mapZ, map_eraseI]⟩
    rw [List.length_eraseIdx_of_lt hil]; omega
end
end Go.Proofs.YtplooifpgmlofaaGreat
namespace Go.Proofs.YtplooifpgmlofaaGreat
open Go.RowKit

def foundT (Y : Sys) (want : ByteArray → Bool) (f : Cf) : FdT := goX (leafT Y f want) Y f 60 [] [] f.switches (⟨0, 0, true, false⟩, [], false, [])
inductive FindR {Y : Sys} (A : Plr Y) (want : ByteArray → Bool) (q : Option (List Int)) (most : Int) (tl : List MObj) : Res → Prop
  | yes (h : okRuns most) (p : List Int) (hp : legal Y p) (hf : (foundT Y want ⟨most, 60, false⟩).2.2.1 = true) : FindR A want q most tl ⟨.tup [.d (intD (foundT Y want ⟨most, 60, false⟩).2.2.2), .i 0], .sys (A.at_ (some p)) :: tl, []⟩
  | none (h : okRuns most) (p : List Int) (hp : legal Y p) (hf : (foundT Y want ⟨most, 60, false⟩).2.2.1 = false) : FindR A want q most tl ⟨.tup [.d (.v (.slice none 0 0)), .i 4], .sys (A.at_ (some p)) :: tl, []⟩
  | no (h : ¬ okRuns most) : FindR A want q most tl ⟨.tup [.d (.v (.slice none 0 0)), .i 7], .sys (A.at_ q) :: tl, []⟩
section
variable {want : ByteArray → Bool} {fw : Nat}
set_option maxHeartbeats 1000000 in
theorem findT_m (hw : ∀ s : ByteArray, Meets Tryz.prog fw [.d (.v (.string s))] [] (Ret (.b (want s)))) {Y : Sys} (hY : Fair Y) (A : Plr Y) (most : Int) (q : Option (List Int)) (hq : ∀ p, q = some p → legal Y p) :
    Meets Tryz.prog 16 [.ifc A.t 1000000, .clo fw [], .i most] [.sys (A.at_ q)] (FindR A want q most []) := by
  refine meets tbOk mixed Tryz.func16 pl16 rfl rfl ?_
  simp [Tryz.ntmps16]
  refine (ready_m A.t (A.at_ q) most).mono ?_
  rintro _ rfl
  by_cases hr : okRuns most
  · obtain ⟨R, hR⟩ : ∃ R, foundT Y want ⟨most, 60, false⟩ = R := ⟨_, rfl⟩
    have hR' : goX (leafT Y ⟨most, 60, false⟩ want) Y ⟨most, 60, false⟩ 60 [] [] 60 (⟨0, 0, true, false⟩, [], false, []) = R := hR
    simp [if_pos hr]
    have he := exploreT_m hw hY A ⟨most, 60, false⟩ (by unfold okRuns at hr; constructor <;> dsimp only <;> omega) (by dsimp only; omega) q hq
    dsimp only at he
    rw [hR'] at he
    simp only [tlP, PV.i, PV.b] at he
    refine he.mono ?_
    rintro _ ⟨p, hp, rfl⟩
    cases hf : R.2.2.1
    · simp
      refine vcRet_of [] ?_ (.none hr p hp (by rw [hR, hf]))
      simp
    · simp
      refine vcRet_of [] ?_ (.yes hr p hp (by rw [hR, hf]))
      simp [hR]
  · simp [if_neg hr]
    refine vcRet_of [] ?_ (.no hr)
    simp
end
end Go.Proofs.YtplooifpgmlofaaGreat
namespace Go.Proofs.YtplooifpgmlofaaGreat
open Go.RowKit

def digQ (n : Int) : ByteArray := if 0 ≤ n ∧ n ≤ 9 then strOfNums [48 + n] else digB n
theorem digQ_eq (n : Int) : digQ n = digB n := by
  unfold digQ
  split
  · rename_i h; rw [digB, digZ_small h.1 h.2]
  · rfl
def sumQ : Sys := { sumY with out := fun p => digQ (SS.at_ p).sum }
theorem sumQ_eq : sumQ = sumY := by
  unfold sumQ
  have : (fun p : List Int => digQ (SS.at_ p).sum) = fun p => digB (SS.at_ p).sum := funext fun p => digQ_eq _
  rw [this]; rfl
def n1 : ByteArray := ⟨#[49]⟩
def n2 : ByteArray := ⟨#[50]⟩
def n3 : ByteArray := ⟨#[51]⟩
set_option maxRecDepth 100000 in
theorem sum_all : found sumQ ⟨100, 60, false⟩ = (⟨6, 0, true, false⟩, [n3, n2, n1]) := by kernel_rfl
set_option maxRecDepth 100000 in
theorem sum_sleep : found sumQ ⟨100, 60, true⟩ = (⟨4, 0, true, false⟩, [n3, n2, n1]) := by kernel_rfl
set_option maxRecDepth 100000 in
theorem sum_find : (foundT sumQ (fun s => s.toList == n1.toList) ⟨100, 60, false⟩).2.2 = (true, [1, 2, 2, 1]) := by kernel_rfl
theorem sortB_id {l : List ByteArray} (h : (l.map fun s => s.data.toList).Pairwise fun x y => decide (x ≤ y) = true) : sortB l = l := by
  unfold sortB
  rw [List.mergeSort_of_pairwise h, List.map_map]
  have : ((fun b : List UInt8 => (⟨b.toArray⟩ : ByteArray)) ∘ fun s : ByteArray => s.data.toList) = id := by
    funext s
    rfl
  rw [this, List.map_id]
theorem sort321 : sortB [n3, n2, n1] = [n1, n2, n3] := by
  rw [sortB_perm (l' := [n1, n2, n3]) ((List.Perm.swap n2 n3 [n1]).trans ((List.Perm.cons n2 (List.Perm.swap n1 n3 [])).trans (List.Perm.swap n1 n2 [n3])))]
  refine sortB_id ?_
  decide
theorem sumR_all : foundR sumY ⟨100, 60, false⟩ = ⟨6, 0, [n1, n2, n3], true⟩ := by
  rw [← sumQ_eq]
  unfold foundR
  rw [sum_all]
  simp [sort321]
theorem sumR_sleep : foundR sumY ⟨100, 60, true⟩ = ⟨4, 0, [n1, n2, n3], true⟩ := by
  rw [← sumQ_eq]
  unfold foundR
  rw [sum_sleep]
  simp [sort321]

theorem strEq {a b : ByteArray} : (a.toList == b.toList) = decide (a = b) := by
  rw [Bool.eq_iff_iff]
  simp only [beq_iff_eq, decide_eq_true_eq]
  constructor
  · intro h
    apply ByteArray.ext
    have h1 : a.data.toList = b.data.toList := by
      rw [← ByteArray.toList_eq, ← ByteArray.toList_eq]; exact h
    exact Array.toList_inj.1 h1
  · rintro rfl; rfl
end Go.Proofs.YtplooifpgmlofaaGreat
