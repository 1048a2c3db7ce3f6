/- A player that keeps its runs. No condition. -/
import Derived.Test.YtplooifpgmlofaaGreatN4
import Derived.Test.YtplooifpgmlofaaGreatN14
import Derived.Test.YtplooifpgmlofaaGreatTabA
import Derived.Test.YtplooifpgmlofaaGreatN2
namespace Go.Proofs.YtplooifpgmlofaaGreat
open Go.RowKit

structure PlrK (Y : Sys) where
  t : Nat
  fS : Nat
  fE : Nat
  fT : Nat
  fF : Nat
  fD : Nat
  fO : Nat
  nS : methOf tbC t "Start" = some fS
  nE : methOf tbC t "Enabled" = some fE
  nT : methOf tbC t "Step" = some fT
  nF : methOf tbC t "Footprint" = some fF
  nD : methOf tbC t "Done" = some fD
  nO : methOf tbC t "Outcome" = some fO
  at_ : Option (List Int) → List (List Int) → Hid
  mS : ∀ q L, (∀ p, q = some p → legal Y p) → Meets Tryz.prog fS [.ptr 1000000 0] [.sys (at_ q L)] (fun r => r = ⟨unitV, [.sys (at_ (some []) L)], []⟩)
  mE : ∀ p L, legal Y p → Meets Tryz.prog fE [.ptr 1000000 0] [.sys (at_ (some p) L)] (fun r => r = ⟨.d (intD (Y.en p)), [.sys (at_ (some p) L)], []⟩)
  mT : ∀ p t L, legal Y p → t ∈ Y.en p → p.length < 60 → Meets Tryz.prog fT [.ptr 1000000 0, .i t] [.sys (at_ (some p) L)] (fun r => r = ⟨unitV, [.sys (at_ (some (p ++ [t])) L)], []⟩)
  mF : ∀ p t L, legal Y p → t ∈ Y.en p → Meets Tryz.prog fF [.ptr 1000000 0, .i t] [.sys (at_ (some p) L)] (fun r => r = ⟨.d (fpD (Y.foot p t)), [.sys (at_ (some p) L)], []⟩)
  mD : ∀ p L, legal Y p → Meets Tryz.prog fD [.ptr 1000000 0] [.sys (at_ (some p) L)] (fun r => r = ⟨.b (Y.done p), [.sys (at_ (some p) L)], []⟩)
  mO : ∀ p L, legal Y p → L.length < 100000 → Meets Tryz.prog fO [.ptr 1000000 0] [.sys (at_ (some p) L)] (fun r => r = ⟨.d (.v (.string (Y.out p))), [.sys (at_ (some p) (L ++ [p]))], []⟩)

theorem reachK_m {Y : Sys} (A : PlrK Y) (f : Cf) (c : Ct) (L : List (List Int)) (mp : List (Value × Value)) (q : Option (List Int)) (hq : ∀ p, q = some p → legal Y p) (p : List Int) (hp : legal Y p) :
    Meets Tryz.prog 48 [.ptr 1000000 0] [walkO f c (.d (.v .nilFunc)) A.t 1000001 (.rw 1000002 p.length) (.mp 1000003), .sys (A.at_ q L), rowO p, .map mp]
      (fun r => r = ⟨unitV, [walkO f c (.d (.v .nilFunc)) A.t 1000001 (.rw 1000002 p.length) (.mp 1000003), .sys (A.at_ (some p) L), rowO p, .map mp], []⟩) := by
  refine meets tbCOk mixed Tryz.func48 pl48 rfl rfl ?_
  simp [Tryz.ntmps48, A.nS]
  refine (A.mS q L hq).mono ?_
  rintro _ rfl
  simp
  have h60 := hp.1
  refine vc_loop (fun n σ => ∃ k : Nat, n = p.length - k ∧ k ≤ p.length ∧ σ = ⟨25, [(14, .i k), (13, .i p.length), (12, .rw 1000002 p.length), (0, .ptr 1000000 0)], extMem 1000000 [walkO f c (.d (.v .nilFunc)) A.t 1000001 (.rw 1000002 p.length) (.mp 1000003), .sys (A.at_ (some (p.take k)) L), rowO p, .map mp]⟩) ?_ ?_
  · exact ⟨_, _, ⟨0, rfl, Nat.zero_le _, rfl⟩, [], _, rfl, by simp [extMem]⟩
  · rintro n σ ⟨k, rfl, hk, rfl⟩
    by_cases hlt : k < p.length
    · obtain ⟨x, hx, e⟩ := at_lt hlt
      have htk : p.take (k + 1) = p.take k ++ [x] := by rw [List.take_add_one, hx]; rfl
      simp [hlt, e, extMem, A.nT]
      refine (A.mT (p.take k) x L (legal_take hp k) (legal_at hp hx) (by rw [List.length_take]; omega)).mono ?_
      rintro _ rfl
      simp [wrap_succ hlt (show p.length < 4294967296 by omega)]
      exact ⟨_, by omega, _, ⟨k + 1, rfl, hlt, rfl⟩, [], _, rfl, by simp [htk]⟩
    · obtain rfl : k = p.length := by omega
      simp [extMem]
      refine vcRet_of [] ?_ rfl
      simp
theorem lastK_m {Y : Sys} (A : PlrK Y) (f : Cf) (c : Ct) (mp : List (Value × Value)) (H : Hid) (p : List Int) (h60 : p.length ≤ 60) (en : List Int) (hen : en.length < 1000) :
    Meets Tryz.prog 46 [.ptr 1000000 0, .d (intD en)] [walkO f c (.d (.v .nilFunc)) A.t 1000001 (.rw 1000002 p.length) (.mp 1000003), .sys H, rowO p, .map mp]
      (fun r => r = ⟨.i (lastOf p en), [walkO f c (.d (.v .nilFunc)) A.t 1000001 (.rw 1000002 p.length) (.mp 1000003), .sys H, rowO p, .map mp], []⟩) := by
  refine meets tbCOk mixed Tryz.func46 pl46 rfl rfl ?_
  by_cases h0 : p = []
  · subst h0
    simp [Tryz.ntmps46]
    refine vcRet_of [] ?_ rfl
    simp [lastOf]
  · obtain ⟨p', t, rfl⟩ : ∃ p' t, p = p' ++ [t] := ⟨p.dropLast, p.getLast h0, (List.dropLast_concat_getLast h0).symm⟩
    simp at h60
    have hw : IntKind.i64.wrap (p'.length : Int) = p'.length := wrap_in (by omega)
    simp [Tryz.ntmps46, hw]
    refine ⟨by omega, (containsI_m en t (by omega)).mono ?_⟩
    rintro _ rfl
    by_cases ht : t ∈ en
    · simp [ht, hw]
      refine ⟨by omega, vcRet_of [] ?_ rfl⟩
      simp [lastOf, ht]
    · simp [ht]
      refine vcRet_of [] ?_ rfl
      simp [lastOf, ht]
abbrev FdK := FdB (List ByteArray × List (List Int))
def lfK (Y : Sys) (f : Cf) (p : List Int) (cut : Bool) (s : FdK) : FdK :=
  ((leafN Y f p cut s.1 s.2.1).1, (leafN Y f p cut s.1 s.2.1).2, if s.1.runs = f.most then s.2.2 else if cut then s.2.2 else s.2.2 ++ [p])
structure KOk (f : Cf) (s : FdK) : Prop where
  ct : Ct.Ok f s.1
  log : (s.2.2.length : Int) ≤ s.1.runs
theorem KOk.part {f : Cf} {s : FdK} (h : KOk f s) : KOk f ({ s.1 with full := false }, s.2) := ⟨⟨h.ct.most, h.ct.runs0, h.ct.runs, h.ct.stuck0, h.ct.stuck⟩, h.log⟩
theorem lfK_ok {Y : Sys} {p : List Int} {cut : Bool} {f : Cf} {s : FdK} (h : KOk f s) : KOk f (lfK Y f p cut s) := by
  have hl := h.log
  refine ⟨leafN_ok h.ct, ?_⟩
  unfold lfK leafN
  by_cases hr : s.1.runs = f.most
  · simp only [if_pos hr]; exact hl
  · cases cut
    · simp [if_neg hr]; omega
    · simp [if_neg hr]; omega
theorem leafK_m {Y : Sys} (A : PlrK Y) (f : Cf) (s : FdK) (hs : KOk f s) (p : List Int) (hp : legal Y p) (cut : Bool) :
    Meets Tryz.prog 45 [.ptr 1000000 0, .b cut] [walkO f s.1 (.d (.v .nilFunc)) A.t 1000001 (.rw 1000002 p.length) (.mp 1000003), .sys (A.at_ (some p) s.2.2), rowO p, .map (mapZ s.2.1)]
      (fun r => r = ⟨unitV, [walkO f (lfK Y f p cut s).1 (.d (.v .nilFunc)) A.t 1000001 (.rw 1000002 p.length) (.mp 1000003), .sys (A.at_ (some p) (lfK Y f p cut s).2.2), rowO p, .map (mapZ (lfK Y f p cut s).2.1)], []⟩) := by
  refine meetsH [] tbCOk mixed Tryz.func45 pl45 rfl rfl ?_
  obtain ⟨⟨h1, h2, h3, h4, h5⟩, h6⟩ := hs
  have hw1 : IntKind.i64.wrap (s.1.runs + 1) = s.1.runs + 1 := wrap_in (by omega)
  have hw2 : IntKind.i64.wrap (s.1.stuck + 1) = s.1.stuck + 1 := wrap_in (by omega)
  have hm := mPut_Z (Y.out p) s.2.1
  by_cases hr : s.1.runs = f.most
  · simp [Tryz.ntmps45, hr]
    refine ⟨by kernel_rfl, vcRet_of [] ?_ rfl⟩
    simp [lfK, leafN, hr]
  cases cut
  · simp [Tryz.ntmps45, hr, hw1, A.nD]
    refine ⟨by kernel_rfl, (A.mD p _ hp).mono ?_⟩
    rintro _ rfl
    cases hd : Y.done p
    · simp [hw2, A.nO]
      refine (A.mO p _ hp (by omega)).mono ?_
      rintro _ rfl
      set_option maxRecDepth 4000 in simp [hm]
      refine ⟨by kernel_rfl, vcRet_of [] ?_ rfl⟩
      simp [lfK, leafN, hr, hd]
    · simp [A.nO]
      refine (A.mO p _ hp (by omega)).mono ?_
      rintro _ rfl
      set_option maxRecDepth 4000 in simp [hm]
      refine ⟨by kernel_rfl, vcRet_of [] ?_ rfl⟩
      simp [lfK, leafN, hr, hd]
  · simp [Tryz.ntmps45, hr, hw1]
    refine ⟨by kernel_rfl, vcRet_of [] ?_ rfl⟩
    simp [lfK, leafN, hr]
end Go.Proofs.YtplooifpgmlofaaGreat
namespace Go.Proofs.YtplooifpgmlofaaGreat
open Go.RowKit

@[simp] def extNK {Y : Sys} (A : PlrK Y) (f : Cf) (s : FdK) (q : List Int) (row : MObj) (n : Nat) : List MObj :=
 [row, .map (mapZ s.2.1), .sys (A.at_ (some q) s.2.2), walkO f s.1 (.d (.v .nilFunc)) A.t 1000002 (.rw 1000000 n) (.mp 1000001), .box 83 [.ifc A.t 1000002], .box 117 [.ptr 1000003 0], planO f (.d (.v .nilFunc)), .box 121 [.clo 44 [.ptr 1000004 0, .ptr 1000005 0, .ptr 1000006 0, .ptr 1000007 0]]]
inductive FromIK {Y : Sys} (A : PlrK Y) (f : Cf) (G : List Int → List Stp → Int → FdK → FdK) (p : List Int) (left : Int) (T : FdK) : Nat → Sta → Prop
 | mk (i : Nat) (sl : List Stp) (s : FdK) (q : List Int) (st : Bool) (hi : i ≤ (Y.en p).length) (hT : loopX G Y f p (lastOf p (Y.en p)) left ((Y.en p).drop i) sl s = T) (hsl : sl.length ≤ 1000 * p.length + i) (hso : slOk sl) (hok : KOk f s) (hq : legal Y q) (hst : st = false → q = p) :
  FromIK A f G p left T ((Y.en p).length - i) ⟨130, [(42, .i i), (41, .i (Y.en p).length), (40, .d (intD (Y.en p))), (10, .b st), (9, .i (lastOf p (Y.en p))), (0, .d (stD sl)), (1, .i left), (2, .ptr 1000004 0), (3, .ptr 1000005 0), (4, .ptr 1000006 0), (5, .ptr 1000007 0)], (4000000, .row 0 1 [] false) :: extMem 1000000 (extNK A f s q (rowO p) p.length)⟩
inductive NextIK {Y : Sys} (A : PlrK Y) (f : Cf) (p : List Int) (sl : List Stp) (s : FdK) (left rest : Int) (i : Nat) (t : Int) : Nat → Sta → Prop
 | mk (k : Nat) (hk : k ≤ sl.length) :
  NextIK A f p sl s left rest i t (sl.length - k) ⟨130, [(74, .i k), (73, .i sl.length), (72, .d (stD sl)), (15, .rw 15 ((sl.take k).filter fun q => indy q.uses (Y.foot p t)).length), (14, .d (fpD (Y.foot p t))), (13, .i rest), (12, .ptr 12 0), (42, .i i), (41, .i (Y.en p).length), (40, .d (intD (Y.en p))), (9, .i (lastOf p (Y.en p))), (0, .d (stD sl)), (1, .i left), (2, .ptr 1000004 0), (3, .ptr 1000005 0), (4, .ptr 1000006 0), (5, .ptr 1000007 0)],
   (15, .row 104 2 (((sl.take k).filter fun q => indy q.uses (Y.foot p t)).map Stp.ds) false) :: (12, .box 3 [.i t]) :: (4000000, .row 0 1 [] false) :: extMem 1000000 (extNK A f s p (rowO p) p.length)⟩
set_option maxHeartbeats 8000000 in
theorem fromK_m {Y : Sys} (hY : Fair Y) (A : PlrK Y) (f : Cf) : ∀ (n : Nat) (p : List Int) (sl : List Stp) (left : Int) (s : FdK), p.length + n = 60 → legal Y p → sl.length ≤ 1000 * p.length → slOk sl → (0 ≤ left ∧ left ≤ 60) → KOk f s →
  Meets Tryz.prog 44 [.d (stD sl), .i left, .ptr 1000004 0, .ptr 1000005 0, .ptr 1000006 0, .ptr 1000007 0] (extNK A f s p (rowO p) p.length)
   (fun r => ∃ q, legal Y q ∧ r = ⟨unitV, extNK A f (goX (lfK Y f) Y f n p sl left s) q (.grown 3 1 (p.map intC)) p.length, []⟩) := by
 intro n
 induction n with
 | zero =>
  intro p sl left s hn hp hsl hso hleft hok
  have hfew := hY.few p
  have hpl : p.length = 60 := by omega
  refine meetsH [] tbCOk mixed Tryz.func44 pl44 rfl rfl ?_
  simp [Tryz.ntmps44, A.nE]
  refine (A.mE p _ hp).mono ?_
  rintro _ rfl
  simp
  refine (cloneI_m (Y.en p) (by omega)).mono ?_
  rintro _ rfl
  by_cases he : Y.en p = []
  ·simp [he]
   refine (leafK_m A f s hok p hp false).mono ?_
   rintro _ rfl
   simp
   refine vcRet_of [] ?_ ⟨p, hp, rfl⟩
   simp [goX, he]
  ·have hpos : 0 < (Y.en p).length := List.length_pos_iff.2 he
   have hq : ((p.length : Int) = 60) = True := eq_true (by omega)
   simp [he, hq, hpos]
   refine (leafK_m A f s hok p hp true).mono ?_
   rintro _ rfl
   simp
   refine vcRet_of [] ?_ ⟨p, hp, rfl⟩
   simp [goX, hpos]
 | succ n ih =>
  intro p sl left s hn hp hsl hso hleft hok
  have hfew := hY.few p
  refine meetsH [] tbCOk mixed Tryz.func44 pl44 rfl rfl ?_
  simp [Tryz.ntmps44, A.nE]
  refine (A.mE p _ hp).mono ?_
  rintro _ rfl
  simp
  refine (cloneI_m (Y.en p) (by omega)).mono ?_
  rintro _ rfl
  by_cases he : Y.en p = []
  ·simp [he]
   refine (leafK_m A f s hok p hp false).mono ?_
   rintro _ rfl
   simp
   refine vcRet_of [] ?_ ⟨p, hp, rfl⟩
   simp [goX, he]
  ·have hpl : ¬ (p.length : Int) = 60 := by omega
   simp [he, hpl]
   refine (lastK_m A f s.1 _ _ p (by omega) (Y.en p) hfew).mono ?_
   rintro _ rfl
   simp
   have hG : goX (lfK Y f) Y f (n + 1) p sl left s = loopX (goX (lfK Y f) Y f n) Y f p (lastOf p (Y.en p)) left (Y.en p) sl s := by simp [goX, he]
   rw [hG]
   obtain ⟨T, hT⟩ : ∃ T, loopX (goX (lfK Y f) Y f n) Y f p (lastOf p (Y.en p)) left (Y.en p) sl s = T := ⟨_, rfl⟩
   rw [hT]
   clear hG
   have hlen : (Y.en p).length < 4294967296 := by omega
   have hpn : p.length < 60 := by omega
   have hwl : IntKind.i64.wrap (left - 1) = left - 1 := wrap_in (by omega)
   refine vc_loop (FromIK A f (goX (lfK Y f) Y f n) p left T) ?_ ?_
   ·exact ⟨_, _, .mk 0 sl s p false (Nat.zero_le _) hT (by omega) hso hok hp (fun _ => rfl), [.mark 1000000], _, rfl, by simp [extMem]⟩
   ·rintro m σ ⟨i, sl', s', q, st, hi, hT', hsl', hso', hok', hq, hst⟩
    by_cases hlt : i < (Y.en p).length
    ·obtain ⟨t, ht, e⟩ := at_lt hlt
     have htm : t ∈ Y.en p := List.mem_of_getElem? ht
     have hdrop : (Y.en p).drop i = t :: (Y.en p).drop (i + 1) := by rw [List.drop_eq_getElem_cons hlt, e]
     rw [hdrop, loopX] at hT'
     simp [hlt, e, extMem]
     refine (containsS_m f t sl' (by omega)).mono ?_
     rintro _ rfl
     cases hs : (sl'.any fun s => f.sleeps && s.task == t)
     ·rw [if_neg (by rw [hs]; exact Bool.false_ne_true)] at hT'
      by_cases hL : 0 < lastOf p (Y.en p)
      ·by_cases hLt : lastOf p (Y.en p) = t
       ·have hcond : ¬ (0 < lastOf p (Y.en p) ∧ lastOf p (Y.en p) ≠ t) := fun h => h.2 hLt
        have hl0 : ¬ left < 0 := by omega
        have hLq : (lastOf p (Y.en p) = t) = True := eq_true hLt
        simp only [if_neg hcond, if_neg hl0] at hT'
        simp [hL, hLq, hl0]
        cases st
        ·have hqp : p = q := (hst rfl).symm
         subst hqp
         simp [A.nF]
         refine (A.mF p t _ hp htm).mono ?_
         rintro _ rfl
         simp
         have huses := hY.uses p t
         refine (cloneA_m (Y.foot p t) (by omega)).mono ?_
         rintro _ rfl
         simp
         refine vc_loop (NextIK A f p sl' s' left left i t) ⟨_, _, .mk 0 (Nat.zero_le _), [.row 15 104 2], _, rfl, by simp [extMem]⟩ ?_
         rintro m σ ⟨k, hk⟩
         by_cases hk2 : k < sl'.length
         ·obtain ⟨y, hy, ey⟩ := at_lt hk2
          have hyu := hso' y (List.mem_of_getElem? hy)
          have hyl : sl'.length < 4294967296 := by omega
          have htk : sl'.take (k + 1) = sl'.take k ++ [y] := by rw [List.take_add_one, hy]; rfl
          simp [hk2, ey, extMem]
          refine (indep_m y.uses (Y.foot p t) (by omega) (by omega)).mono ?_
          rintro _ rfl
          cases hyi : indy y.uses (Y.foot p t)
          ·simp [wrap_succ hk2 hyl]
           exact ⟨_, by omega, _, .mk (k + 1) hk2, [], _, rfl, by simp [extMem, htk, hyi, List.filter_append]⟩
          ·simp [wrap_succ hk2 hyl]
           have hfl := List.length_filter_le (fun q : Stp => indy q.uses (Y.foot p t)) (sl'.take k)
           rw [List.length_take] at hfl
           exact ⟨by omega, _, by omega, _, .mk (k + 1) hk2, [], _, rfl, by simp [extMem, htk, hyi, List.filter_append]⟩
         ·obtain rfl : k = sl'.length := by omega
          simp [extMem, A.nT]
          refine (A.mT p t _ hp htm hpn).mono ?_
          rintro _ rfl
          simp
          refine ⟨by omega, by kernel_rfl, ?_⟩
          rw [List.take_of_length_le (by simp)]
          have hfl := List.length_filter_le (fun q : Stp => indy q.uses (Y.foot p t)) sl'
          have hrec := ih (p ++ [t]) (sl'.filter fun q => indy q.uses (Y.foot p t)) left s' (by simp; omega) (legal_snoc hp htm hpn) (by simp; omega) (fun y hy => hso' y (List.mem_filter.1 hy).1) (by omega) hok'
          simp only [extNK, rowO, List.map_append, List.map_cons, List.map_nil, List.length_append, List.length_cons, List.length_nil, Nat.zero_add] at hrec
          obtain ⟨S, hS⟩ : ∃ S, goX (lfK Y f) Y f n (p ++ [t]) (sl'.filter fun q => indy q.uses (Y.foot p t)) left s' = S := ⟨_, rfl⟩
          have hSok : KOk f S := by rw [← hS]; exact goX_inv (fun _ h => h.part) (fun p cut s h => lfK_ok h) n _ _ _ _ hok'
          rw [hS] at hrec hT'
          refine hrec.mono ?_
          rintro _ ⟨q', hq', rfl⟩
          have hw1 : IntKind.i64.wrap (p.length : Int) = p.length := wrap_in (by omega)
          cases hen : S.1.enough
          ·rw [if_neg (by rw [hen]; exact Bool.false_ne_true)] at hT'
           set_option maxRecDepth 8000 in simp [hw1, hen]
           refine ⟨by omega, by kernel_rfl, effCall (clip_m sl') ?_⟩
           simp [wrap_succ hlt hlen]
           refine ⟨by omega, by kernel_rfl, _, by omega, _, .mk (i + 1) (sl' ++ [⟨t, Y.foot p t⟩]) S q' true hlt hT' (by simp; omega) (fun y hy => ?_) hSok hq' (fun h => by cases h), [.trim 1000000 p.length], _, by simp [Prep.all, Prep.run]; rfl, by simp [extMem, hen]⟩
           rcases List.mem_append.1 hy with hy | hy
           ·exact hso' y hy
           ·rw [List.mem_singleton] at hy
            subst hy; exact huses
          ·rw [if_pos hen] at hT'
           subst hT'
           set_option maxRecDepth 8000 in simp [hw1, hen]
           refine ⟨by omega, by kernel_rfl, vcRet_prep [.trim 1000000 p.length] [] (by simp [Prep.all, Prep.run]; rfl) ?_ ⟨q', hq', rfl⟩⟩
           simp
        ·simp
         refine (reachK_m A f s'.1 s'.2.2 (mapZ s'.2.1) (some q) (fun p h => by cases h; exact hq) p hp).mono ?_
         rintro _ rfl
         simp [A.nF]
         refine (A.mF p t _ hp htm).mono ?_
         rintro _ rfl
         simp
         have huses := hY.uses p t
         refine (cloneA_m (Y.foot p t) (by omega)).mono ?_
         rintro _ rfl
         simp
         refine vc_loop (NextIK A f p sl' s' left left i t) ⟨_, _, .mk 0 (Nat.zero_le _), [.row 15 104 2], _, rfl, by simp [extMem]⟩ ?_
         rintro m σ ⟨k, hk⟩
         by_cases hk2 : k < sl'.length
         ·obtain ⟨y, hy, ey⟩ := at_lt hk2
          have hyu := hso' y (List.mem_of_getElem? hy)
          have hyl : sl'.length < 4294967296 := by omega
          have htk : sl'.take (k + 1) = sl'.take k ++ [y] := by rw [List.take_add_one, hy]; rfl
          simp [hk2, ey, extMem]
          refine (indep_m y.uses (Y.foot p t) (by omega) (by omega)).mono ?_
          rintro _ rfl
          cases hyi : indy y.uses (Y.foot p t)
          ·simp [wrap_succ hk2 hyl]
           exact ⟨_, by omega, _, .mk (k + 1) hk2, [], _, rfl, by simp [extMem, htk, hyi, List.filter_append]⟩
          ·simp [wrap_succ hk2 hyl]
           have hfl := List.length_filter_le (fun q : Stp => indy q.uses (Y.foot p t)) (sl'.take k)
           rw [List.length_take] at hfl
           exact ⟨by omega, _, by omega, _, .mk (k + 1) hk2, [], _, rfl, by simp [extMem, htk, hyi, List.filter_append]⟩
         ·obtain rfl : k = sl'.length := by omega
          simp [extMem, A.nT]
          refine (A.mT p t _ hp htm hpn).mono ?_
          rintro _ rfl
          simp
          refine ⟨by omega, by kernel_rfl, ?_⟩
          rw [List.take_of_length_le (by simp)]
          have hfl := List.length_filter_le (fun q : Stp => indy q.uses (Y.foot p t)) sl'
          have hrec := ih (p ++ [t]) (sl'.filter fun q => indy q.uses (Y.foot p t)) left s' (by simp; omega) (legal_snoc hp htm hpn) (by simp; omega) (fun y hy => hso' y (List.mem_filter.1 hy).1) (by omega) hok'
          simp only [extNK, rowO, List.map_append, List.map_cons, List.map_nil, List.length_append, List.length_cons, List.length_nil, Nat.zero_add] at hrec
          obtain ⟨S, hS⟩ : ∃ S, goX (lfK Y f) Y f n (p ++ [t]) (sl'.filter fun q => indy q.uses (Y.foot p t)) left s' = S := ⟨_, rfl⟩
          have hSok : KOk f S := by rw [← hS]; exact goX_inv (fun _ h => h.part) (fun p cut s h => lfK_ok h) n _ _ _ _ hok'
          rw [hS] at hrec hT'
          refine hrec.mono ?_
          rintro _ ⟨q', hq', rfl⟩
          have hw1 : IntKind.i64.wrap (p.length : Int) = p.length := wrap_in (by omega)
          cases hen : S.1.enough
          ·rw [if_neg (by rw [hen]; exact Bool.false_ne_true)] at hT'
           set_option maxRecDepth 8000 in simp [hw1, hen]
           refine ⟨by omega, by kernel_rfl, effCall (clip_m sl') ?_⟩
           simp [wrap_succ hlt hlen]
           refine ⟨by omega, by kernel_rfl, _, by omega, _, .mk (i + 1) (sl' ++ [⟨t, Y.foot p t⟩]) S q' true hlt hT' (by simp; omega) (fun y hy => ?_) hSok hq' (fun h => by cases h), [.trim 1000000 p.length], _, by simp [Prep.all, Prep.run]; rfl, by simp [extMem, hen]⟩
           rcases List.mem_append.1 hy with hy | hy
           ·exact hso' y hy
           ·rw [List.mem_singleton] at hy
            subst hy; exact huses
          ·rw [if_pos hen] at hT'
           subst hT'
           set_option maxRecDepth 8000 in simp [hw1, hen]
           refine ⟨by omega, by kernel_rfl, vcRet_prep [.trim 1000000 p.length] [] (by simp [Prep.all, Prep.run]; rfl) ?_ ⟨q', hq', rfl⟩⟩
           simp
       ·have hcond : 0 < lastOf p (Y.en p) ∧ lastOf p (Y.en p) ≠ t := ⟨hL, hLt⟩
        by_cases hl1 : left - 1 < 0
        ·simp only [if_pos hcond, if_pos hl1] at hT'
         simp [hL, hLt, hl1, hwl, wrap_succ hlt hlen]
         exact ⟨_, by omega, _, .mk (i + 1) sl' ({ s'.1 with full := false }, s'.2) q st hlt hT' (by omega) hso' hok'.part hq hst, [], _, rfl, by simp [extMem]⟩
        ·simp only [if_pos hcond, if_neg hl1] at hT'
         simp [hL, hLt, hl1, hwl]
         cases st
         ·have hqp : p = q := (hst rfl).symm
          subst hqp
          simp [A.nF]
          refine (A.mF p t _ hp htm).mono ?_
          rintro _ rfl
          simp
          have huses := hY.uses p t
          refine (cloneA_m (Y.foot p t) (by omega)).mono ?_
          rintro _ rfl
          simp
          refine vc_loop (NextIK A f p sl' s' left (left - 1) i t) ⟨_, _, .mk 0 (Nat.zero_le _), [.row 15 104 2], _, rfl, by simp [extMem]⟩ ?_
          rintro m σ ⟨k, hk⟩
          by_cases hk2 : k < sl'.length
          ·obtain ⟨y, hy, ey⟩ := at_lt hk2
           have hyu := hso' y (List.mem_of_getElem? hy)
           have hyl : sl'.length < 4294967296 := by omega
           have htk : sl'.take (k + 1) = sl'.take k ++ [y] := by rw [List.take_add_one, hy]; rfl
           simp [hk2, ey, extMem]
           refine (indep_m y.uses (Y.foot p t) (by omega) (by omega)).mono ?_
           rintro _ rfl
           cases hyi : indy y.uses (Y.foot p t)
           ·simp [wrap_succ hk2 hyl]
            exact ⟨_, by omega, _, .mk (k + 1) hk2, [], _, rfl, by simp [extMem, htk, hyi, List.filter_append]⟩
           ·simp [wrap_succ hk2 hyl]
            have hfl := List.length_filter_le (fun q : Stp => indy q.uses (Y.foot p t)) (sl'.take k)
            rw [List.length_take] at hfl
            exact ⟨by omega, _, by omega, _, .mk (k + 1) hk2, [], _, rfl, by simp [extMem, htk, hyi, List.filter_append]⟩
          ·obtain rfl : k = sl'.length := by omega
           simp [extMem, A.nT]
           refine (A.mT p t _ hp htm hpn).mono ?_
           rintro _ rfl
           simp
           refine ⟨by omega, by kernel_rfl, ?_⟩
           rw [List.take_of_length_le (by simp)]
           have hfl := List.length_filter_le (fun q : Stp => indy q.uses (Y.foot p t)) sl'
           have hrec := ih (p ++ [t]) (sl'.filter fun q => indy q.uses (Y.foot p t)) (left - 1) s' (by simp; omega) (legal_snoc hp htm hpn) (by simp; omega) (fun y hy => hso' y (List.mem_filter.1 hy).1) (by omega) hok'
           simp only [extNK, rowO, List.map_append, List.map_cons, List.map_nil, List.length_append, List.length_cons, List.length_nil, Nat.zero_add] at hrec
           obtain ⟨S, hS⟩ : ∃ S, goX (lfK Y f) Y f n (p ++ [t]) (sl'.filter fun q => indy q.uses (Y.foot p t)) (left - 1) s' = S := ⟨_, rfl⟩
           have hSok : KOk f S := by rw [← hS]; exact goX_inv (fun _ h => h.part) (fun p cut s h => lfK_ok h) n _ _ _ _ hok'
           rw [hS] at hrec hT'
           refine hrec.mono ?_
           rintro _ ⟨q', hq', rfl⟩
           have hw1 : IntKind.i64.wrap (p.length : Int) = p.length := wrap_in (by omega)
           cases hen : S.1.enough
           ·rw [if_neg (by rw [hen]; exact Bool.false_ne_true)] at hT'
            set_option maxRecDepth 8000 in simp [hw1, hen]
            refine ⟨by omega, by kernel_rfl, effCall (clip_m sl') ?_⟩
            simp [wrap_succ hlt hlen]
            refine ⟨by omega, by kernel_rfl, _, by omega, _, .mk (i + 1) (sl' ++ [⟨t, Y.foot p t⟩]) S q' true hlt hT' (by simp; omega) (fun y hy => ?_) hSok hq' (fun h => by cases h), [.trim 1000000 p.length], _, by simp [Prep.all, Prep.run]; rfl, by simp [extMem, hen]⟩
            rcases List.mem_append.1 hy with hy | hy
            ·exact hso' y hy
            ·rw [List.mem_singleton] at hy
             subst hy; exact huses
           ·rw [if_pos hen] at hT'
            subst hT'
            set_option maxRecDepth 8000 in simp [hw1, hen]
            refine ⟨by omega, by kernel_rfl, vcRet_prep [.trim 1000000 p.length] [] (by simp [Prep.all, Prep.run]; rfl) ?_ ⟨q', hq', rfl⟩⟩
            simp
         ·simp
          refine (reachK_m A f s'.1 s'.2.2 (mapZ s'.2.1) (some q) (fun p h => by cases h; exact hq) p hp).mono ?_
          rintro _ rfl
          simp [A.nF]
          refine (A.mF p t _ hp htm).mono ?_
          rintro _ rfl
          simp
          have huses := hY.uses p t
          refine (cloneA_m (Y.foot p t) (by omega)).mono ?_
          rintro _ rfl
          simp
          refine vc_loop (NextIK A f p sl' s' left (left - 1) i t) ⟨_, _, .mk 0 (Nat.zero_le _), [.row 15 104 2], _, rfl, by simp [extMem]⟩ ?_
          rintro m σ ⟨k, hk⟩
          by_cases hk2 : k < sl'.length
          ·obtain ⟨y, hy, ey⟩ := at_lt hk2
           have hyu := hso' y (List.mem_of_getElem? hy)
           have hyl : sl'.length < 4294967296 := by omega
           have htk : sl'.take (k + 1) = sl'.take k ++ [y] := by rw [List.take_add_one, hy]; rfl
           simp [hk2, ey, extMem]
           refine (indep_m y.uses (Y.foot p t) (by omega) (by omega)).mono ?_
           rintro _ rfl
           cases hyi : indy y.uses (Y.foot p t)
           ·simp [wrap_succ hk2 hyl]
            exact ⟨_, by omega, _, .mk (k + 1) hk2, [], _, rfl, by simp [extMem, htk, hyi, List.filter_append]⟩
           ·simp [wrap_succ hk2 hyl]
            have hfl := List.length_filter_le (fun q : Stp => indy q.uses (Y.foot p t)) (sl'.take k)
            rw [List.length_take] at hfl
            exact ⟨by omega, _, by omega, _, .mk (k + 1) hk2, [], _, rfl, by simp [extMem, htk, hyi, List.filter_append]⟩
          ·obtain rfl : k = sl'.length := by omega
           simp [extMem, A.nT]
           refine (A.mT p t _ hp htm hpn).mono ?_
           rintro _ rfl
           simp
           refine ⟨by omega, by kernel_rfl, ?_⟩
           rw [List.take_of_length_le (by simp)]
           have hfl := List.length_filter_le (fun q : Stp => indy q.uses (Y.foot p t)) sl'
           have hrec := ih (p ++ [t]) (sl'.filter fun q => indy q.uses (Y.foot p t)) (left - 1) s' (by simp; omega) (legal_snoc hp htm hpn) (by simp; omega) (fun y hy => hso' y (List.mem_filter.1 hy).1) (by omega) hok'
           simp only [extNK, rowO, List.map_append, List.map_cons, List.map_nil, List.length_append, List.length_cons, List.length_nil, Nat.zero_add] at hrec
           obtain ⟨S, hS⟩ : ∃ S, goX (lfK Y f) Y f n (p ++ [t]) (sl'.filter fun q => indy q.uses (Y.foot p t)) (left - 1) s' = S := ⟨_, rfl⟩
           have hSok : KOk f S := by rw [← hS]; exact goX_inv (fun _ h => h.part) (fun p cut s h => lfK_ok h) n _ _ _ _ hok'
           rw [hS] at hrec hT'
           refine hrec.mono ?_
           rintro _ ⟨q', hq', rfl⟩
           have hw1 : IntKind.i64.wrap (p.length : Int) = p.length := wrap_in (by omega)
           cases hen : S.1.enough
           ·rw [if_neg (by rw [hen]; exact Bool.false_ne_true)] at hT'
            set_option maxRecDepth 8000 in simp [hw1, hen]
            refine ⟨by omega, by kernel_rfl, effCall (clip_m sl') ?_⟩
            simp [wrap_succ hlt hlen]
            refine ⟨by omega, by kernel_rfl, _, by omega, _, .mk (i + 1) (sl' ++ [⟨t, Y.foot p t⟩]) S q' true hlt hT' (by simp; omega) (fun y hy => ?_) hSok hq' (fun h => by cases h), [.trim 1000000 p.length], _, by simp [Prep.all, Prep.run]; rfl, by simp [extMem, hen]⟩
            rcases List.mem_append.1 hy with hy | hy
            ·exact hso' y hy
            ·rw [List.mem_singleton] at hy
             subst hy; exact huses
           ·rw [if_pos hen] at hT'
            subst hT'
            set_option maxRecDepth 8000 in simp [hw1, hen]
            refine ⟨by omega, by kernel_rfl, vcRet_prep [.trim 1000000 p.length] [] (by simp [Prep.all, Prep.run]; rfl) ?_ ⟨q', hq', rfl⟩⟩
            simp
      ·have hcond : ¬ (0 < lastOf p (Y.en p) ∧ lastOf p (Y.en p) ≠ t) := fun h => hL h.1
       have hl0 : ¬ left < 0 := by omega
       simp only [if_neg hcond, if_neg hl0] at hT'
       simp [hL, hl0]
       cases st
       ·have hqp : p = q := (hst rfl).symm
        subst hqp
        simp [A.nF]
        refine (A.mF p t _ hp htm).mono ?_
        rintro _ rfl
        simp
        have huses := hY.uses p t
        refine (cloneA_m (Y.foot p t) (by omega)).mono ?_
        rintro _ rfl
        simp
        refine vc_loop (NextIK A f p sl' s' left left i t) ⟨_, _, .mk 0 (Nat.zero_le _), [.row 15 104 2], _, rfl, by simp [extMem]⟩ ?_
        rintro m σ ⟨k, hk⟩
        by_cases hk2 : k < sl'.length
        ·obtain ⟨y, hy, ey⟩ := at_lt hk2
         have hyu := hso' y (List.mem_of_getElem? hy)
         have hyl : sl'.length < 4294967296 := by omega
         have htk : sl'.take (k + 1) = sl'.take k ++ [y] := by rw [List.take_add_one, hy]; rfl
         simp [hk2, ey, extMem]
         refine (indep_m y.uses (Y.foot p t) (by omega) (by omega)).mono ?_
         rintro _ rfl
         cases hyi : indy y.uses (Y.foot p t)
         ·simp [wrap_succ hk2 hyl]
          exact ⟨_, by omega, _, .mk (k + 1) hk2, [], _, rfl, by simp [extMem, htk, hyi, List.filter_append]⟩
         ·simp [wrap_succ hk2 hyl]
          have hfl := List.length_filter_le (fun q : Stp => indy q.uses (Y.foot p t)) (sl'.take k)
          rw [List.length_take] at hfl
          exact ⟨by omega, _, by omega, _, .mk (k + 1) hk2, [], _, rfl, by simp [extMem, htk, hyi, List.filter_append]⟩
        ·obtain rfl : k = sl'.length := by omega
         simp [extMem, A.nT]
         refine (A.mT p t _ hp htm hpn).mono ?_
         rintro _ rfl
         simp
         refine ⟨by omega, by kernel_rfl, ?_⟩
         rw [List.take_of_length_le (by simp)]
         have hfl := List.length_filter_le (fun q : Stp => indy q.uses (Y.foot p t)) sl'
         have hrec := ih (p ++ [t]) (sl'.filter fun q => indy q.uses (Y.foot p t)) left s' (by simp; omega) (legal_snoc hp htm hpn) (by simp; omega) (fun y hy => hso' y (List.mem_filter.1 hy).1) (by omega) hok'
         simp only [extNK, rowO, List.map_append, List.map_cons, List.map_nil, List.length_append, List.length_cons, List.length_nil, Nat.zero_add] at hrec
         obtain ⟨S, hS⟩ : ∃ S, goX (lfK Y f) Y f n (p ++ [t]) (sl'.filter fun q => indy q.uses (Y.foot p t)) left s' = S := ⟨_, rfl⟩
         have hSok : KOk f S := by rw [← hS]; exact goX_inv (fun _ h => h.part) (fun p cut s h => lfK_ok h) n _ _ _ _ hok'
         rw [hS] at hrec hT'
         refine hrec.mono ?_
         rintro _ ⟨q', hq', rfl⟩
         have hw1 : IntKind.i64.wrap (p.length : Int) = p.length := wrap_in (by omega)
         cases hen : S.1.enough
         ·rw [if_neg (by rw [hen]; exact Bool.false_ne_true)] at hT'
          set_option maxRecDepth 8000 in simp [hw1, hen]
          refine ⟨by omega, by kernel_rfl, effCall (clip_m sl') ?_⟩
          simp [wrap_succ hlt hlen]
          refine ⟨by omega, by kernel_rfl, _, by omega, _, .mk (i + 1) (sl' ++ [⟨t, Y.foot p t⟩]) S q' true hlt hT' (by simp; omega) (fun y hy => ?_) hSok hq' (fun h => by cases h), [.trim 1000000 p.length], _, by simp [Prep.all, Prep.run]; rfl, by simp [extMem, hen]⟩
          rcases List.mem_append.1 hy with hy | hy
          ·exact hso' y hy
          ·rw [List.mem_singleton] at hy
           subst hy; exact huses
         ·rw [if_pos hen] at hT'
          subst hT'
          set_option maxRecDepth 8000 in simp [hw1, hen]
          refine ⟨by omega, by kernel_rfl, vcRet_prep [.trim 1000000 p.length] [] (by simp [Prep.all, Prep.run]; rfl) ?_ ⟨q', hq', rfl⟩⟩
          simp
       ·simp
        refine (reachK_m A f s'.1 s'.2.2 (mapZ s'.2.1) (some q) (fun p h => by cases h; exact hq) p hp).mono ?_
        rintro _ rfl
        simp [A.nF]
        refine (A.mF p t _ hp htm).mono ?_
        rintro _ rfl
        simp
        have huses := hY.uses p t
        refine (cloneA_m (Y.foot p t) (by omega)).mono ?_
        rintro _ rfl
        simp
        refine vc_loop (NextIK A f p sl' s' left left i t) ⟨_, _, .mk 0 (Nat.zero_le _), [.row 15 104 2], _, rfl, by simp [extMem]⟩ ?_
        rintro m σ ⟨k, hk⟩
        by_cases hk2 : k < sl'.length
        ·obtain ⟨y, hy, ey⟩ := at_lt hk2
         have hyu := hso' y (List.mem_of_getElem? hy)
         have hyl : sl'.length < 4294967296 := by omega
         have htk : sl'.take (k + 1) = sl'.take k ++ [y] := by rw [List.take_add_one, hy]; rfl
         simp [hk2, ey, extMem]
         refine (indep_m y.uses (Y.foot p t) (by omega) (by omega)).mono ?_
         rintro _ rfl
         cases hyi : indy y.uses (Y.foot p t)
         ·simp [wrap_succ hk2 hyl]
          exact ⟨_, by omega, _, .mk (k + 1) hk2, [], _, rfl, by simp [extMem, htk, hyi, List.filter_append]⟩
         ·simp [wrap_succ hk2 hyl]
          have hfl := List.length_filter_le (fun q : Stp => indy q.uses (Y.foot p t)) (sl'.take k)
          rw [List.length_take] at hfl
          exact ⟨by omega, _, by omega, _, .mk (k + 1) hk2, [], _, rfl, by simp [extMem, htk, hyi, List.filter_append]⟩
        ·obtain rfl : k = sl'.length := by omega
         simp [extMem, A.nT]
         refine (A.mT p t _ hp htm hpn).mono ?_
         rintro _ rfl
         simp
         refine ⟨by omega, by kernel_rfl, ?_⟩
         rw [List.take_of_length_le (by simp)]
         have hfl := List.length_filter_le (fun q : Stp => indy q.uses (Y.foot p t)) sl'
         have hrec := ih (p ++ [t]) (sl'.filter fun q => indy q.uses (Y.foot p t)) left s' (by simp; omega) (legal_snoc hp htm hpn) (by simp; omega) (fun y hy => hso' y (List.mem_filter.1 hy).1) (by omega) hok'
         simp only [extNK, rowO, List.map_append, List.map_cons, List.map_nil, List.length_append, List.length_cons, List.length_nil, Nat.zero_add] at hrec
         obtain ⟨S, hS⟩ : ∃ S, goX (lfK Y f) Y f n (p ++ [t]) (sl'.filter fun q => indy q.uses (Y.foot p t)) left s' = S := ⟨_, rfl⟩
         have hSok : KOk f S := by rw [← hS]; exact goX_inv (fun _ h => h.part) (fun p cut s h => lfK_ok h) n _ _ _ _ hok'
         rw [hS] at hrec hT'
         refine hrec.mono ?_
         rintro _ ⟨q', hq', rfl⟩
         have hw1 : IntKind.i64.wrap (p.length : Int) = p.length := wrap_in (by omega)
         cases hen : S.1.enough
         ·rw [if_neg (by rw [hen]; exact Bool.false_ne_true)] at hT'
          set_option maxRecDepth 8000 in simp [hw1, hen]
          refine ⟨by omega, by kernel_rfl, effCall (clip_m sl') ?_⟩
          simp [wrap_succ hlt hlen]
          refine ⟨by omega, by kernel_rfl, _, by omega, _, .mk (i + 1) (sl' ++ [⟨t, Y.foot p t⟩]) S q' true hlt hT' (by simp; omega) (fun y hy => ?_) hSok hq' (fun h => by cases h), [.trim 1000000 p.length], _, by simp [Prep.all, Prep.run]; rfl, by simp [extMem, hen]⟩
          rcases List.mem_append.1 hy with hy | hy
          ·exact hso' y hy
          ·rw [List.mem_singleton] at hy
           subst hy; exact huses
         ·rw [if_pos hen] at hT'
          subst hT'
          set_option maxRecDepth 8000 in simp [hw1, hen]
          refine ⟨by omega, by kernel_rfl, vcRet_prep [.trim 1000000 p.length] [] (by simp [Prep.all, Prep.run]; rfl) ?_ ⟨q', hq', rfl⟩⟩
          simp
     ·rw [if_pos hs] at hT'
      simp [wrap_succ hlt hlen]
      exact ⟨_, by omega, _, .mk (i + 1) sl' s' q st hlt hT' (by omega) hso' hok' hq hst, [], _, rfl, by simp [extMem]⟩
    ·obtain rfl : i = (Y.en p).length := by omega
     rw [List.drop_length, loopX] at hT'
     simp [extMem]
     refine vcRet_of [] ?_ ⟨q, hq, rfl⟩
     simp [← hT']
end Go.Proofs.YtplooifpgmlofaaGreat
