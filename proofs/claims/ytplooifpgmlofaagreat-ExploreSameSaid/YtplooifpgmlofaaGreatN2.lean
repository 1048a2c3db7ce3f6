/- All runs. No condition. -/
import Derived.Test.YtplooifpgmlofaaGreatN1
namespace Go.Proofs.YtplooifpgmlofaaGreat
open Go.RowKit

theorem loopX_ok {β : Type} {Y : Sys} {f : Cf} {rec : List Int → List Stp → Int → FdB β → FdB β} {p : List Int} {last left : Int} (hrec : ∀ p sl left s, Ct.Ok f s.1 → Ct.Ok f (rec p sl left s).1) : ∀ (ts : List Int) (sl : List Stp) (s : FdB β), Ct.Ok f s.1 → Ct.Ok f (loopX rec Y f p last left ts sl s).1
 | [], _, _, h => h
 | t :: ts, sl, s, h => by
  unfold loopX
  generalize (if 0 < last ∧ last ≠ t then left - 1 else left) = r
  split
  ·exact loopX_ok hrec ts sl s h
  ·split
   ·exact loopX_ok hrec ts sl _ ⟨h.most, h.runs0, h.runs, h.stuck0, h.stuck⟩
   ·split
    ·exact hrec _ _ _ _ h
    ·exact loopX_ok hrec ts _ _ (hrec _ _ _ _ h)
theorem goX_ok {β : Type} {Y : Sys} {f : Cf} {lf : List Int → Bool → FdB β → FdB β} (hlf : ∀ p cut s, Ct.Ok f s.1 → Ct.Ok f (lf p cut s).1) : ∀ (n : Nat) (p : List Int) (sl : List Stp) (left : Int) (s : FdB β), Ct.Ok f s.1 → Ct.Ok f (goX lf Y f n p sl left s).1
 | 0, p, _, _, s, h => hlf _ _ _ h
 | n + 1, p, sl, left, s, h => by
  unfold goX
  split
  ·exact hlf _ _ _ h
  ·exact loopX_ok (fun p sl left s h => goX_ok hlf n p sl left s h) _ _ _ h
inductive FromI {Y : Sys} (A : Plr Y) (f : Cf) (G : List Int → List Stp → Int → Fd → Fd) (p : List Int) (left : Int) (T : Fd) : Nat → Sta → Prop
 | mk (i : Nat) (sl : List Stp) (s : Fd) (q : List Int) (st : Bool) (hi : i ≤ (Y.en p).length) (hT : loopX G Y f p (lastOf p (Y.en p)) left ((Y.en p).drop i) sl s = T) (hsl : sl.length ≤ 1000 * p.length + i) (hso : slOk sl) (hok : Ct.Ok f s.1) (hq : legal Y q) (hst : st = false → q = p) :
  FromI A f G p left T ((Y.en p).length - i) ⟨130, [(42, .i i), (41, .i (Y.en p).length), (40, .d (intD (Y.en p))), (10, .b st), (9, .i (lastOf p (Y.en p))), (0, .d (stD sl)), (1, .i left), (2, .ptr 1000004 0), (3, .ptr 1000005 0), (4, .ptr 1000006 0), (5, .ptr 1000007 0)], (4000000, .row 0 1 [] false) :: extMem 1000000 (extN A f s q (rowO p) p.length)⟩
inductive NextI {Y : Sys} (A : Plr Y) (f : Cf) (p : List Int) (sl : List Stp) (s : Fd) (left rest : Int) (i : Nat) (t : Int) : Nat → Sta → Prop
 | mk (k : Nat) (hk : k ≤ sl.length) :
  NextI A f p sl s left rest i t (sl.length - k) ⟨130, [(74, .i k), (73, .i sl.length), (72, .d (stD sl)), (15, .rw 15 ((sl.take k).filter fun q => indy q.uses (Y.foot p t)).length), (14, .d (fpD (Y.foot p t))), (13, .i rest), (12, .ptr 12 0), (42, .i i), (41, .i (Y.en p).length), (40, .d (intD (Y.en p))), (9, .i (lastOf p (Y.en p))), (0, .d (stD sl)), (1, .i left), (2, .ptr 1000004 0), (3, .ptr 1000005 0), (4, .ptr 1000006 0), (5, .ptr 1000007 0)],
   (15, .row 104 2 (((sl.take k).filter fun q => indy q.uses (Y.foot p t)).map Stp.ds) false) :: (12, .box 3 [.i t]) :: (4000000, .row 0 1 [] false) :: extMem 1000000 (extN A f s p (rowO p) p.length)⟩
set_option maxHeartbeats 8000000 in
theorem from_m {Y : Sys} (hY : Fair Y) (A : Plr Y) (f : Cf) : ∀ (n : Nat) (p : List Int) (sl : List Stp) (left : Int) (s : Fd), p.length + n = 60 → legal Y p → sl.length ≤ 1000 * p.length → slOk sl → (0 ≤ left ∧ left ≤ 60) → Ct.Ok f s.1 →
  Meets Tryz.prog 44 [.d (stD sl), .i left, .ptr 1000004 0, .ptr 1000005 0, .ptr 1000006 0, .ptr 1000007 0] (extN A f s p (rowO p) p.length)
   (fun r => ∃ q, legal Y q ∧ r = ⟨unitV, extN A f (goX (lfN Y f) Y f n p sl left s) q (.grown 3 1 (p.map intC)) p.length, []⟩) := by
 intro n
 induction n with
 | zero =>
  intro p sl left s hn hp hsl hso hleft hok
  have hfew := hY.few p
  have hpl : p.length = 60 := by omega
  refine meetsH [] tbOk mixed Tryz.func44 pl44 rfl rfl ?_
  simp [Tryz.ntmps44, A.nE]
  refine (A.mE p hp).mono ?_
  rintro _ rfl
  simp
  refine (cloneI_m (Y.en p) (by omega)).mono ?_
  rintro _ rfl
  by_cases he : Y.en p = []
  ·simp [he]
   refine (leaf_m A f s.1 hok s.2 p hp false).mono ?_
   rintro _ rfl
   simp
   refine vcRet_of [] ?_ ⟨p, hp, rfl⟩
   simp [goX, he]
  ·have hpos : 0 < (Y.en p).length := List.length_pos_iff.2 he
   have hq : ((p.length : Int) = 60) = True := eq_true (by omega)
   simp [he, hq, hpos]
   refine (leaf_m A f s.1 hok s.2 p hp true).mono ?_
   rintro _ rfl
   simp
   refine vcRet_of [] ?_ ⟨p, hp, rfl⟩
   simp [goX, hpos]
 | succ n ih =>
  intro p sl left s hn hp hsl hso hleft hok
  have hfew := hY.few p
  refine meetsH [] tbOk mixed Tryz.func44 pl44 rfl rfl ?_
  simp [Tryz.ntmps44, A.nE]
  refine (A.mE p hp).mono ?_
  rintro _ rfl
  simp
  refine (cloneI_m (Y.en p) (by omega)).mono ?_
  rintro _ rfl
  by_cases he : Y.en p = []
  ·simp [he]
   refine (leaf_m A f s.1 hok s.2 p hp false).mono ?_
   rintro _ rfl
   simp
   refine vcRet_of [] ?_ ⟨p, hp, rfl⟩
   simp [goX, he]
  ·have hpl : ¬ (p.length : Int) = 60 := by omega
   simp [he, hpl]
   refine (last_m A f s.1 _ _ p (by omega) (Y.en p) hfew).mono ?_
   rintro _ rfl
   simp
   have hG : goX (lfN Y f) Y f (n + 1) p sl left s = loopX (goX (lfN Y f) Y f n) Y f p (lastOf p (Y.en p)) left (Y.en p) sl s := by simp [goX, he]
   rw [hG]
   obtain ⟨T, hT⟩ : ∃ T, loopX (goX (lfN Y f) Y f n) Y f p (lastOf p (Y.en p)) left (Y.en p) sl s = T := ⟨_, rfl⟩
   rw [hT]
   clear hG
   have hlen : (Y.en p).length < 4294967296 := by omega
   have hpn : p.length < 60 := by omega
   have hwl : IntKind.i64.wrap (left - 1) = left - 1 := wrap_in (by omega)
   refine vc_loop (FromI A f (goX (lfN Y f) Y f n) p left T) ?_ ?_
   ·exact ⟨_, _, .mk 0 sl s p false (Nat.zero_le _) hT (by omega) hso hok hp (fun _ => rfl), [.mark 1000000], _, rfl, by simp [extMem]⟩
   ·rintro m σ ⟨i, sl', s', q, st, hi, hT', hsl', hso', hok', hq, hst⟩
    by_cases hlt : i < (Y.en p).length
    ·obtain ⟨t, ht, e⟩ := at_lt hlt
     have htm : t ∈ Y.en p := List.mem_of_getElem? ht
     have hdrop : (Y.en p).drop i = t :: (Y.en p).drop (i + 1) := by rw [List.drop_eq_getElem_cons hlt, e]
     rw [hdrop, loopX] at hT'
     simp [hlt, e, extMem]
     refine (containsS_m f t sl' (by omega)).mono ?_
     rintro _ rfl
     cases hs : (sl'.any fun s => f.sleeps && s.task == t)
     ·rw [if_neg (by rw [hs]; exact Bool.false_ne_true)] at hT'
      by_cases hL : 0 < lastOf p (Y.en p)
      ·by_cases hLt : lastOf p (Y.en p) = t
       ·have hcond : ¬ (0 < lastOf p (Y.en p) ∧ lastOf p (Y.en p) ≠ t) := fun h => h.2 hLt
        have hl0 : ¬ left < 0 := by omega
        have hLq : (lastOf p (Y.en p) = t) = True := eq_true hLt
        simp only [if_neg hcond, if_neg hl0] at hT'
        simp [hL, hLq, hl0]
        cases st
        ·have hqp : p = q := (hst rfl).symm
         subst hqp
         simp [A.nF]
         refine (A.mF p t hp htm).mono ?_
         rintro _ rfl
         simp
         have huses := hY.uses p t
         refine (cloneA_m (Y.foot p t) (by omega)).mono ?_
         rintro _ rfl
         simp
         refine vc_loop (NextI A f p sl' s' left left i t) ⟨_, _, .mk 0 (Nat.zero_le _), [.row 15 104 2], _, rfl, by simp [extMem]⟩ ?_
         rintro m σ ⟨k, hk⟩
         by_cases hk2 : k < sl'.length
         ·obtain ⟨y, hy, ey⟩ := at_lt hk2
          have hyu := hso' y (List.mem_of_getElem? hy)
          have hyl : sl'.length < 4294967296 := by omega
          have htk : sl'.take (k + 1) = sl'.take k ++ [y] := by rw [List.take_add_one, hy]; rfl
          simp [hk2, ey, extMem]
          refine (indep_m y.uses (Y.foot p t) (by omega) (by omega)).mono ?_
          rintro _ rfl
          cases hyi : indy y.uses (Y.foot p t)
          ·simp [wrap_succ hk2 hyl]
           exact ⟨_, by omega, _, .mk (k + 1) hk2, [], _, rfl, by simp [extMem, htk, hyi, List.filter_append]⟩
          ·simp [wrap_succ hk2 hyl]
           have hfl := List.length_filter_le (fun q : Stp => indy q.uses (Y.foot p t)) (sl'.take k)
           rw [List.length_take] at hfl
           exact ⟨by omega, _, by omega, _, .mk (k + 1) hk2, [], _, rfl, by simp [extMem, htk, hyi, List.filter_append]⟩
         ·obtain rfl : k = sl'.length := by omega
          simp [extMem, A.nT]
          refine (A.mT p t hp htm hpn).mono ?_
          rintro _ rfl
          simp
          refine ⟨by omega, by kernel_rfl, ?_⟩
          rw [List.take_of_length_le (by simp)]
          have hfl := List.length_filter_le (fun q : Stp => indy q.uses (Y.foot p t)) sl'
          have hrec := ih (p ++ [t]) (sl'.filter fun q => indy q.uses (Y.foot p t)) left s' (by simp; omega) (legal_snoc hp htm hpn) (by simp; omega) (fun y hy => hso' y (List.mem_filter.1 hy).1) (by omega) hok'
          simp only [extN, rowO, List.map_append, List.map_cons, List.map_nil, List.length_append, List.length_cons, List.length_nil, Nat.zero_add] at hrec
          obtain ⟨S, hS⟩ : ∃ S, goX (lfN Y f) Y f n (p ++ [t]) (sl'.filter fun q => indy q.uses (Y.foot p t)) left s' = S := ⟨_, rfl⟩
          have hSok : Ct.Ok f S.1 := by rw [← hS]; exact goX_ok (fun p cut s h => leafN_ok h) n _ _ _ _ hok'
          rw [hS] at hrec hT'
          refine hrec.mono ?_
          rintro _ ⟨q', hq', rfl⟩
          have hw1 : IntKind.i64.wrap (p.length : Int) = p.length := wrap_in (by omega)
          cases hen : S.1.enough
          ·rw [if_neg (by rw [hen]; exact Bool.false_ne_true)] at hT'
           set_option maxRecDepth 8000 in simp [hw1, hen]
           refine ⟨by omega, by kernel_rfl, effCall (clip_m sl') ?_⟩
           simp [wrap_succ hlt hlen]
           refine ⟨by omega, by kernel_rfl, _, by omega, _, .mk (i + 1) (sl' ++ [⟨t, Y.foot p t⟩]) S q' true hlt hT' (by simp; omega) (fun y hy => ?_) hSok hq' (fun h => by cases h), [.trim 1000000 p.length], _, by simp [Prep.all, Prep.run]; rfl, by simp [extMem, hen]⟩
           rcases List.mem_append.1 hy with hy | hy
           ·exact hso' y hy
           ·rw [List.mem_singleton] at hy
            subst hy; exact huses
          ·rw [if_pos hen] at hT'
           subst hT'
           set_option maxRecDepth 8000 in simp [hw1, hen]
           refine ⟨by omega, by kernel_rfl, vcRet_prep [.trim 1000000 p.length] [] (by simp [Prep.all, Prep.run]; rfl) ?_ ⟨q', hq', rfl⟩⟩
           simp
        ·simp
         refine (reach_m A f s'.1 (mapZ s'.2) (some q) (fun p h => by cases h; exact hq) p hp).mono ?_
         rintro _ rfl
         simp [A.nF]
         refine (A.mF p t hp htm).mono ?_
         rintro _ rfl
         simp
         have huses := hY.uses p t
         refine (cloneA_m (Y.foot p t) (by omega)).mono ?_
         rintro _ rfl
         simp
         refine vc_loop (NextI A f p sl' s' left left i t) ⟨_, _, .mk 0 (Nat.zero_le _), [.row 15 104 2], _, rfl, by simp [extMem]⟩ ?_
         rintro m σ ⟨k, hk⟩
         by_cases hk2 : k < sl'.length
         ·obtain ⟨y, hy, ey⟩ := at_lt hk2
          have hyu := hso' y (List.mem_of_getElem? hy)
          have hyl : sl'.length < 4294967296 := by omega
          have htk : sl'.take (k + 1) = sl'.take k ++ [y] := by rw [List.take_add_one, hy]; rfl
          simp [hk2, ey, extMem]
          refine (indep_m y.uses (Y.foot p t) (by omega) (by omega)).mono ?_
          rintro _ rfl
          cases hyi : indy y.uses (Y.foot p t)
          ·simp [wrap_succ hk2 hyl]
           exact ⟨_, by omega, _, .mk (k + 1) hk2, [], _, rfl, by simp [extMem, htk, hyi, List.filter_append]⟩
          ·simp [wrap_succ hk2 hyl]
           have hfl := List.length_filter_le (fun q : Stp => indy q.uses (Y.foot p t)) (sl'.take k)
           rw [List.length_take] at hfl
           exact ⟨by omega, _, by omega, _, .mk (k + 1) hk2, [], _, rfl, by simp [extMem, htk, hyi, List.filter_append]⟩
         ·obtain rfl : k = sl'.length := by omega
          simp [extMem, A.nT]
          refine (A.mT p t hp htm hpn).mono ?_
          rintro _ rfl
          simp
          refine ⟨by omega, by kernel_rfl, ?_⟩
          rw [List.take_of_length_le (by simp)]
          have hfl := List.length_filter_le (fun q : Stp => indy q.uses (Y.foot p t)) sl'
          have hrec := ih (p ++ [t]) (sl'.filter fun q => indy q.uses (Y.foot p t)) left s' (by simp; omega) (legal_snoc hp htm hpn) (by simp; omega) (fun y hy => hso' y (List.mem_filter.1 hy).1) (by omega) hok'
          simp only [extN, rowO, List.map_append, List.map_cons, List.map_nil, List.length_append, List.length_cons, List.length_nil, Nat.zero_add] at hrec
          obtain ⟨S, hS⟩ : ∃ S, goX (lfN Y f) Y f n (p ++ [t]) (sl'.filter fun q => indy q.uses (Y.foot p t)) left s' = S := ⟨_, rfl⟩
          have hSok : Ct.Ok f S.1 := by rw [← hS]; exact goX_ok (fun p cut s h => leafN_ok h) n _ _ _ _ hok'
          rw [hS] at hrec hT'
          refine hrec.mono ?_
          rintro _ ⟨q', hq', rfl⟩
          have hw1 : IntKind.i64.wrap (p.length : Int) = p.length := wrap_in (by omega)
          cases hen : S.1.enough
          ·rw [if_neg (by rw [hen]; exact Bool.false_ne_true)] at hT'
           set_option maxRecDepth 8000 in simp [hw1, hen]
           refine ⟨by omega, by kernel_rfl, effCall (clip_m sl') ?_⟩
           simp [wrap_succ hlt hlen]
           refine ⟨by omega, by kernel_rfl, _, by omega, _, .mk (i + 1) (sl' ++ [⟨t, Y.foot p t⟩]) S q' true hlt hT' (by simp; omega) (fun y hy => ?_) hSok hq' (fun h => by cases h), [.trim 1000000 p.length], _, by simp [Prep.all, Prep.run]; rfl, by simp [extMem, hen]⟩
           rcases List.mem_append.1 hy with hy | hy
           ·exact hso' y hy
           ·rw [List.mem_singleton] at hy
            subst hy; exact huses
          ·rw [if_pos hen] at hT'
           subst hT'
           set_option maxRecDepth 8000 in simp [hw1, hen]
           refine ⟨by omega, by kernel_rfl, vcRet_prep [.trim 1000000 p.length] [] (by simp [Prep.all, Prep.run]; rfl) ?_ ⟨q', hq', rfl⟩⟩
           simp
       ·have hcond : 0 < lastOf p (Y.en p) ∧ lastOf p (Y.en p) ≠ t := ⟨hL, hLt⟩
        by_cases hl1 : left - 1 < 0
        ·simp only [if_pos hcond, if_pos hl1] at hT'
         simp [hL, hLt, hl1, hwl, wrap_succ hlt hlen]
         exact ⟨_, by omega, _, .mk (i + 1) sl' ({ s'.1 with full := false }, s'.2) q st hlt hT' (by omega) hso' ⟨hok'.most, hok'.runs0, hok'.runs, hok'.stuck0, hok'.stuck⟩ hq hst, [], _, rfl, by simp [extMem]⟩
        ·simp only [if_pos hcond, if_neg hl1] at hT'
         simp [hL, hLt, hl1, hwl]
         cases st
         ·have hqp : p = q := (hst rfl).symm
          subst hqp
          simp [A.nF]
          refine (A.mF p t hp htm).mono ?_
          rintro _ rfl
          simp
          have huses := hY.uses p t
          refine (cloneA_m (Y.foot p t) (by omega)).mono ?_
          rintro _ rfl
          simp
          refine vc_loop (NextI A f p sl' s' left (left - 1) i t) ⟨_, _, .mk 0 (Nat.zero_le _), [.row 15 104 2], _, rfl, by simp [extMem]⟩ ?_
          rintro m σ ⟨k, hk⟩
          by_cases hk2 : k < sl'.length
          ·obtain ⟨y, hy, ey⟩ := at_lt hk2
           have hyu := hso' y (List.mem_of_getElem? hy)
           have hyl : sl'.length < 4294967296 := by omega
           have htk : sl'.take (k + 1) = sl'.take k ++ [y] := by rw [List.take_add_one, hy]; rfl
           simp [hk2, ey, extMem]
           refine (indep_m y.uses (Y.foot p t) (by omega) (by omega)).mono ?_
           rintro _ rfl
           cases hyi : indy y.uses (Y.foot p t)
           ·simp [wrap_succ hk2 hyl]
            exact ⟨_, by omega, _, .mk (k + 1) hk2, [], _, rfl, by simp [extMem, htk, hyi, List.filter_append]⟩
           ·simp [wrap_succ hk2 hyl]
            have hfl := List.length_filter_le (fun q : Stp => indy q.uses (Y.foot p t)) (sl'.take k)
            rw [List.length_take] at hfl
            exact ⟨by omega, _, by omega, _, .mk (k + 1) hk2, [], _, rfl, by simp [extMem, htk, hyi, List.filter_append]⟩
          ·obtain rfl : k = sl'.length := by omega
           simp [extMem, A.nT]
           refine (A.mT p t hp htm hpn).mono ?_
           rintro _ rfl
           simp
           refine ⟨by omega, by kernel_rfl, ?_⟩
           rw [List.take_of_length_le (by simp)]
           have hfl := List.length_filter_le (fun q : Stp => indy q.uses (Y.foot p t)) sl'
           have hrec := ih (p ++ [t]) (sl'.filter fun q => indy q.uses (Y.foot p t)) (left - 1) s' (by simp; omega) (legal_snoc hp htm hpn) (by simp; omega) (fun y hy => hso' y (List.mem_filter.1 hy).1) (by omega) hok'
           simp only [extN, rowO, List.map_append, List.map_cons, List.map_nil, List.length_append, List.length_cons, List.length_nil, Nat.zero_add] at hrec
           obtain ⟨S, hS⟩ : ∃ S, goX (lfN Y f) Y f n (p ++ [t]) (sl'.filter fun q => indy q.uses (Y.foot p t)) (left - 1) s' = S := ⟨_, rfl⟩
           have hSok : Ct.Ok f S.1 := by rw [← hS]; exact goX_ok (fun p cut s h => leafN_ok h) n _ _ _ _ hok'
           rw [hS] at hrec hT'
           refine hrec.mono ?_
           rintro _ ⟨q', hq', rfl⟩
           have hw1 : IntKind.i64.wrap (p.length : Int) = p.length := wrap_in (by omega)
           cases hen : S.1.enough
           ·rw [if_neg (by rw [hen]; exact Bool.false_ne_true)] at hT'
            set_option maxRecDepth 8000 in simp [hw1, hen]
            refine ⟨by omega, by kernel_rfl, effCall (clip_m sl') ?_⟩
            simp [wrap_succ hlt hlen]
            refine ⟨by omega, by kernel_rfl, _, by omega, _, .mk (i + 1) (sl' ++ [⟨t, Y.foot p t⟩]) S q' true hlt hT' (by simp; omega) (fun y hy => ?_) hSok hq' (fun h => by cases h), [.trim 1000000 p.length], _, by simp [Prep.all, Prep.run]; rfl, by simp [extMem, hen]⟩
            rcases List.mem_append.1 hy with hy | hy
            ·exact hso' y hy
            ·rw [List.mem_singleton] at hy
             subst hy; exact huses
           ·rw [if_pos hen] at hT'
            subst hT'
            set_option maxRecDepth 8000 in simp [hw1, hen]
            refine ⟨by omega, by kernel_rfl, vcRet_prep [.trim 1000000 p.length] [] (by simp [Prep.all, Prep.run]; rfl) ?_ ⟨q', hq', rfl⟩⟩
            simp
         ·simp
          refine (reach_m A f s'.1 (mapZ s'.2) (some q) (fun p h => by cases h; exact hq) p hp).mono ?_
          rintro _ rfl
          simp [A.nF]
          refine (A.mF p t hp htm).mono ?_
          rintro _ rfl
          simp
          have huses := hY.uses p t
          refine (cloneA_m (Y.foot p t) (by omega)).mono ?_
          rintro _ rfl
          simp
          refine vc_loop (NextI A f p sl' s' left (left - 1) i t) ⟨_, _, .mk 0 (Nat.zero_le _), [.row 15 104 2], _, rfl, by simp [extMem]⟩ ?_
          rintro m σ ⟨k, hk⟩
          by_cases hk2 : k < sl'.length
          ·obtain ⟨y, hy, ey⟩ := at_lt hk2
           have hyu := hso' y (List.mem_of_getElem? hy)
           have hyl : sl'.length < 4294967296 := by omega
           have htk : sl'.take (k + 1) = sl'.take k ++ [y] := by rw [List.take_add_one, hy]; rfl
           simp [hk2, ey, extMem]
           refine (indep_m y.uses (Y.foot p t) (by omega) (by omega)).mono ?_
           rintro _ rfl
           cases hyi : indy y.uses (Y.foot p t)
           ·simp [wrap_succ hk2 hyl]
            exact ⟨_, by omega, _, .mk (k + 1) hk2, [], _, rfl, by simp [extMem, htk, hyi, List.filter_append]⟩
           ·simp [wrap_succ hk2 hyl]
            have hfl := List.length_filter_le (fun q : Stp => indy q.uses (Y.foot p t)) (sl'.take k)
            rw [List.length_take] at hfl
            exact ⟨by omega, _, by omega, _, .mk (k + 1) hk2, [], _, rfl, by simp [extMem, htk, hyi, List.filter_append]⟩
          ·obtain rfl : k = sl'.length := by omega
           simp [extMem, A.nT]
           refine (A.mT p t hp htm hpn).mono ?_
           rintro _ rfl
           simp
           refine ⟨by omega, by kernel_rfl, ?_⟩
           rw [List.take_of_length_le (by simp)]
           have hfl := List.length_filter_le (fun q : Stp => indy q.uses (Y.foot p t)) sl'
           have hrec := ih (p ++ [t]) (sl'.filter fun q => indy q.uses (Y.foot p t)) (left - 1) s' (by simp; omega) (legal_snoc hp htm hpn) (by simp; omega) (fun y hy => hso' y (List.mem_filter.1 hy).1) (by omega) hok'
           simp only [extN, rowO, List.map_append, List.map_cons, List.map_nil, List.length_append, List.length_cons, List.length_nil, Nat.zero_add] at hrec
           obtain ⟨S, hS⟩ : ∃ S, goX (lfN Y f) Y f n (p ++ [t]) (sl'.filter fun q => indy q.uses (Y.foot p t)) (left - 1) s' = S := ⟨_, rfl⟩
           have hSok : Ct.Ok f S.1 := by rw [← hS]; exact goX_ok (fun p cut s h => leafN_ok h) n _ _ _ _ hok'
           rw [hS] at hrec hT'
           refine hrec.mono ?_
           rintro _ ⟨q', hq', rfl⟩
           have hw1 : IntKind.i64.wrap (p.length : Int) = p.length := wrap_in (by omega)
           cases hen : S.1.enough
           ·rw [if_neg (by rw [hen]; exact Bool.false_ne_true)] at hT'
            set_option maxRecDepth 8000 in simp [hw1, hen]
            refine ⟨by omega, by kernel_rfl, effCall (clip_m sl') ?_⟩
            simp [wrap_succ hlt hlen]
            refine ⟨by omega, by kernel_rfl, _, by omega, _, .mk (i + 1) (sl' ++ [⟨t, Y.foot p t⟩]) S q' true hlt hT' (by simp; omega) (fun y hy => ?_) hSok hq' (fun h => by cases h), [.trim 1000000 p.length], _, by simp [Prep.all, Prep.run]; rfl, by simp [extMem, hen]⟩
            rcases List.mem_append.1 hy with hy | hy
            ·exact hso' y hy
            ·rw [List.mem_singleton] at hy
             subst hy; exact huses
           ·rw [if_pos hen] at hT'
            subst hT'
            set_option maxRecDepth 8000 in simp [hw1, hen]
            refine ⟨by omega, by kernel_rfl, vcRet_prep [.trim 1000000 p.length] [] (by simp [Prep.all, Prep.run]; rfl) ?_ ⟨q', hq', rfl⟩⟩
            simp
      ·have hcond : ¬ (0 < lastOf p (Y.en p) ∧ lastOf p (Y.en p) ≠ t) := fun h => hL h.1
       have hl0 : ¬ left < 0 := by omega
       simp only [if_neg hcond, if_neg hl0] at hT'
       simp [hL, hl0]
       cases st
       ·have hqp : p = q := (hst rfl).symm
        subst hqp
        simp [A.nF]
        refine (A.mF p t hp htm).mono ?_
        rintro _ rfl
        simp
        have huses := hY.uses p t
        refine (cloneA_m (Y.foot p t) (by omega)).mono ?_
        rintro _ rfl
        simp
        refine vc_loop (NextI A f p sl' s' left left i t) ⟨_, _, .mk 0 (Nat.zero_le _), [.row 15 104 2], _, rfl, by simp [extMem]⟩ ?_
        rintro m σ ⟨k, hk⟩
        by_cases hk2 : k < sl'.length
        ·obtain ⟨y, hy, ey⟩ := at_lt hk2
         have hyu := hso' y (List.mem_of_getElem? hy)
         have hyl : sl'.length < 4294967296 := by omega
         have htk : sl'.take (k + 1) = sl'.take k ++ [y] := by rw [List.take_add_one, hy]; rfl
         simp [hk2, ey, extMem]
         refine (indep_m y.uses (Y.foot p t) (by omega) (by omega)).mono ?_
         rintro _ rfl
         cases hyi : indy y.uses (Y.foot p t)
         ·simp [wrap_succ hk2 hyl]
          exact ⟨_, by omega, _, .mk (k + 1) hk2, [], _, rfl, by simp [extMem, htk, hyi, List.filter_append]⟩
         ·simp [wrap_succ hk2 hyl]
          have hfl := List.length_filter_le (fun q : Stp => indy q.uses (Y.foot p t)) (sl'.take k)
          rw [List.length_take] at hfl
          exact ⟨by omega, _, by omega, _, .mk (k + 1) hk2, [], _, rfl, by simp [extMem, htk, hyi, List.filter_append]⟩
        ·obtain rfl : k = sl'.length := by omega
         simp [extMem, A.nT]
         refine (A.mT p t hp htm hpn).mono ?_
         rintro _ rfl
         simp
         refine ⟨by omega, by kernel_rfl, ?_⟩
         rw [List.take_of_length_le (by simp)]
         have hfl := List.length_filter_le (fun q : Stp => indy q.uses (Y.foot p t)) sl'
         have hrec := ih (p ++ [t]) (sl'.filter fun q => indy q.uses (Y.foot p t)) left s' (by simp; omega) (legal_snoc hp htm hpn) (by simp; omega) (fun y hy => hso' y (List.mem_filter.1 hy).1) (by omega) hok'
         simp only [extN, rowO, List.map_append, List.map_cons, List.map_nil, List.length_append, List.length_cons, List.length_nil, Nat.zero_add] at hrec
         obtain ⟨S, hS⟩ : ∃ S, goX (lfN Y f) Y f n (p ++ [t]) (sl'.filter fun q => indy q.uses (Y.foot p t)) left s' = S := ⟨_, rfl⟩
         have hSok : Ct.Ok f S.1 := by rw [← hS]; exact goX_ok (fun p cut s h => leafN_ok h) n _ _ _ _ hok'
         rw [hS] at hrec hT'
         refine hrec.mono ?_
         rintro _ ⟨q', hq', rfl⟩
         have hw1 : IntKind.i64.wrap (p.length : Int) = p.length := wrap_in (by omega)
         cases hen : S.1.enough
         ·rw [if_neg (by rw [hen]; exact Bool.false_ne_true)] at hT'
          set_option maxRecDepth 8000 in simp [hw1, hen]
          refine ⟨by omega, by kernel_rfl, effCall (clip_m sl') ?_⟩
          simp [wrap_succ hlt hlen]
          refine ⟨by omega, by kernel_rfl, _, by omega, _, .mk (i + 1) (sl' ++ [⟨t, Y.foot p t⟩]) S q' true hlt hT' (by simp; omega) (fun y hy => ?_) hSok hq' (fun h => by cases h), [.trim 1000000 p.length], _, by simp [Prep.all, Prep.run]; rfl, by simp [extMem, hen]⟩
          rcases List.mem_append.1 hy with hy | hy
          ·exact hso' y hy
          ·rw [List.mem_singleton] at hy
           subst hy; exact huses
         ·rw [if_pos hen] at hT'
          subst hT'
          set_option maxRecDepth 8000 in simp [hw1, hen]
          refine ⟨by omega, by kernel_rfl, vcRet_prep [.trim 1000000 p.length] [] (by simp [Prep.all, Prep.run]; rfl) ?_ ⟨q', hq', rfl⟩⟩
          simp
       ·simp
        refine (reach_m A f s'.1 (mapZ s'.2) (some q) (fun p h => by cases h; exact hq) p hp).mono ?_
        rintro _ rfl
        simp [A.nF]
        refine (A.mF p t hp htm).mono ?_
        rintro _ rfl
        simp
        have huses := hY.uses p t
        refine (cloneA_m (Y.foot p t) (by omega)).mono ?_
        rintro _ rfl
        simp
        refine vc_loop (NextI A f p sl' s' left left i t) ⟨_, _, .mk 0 (Nat.zero_le _), [.row 15 104 2], _, rfl, by simp [extMem]⟩ ?_
        rintro m σ ⟨k, hk⟩
        by_cases hk2 : k < sl'.length
        ·obtain ⟨y, hy, ey⟩ := at_lt hk2
         have hyu := hso' y (List.mem_of_getElem? hy)
         have hyl : sl'.length < 4294967296 := by omega
         have htk : sl'.take (k + 1) = sl'.take k ++ [y] := by rw [List.take_add_one, hy]; rfl
         simp [hk2, ey, extMem]
         refine (indep_m y.uses (Y.foot p t) (by omega) (by omega)).mono ?_
         rintro _ rfl
         cases hyi : indy y.uses (Y.foot p t)
         ·simp [wrap_succ hk2 hyl]
          exact ⟨_, by omega, _, .mk (k + 1) hk2, [], _, rfl, by simp [extMem, htk, hyi, List.filter_append]⟩
         ·simp [wrap_succ hk2 hyl]
          have hfl := List.length_filter_le (fun q : Stp => indy q.uses (Y.foot p t)) (sl'.take k)
          rw [List.length_take] at hfl
          exact ⟨by omega, _, by omega, _, .mk (k + 1) hk2, [], _, rfl, by simp [extMem, htk, hyi, List.filter_append]⟩
        ·obtain rfl : k = sl'.length := by omega
         simp [extMem, A.nT]
         refine (A.mT p t hp htm hpn).mono ?_
         rintro _ rfl
         simp
         refine ⟨by omega, by kernel_rfl, ?_⟩
         rw [List.take_of_length_le (by simp)]
         have hfl := List.length_filter_le (fun q : Stp => indy q.uses (Y.foot p t)) sl'
         have hrec := ih (p ++ [t]) (sl'.filter fun q => indy q.uses (Y.foot p t)) left s' (by simp; omega) (legal_snoc hp htm hpn) (by simp; omega) (fun y hy => hso' y (List.mem_filter.1 hy).1) (by omega) hok'
         simp only [extN, rowO, List.map_append, List.map_cons, List.map_nil, List.length_append, List.length_cons, List.length_nil, Nat.zero_add] at hrec
         obtain ⟨S, hS⟩ : ∃ S, goX (lfN Y f) Y f n (p ++ [t]) (sl'.filter fun q => indy q.uses (Y.foot p t)) left s' = S := ⟨_, rfl⟩
         have hSok : Ct.Ok f S.1 := by rw [← hS]; exact goX_ok (fun p cut s h => leafN_ok h) n _ _ _ _ hok'
         rw [hS] at hrec hT'
         refine hrec.mono ?_
         rintro _ ⟨q', hq', rfl⟩
         have hw1 : IntKind.i64.wrap (p.length : Int) = p.length := wrap_in (by omega)
         cases hen : S.1.enough
         ·rw [if_neg (by rw [hen]; exact Bool.false_ne_true)] at hT'
          set_option maxRecDepth 8000 in simp [hw1, hen]
          refine ⟨by omega, by kernel_rfl, effCall (clip_m sl') ?_⟩
          simp [wrap_succ hlt hlen]
          refine ⟨by omega, by kernel_rfl, _, by omega, _, .mk (i + 1) (sl' ++ [⟨t, Y.foot p t⟩]) S q' true hlt hT' (by simp; omega) (fun y hy => ?_) hSok hq' (fun h => by cases h), [.trim 1000000 p.length], _, by simp [Prep.all, Prep.run]; rfl, by simp [extMem, hen]⟩
          rcases List.mem_append.1 hy with hy | hy
          ·exact hso' y hy
          ·rw [List.mem_singleton] at hy
           subst hy; exact huses
         ·rw [if_pos hen] at hT'
          subst hT'
          set_option maxRecDepth 8000 in simp [hw1, hen]
          refine ⟨by omega, by kernel_rfl, vcRet_prep [.trim 1000000 p.length] [] (by simp [Prep.all, Prep.run]; rfl) ?_ ⟨q', hq', rfl⟩⟩
          simp
     ·rw [if_pos hs] at hT'
      simp [wrap_succ hlt hlen]
      exact ⟨_, by omega, _, .mk (i + 1) sl' s' q st hlt hT' (by omega) hso' hok' hq hst, [], _, rfl, by simp [extMem]⟩
    ·obtain rfl : i = (Y.en p).length := by omega
     rw [List.drop_length, loopX] at hT'
     simp [extMem]
     refine vcRet_of [] ?_ ⟨q, hq, rfl⟩
     simp [← hT']
end Go.Proofs.YtplooifpgmlofaaGreat
