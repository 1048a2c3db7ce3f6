/- Contracts: explore 4. No condition. -/
import Derived.Test.YtplooifpgmlofaaGreatN3
namespace Go.Proofs.YtplooifpgmlofaaGreat
open Go.RowKit

/-- The digits of a number, most significant first. -/
def digN (n : Nat) : List Int := if h : n < 10 then [48 + (n : Int)] else digN (n / 10) ++ [48 + ((n % 10 : Nat) : Int)]
theorem digN_lt {n : Nat} (h : n < 10) : digN n = [48 + (n : Int)] := by rw [digN, dif_pos h]
theorem digN_ge {n : Nat} (h : ¬ n < 10) : digN n = digN (n / 10) ++ [48 + ((n % 10 : Nat) : Int)] := by rw [digN, dif_neg h]
def digZ (n : Int) : List Int := if n < 0 then 45 :: digN n.natAbs else digN n.natAbs
theorem digN_len : ∀ (n : Nat), n < 10000000000000000000000000 → (digN n).length ≤ 30 := by
  have key : ∀ (k n : Nat), n < 10 ^ (k + 1) → (digN n).length ≤ k + 1 := by
    intro k
    induction k with
    | zero => intro n h; rw [digN_lt (by omega)]; simp
    | succ k ih =>
      intro n h
      by_cases h10 : n < 10
      · rw [digN_lt h10]; simp
      · rw [digN_ge h10, List.length_append]
        have := ih (n / 10) (by rw [Nat.pow_succ] at h; omega)
        simp; omega
  exact fun n h => key 29 n (Nat.lt_trans h (by decide))
abbrev digB (n : Int) : ByteArray := strOfNums (digZ n)

theorem strs_app (a b : List Int) : strOfNums a ++ strOfNums b = strOfNums (a ++ b) := by
  apply ByteArray.ext
  simp [strOfNums]
theorem u8_in {x : Int} (h : 0 ≤ x ∧ x < 256) : IntKind.u8.wrap x = x := by
  simp only [IntKind.wrap, IntKind.bits, IntKind.signed]
  simp
  omega
theorem i64_full {n : Int} (h : -9223372036854775808 ≤ n ∧ n ≤ 9223372036854775807) : IntKind.i64.wrap n = n := IntWalk.i64_in _ (by omega)
theorem td_neg {n : Int} (h : n < 0) : n.tdiv 10 = -((-n) / 10) ∧ n.tmod 10 = -((-n) % 10) := by
  obtain ⟨m, rfl⟩ : ∃ m, n = -m := ⟨-n, by omega⟩
  rw [Int.neg_tdiv, Int.neg_tmod, Int.tdiv_eq_ediv_of_nonneg (by omega), Int.tmod_eq_emod_of_nonneg (by omega), Int.neg_neg]
  exact ⟨rfl, rfl⟩
theorem td_pos {n : Int} (h : 0 ≤ n) : n.tdiv 10 = n / 10 ∧ n.tmod 10 = n % 10 := ⟨Int.tdiv_eq_ediv_of_nonneg h, Int.tmod_eq_emod_of_nonneg h⟩
theorem digZ_big {n : Int} (h : 9 < n ∨ n < -9) : digZ n = digZ (n.tdiv 10) ++ [48 + ((n.tmod 10).natAbs : Int)] := by
  have e1 : (n.tdiv 10).natAbs = n.natAbs / 10 := Int.natAbs_tdiv n 10
  have e2 : (n.tmod 10).natAbs = n.natAbs % 10 := Int.natAbs_tmod n 10
  have e3 : ¬ n.natAbs < 10 := by omega
  have e4 : n.tdiv 10 < 0 ↔ n < 0 := by
    by_cases hn : n < 0
    · have := (td_neg hn).1; omega
    · have := (td_pos (Int.not_lt.1 hn)).1; omega
  unfold digZ
  by_cases hn : n < 0
  · rw [if_pos hn, if_pos (e4.2 hn), e1, e2, digN_ge e3]; rfl
  · rw [if_neg hn, if_neg (fun h => hn (e4.1 h)), e1, e2, digN_ge e3]
theorem digZ_neg {n : Int} (h : n < 0) (h9 : -9 ≤ n) : digZ n = [45] ++ digZ (-n) := by
  unfold digZ
  rw [if_pos h, if_neg (by omega), Int.natAbs_neg]; rfl
theorem digZ_small {n : Int} (h : 0 ≤ n) (h9 : n ≤ 9) : digZ n = [48 + n] := by
  unfold digZ
  rw [if_neg (by omega), digN_lt (by omega)]
  congr 2
  omega
theorem digZ_len {n : Int} (h : -9223372036854775808 ≤ n ∧ n ≤ 9223372036854775807) : (digZ n).length ≤ 31 := by
  have := digN_len n.natAbs (by omega)
  unfold digZ
  split <;> simp <;> omega
theorem strs_size (a : List Int) : (strOfNums a).size = a.length := by simp [strOfNums, ByteArray.size]
theorem str_minus : (⟨#[45]⟩ : ByteArray) = strOfNums [45] := rfl

set_option maxHeartbeats 1000000 in
theorem digitsK_m : ∀ (k : Nat) (n : Int), 2 * n.natAbs + (if n < 0 then 1 else 0) < k → (-9223372036854775808 ≤ n ∧ n ≤ 9223372036854775807) → Meets Tryz.prog 70 [.i n] [] (Ret (.d (.v (.string (digB n))))) := by
  intro k
  induction k with
  | zero => intro n h; omega
  | succ k ih =>
    intro n hk hr
    refine meets tbOk mixed Tryz.func70 pl70 rfl rfl ?_
    by_cases hb : 9 < n ∨ n < -9
    · have hq : (n.tdiv 10).natAbs = n.natAbs / 10 := Int.natAbs_tdiv n 10
      have hm : (n.tmod 10).natAbs = n.natAbs % 10 := Int.natAbs_tmod n 10
      have hqr : -9223372036854775808 ≤ n.tdiv 10 ∧ n.tdiv 10 ≤ 9223372036854775807 := by omega
      have w1 : IntKind.i64.wrap (n.tdiv 10) = n.tdiv 10 := i64_full hqr
      have hrec := ih (n.tdiv 10) (by rw [hq]; split <;> split at hk <;> omega) hqr
      have hlen := digZ_len hqr
      have e0 : digB n = strOfNums (digZ (n.tdiv 10)) ++ strOfNums [48 + ((n.tmod 10).natAbs : Int)] := by
        show strOfNums (digZ n) = _
        rw [strs_app, ← digZ_big hb]
      have hcond : (decide (n > 9) || decide (n < -9)) = true := by rcases hb with h | h <;> simp [h]
      have hsz : (strOfNums (digZ (n.tdiv 10))).size + (strOfNums [48 + ((n.tmod 10).natAbs : Int)]).size ≤ 4611686018427387904 := by
        rw [strs_size, strs_size]; simp; omega
      by_cases hd : n.tmod 10 < 0
      · have w2 : IntKind.i64.wrap (-(n.tmod 10)) = -(n.tmod 10) := wrap_in (by omega)
        have w3 : IntKind.i64.wrap (48 + -(n.tmod 10)) = 48 + -(n.tmod 10) := wrap_in (by omega)
        have w4 : IntKind.u8.wrap (48 + -(n.tmod 10)) = 48 + -(n.tmod 10) := u8_in (by omega)
        have e1 : ((n.tmod 10).natAbs : Int) = -(n.tmod 10) := by omega
        rw [e1] at e0 hsz
        by_cases h9 : 9 < n
        · have := (td_pos (show (0 : Int) ≤ n by omega)).2; omega
        · have h9' : n < -9 := by omega
          simp [Tryz.ntmps70, h9, h9', hd, w1, w2]
          refine effCall hrec ?_
          simp [w3, w4, numsOf]
          refine ⟨hsz, by kernel_rfl, vcRet_of [] ?_ rfl⟩
          simp [e0]
      · have w3 : IntKind.i64.wrap (48 + n.tmod 10) = 48 + n.tmod 10 := wrap_in (by omega)
        have w4 : IntKind.u8.wrap (48 + n.tmod 10) = 48 + n.tmod 10 := u8_in (by omega)
        have e1 : ((n.tmod 10).natAbs : Int) = n.tmod 10 := by omega
        rw [e1] at e0 hsz
        by_cases h9 : 9 < n
        · simp [Tryz.ntmps70, h9, hd, w1]
          refine effCall hrec ?_
          simp [w3, w4, numsOf]
          refine ⟨hsz, by kernel_rfl, vcRet_of [] ?_ rfl⟩
          simp [e0]
        · have h9' : n < -9 := by omega
          simp [Tryz.ntmps70, h9, h9', hd, w1]
          refine effCall hrec ?_
          simp [w3, w4, numsOf]
          refine ⟨hsz, by kernel_rfl, vcRet_of [] ?_ rfl⟩
          simp [e0]
    · have h1 : ¬ 9 < n := by omega
      have h2 : ¬ n < -9 := by omega
      by_cases hn : n < 0
      · have w1 : IntKind.i64.wrap (-n) = -n := wrap_in (by omega)
        simp [Tryz.ntmps70, h1, h2, hn, w1]
        refine (ih (-n) (by rw [Int.natAbs_neg, if_neg (by omega)]; rw [if_pos hn] at hk; omega) (by omega)).mono ?_
        rintro _ rfl
        have hlen := digZ_len (n := -n) (by omega)
        have hsz : (⟨#[45]⟩ : ByteArray).size + (digB (-n)).size ≤ 4611686018427387904 := by
          show 1 + (strOfNums (digZ (-n))).size ≤ _
          rw [strs_size]; omega
        simp
        refine ⟨hsz, vcRet_of [] ?_ rfl⟩
        simp [digB, digZ_neg hn (Int.not_lt.1 h2), str_minus, strs_app]
      · have w3 : IntKind.i64.wrap (48 + n) = 48 + n := wrap_in (by omega)
        have w4 : IntKind.u8.wrap (48 + n) = 48 + n := u8_in (by omega)
        simp [Tryz.ntmps70, h1, h2, hn, w3, w4, numsOf]
        refine vcRet_of [] ?_ rfl
        simp [digB, digZ_small (Int.not_lt.1 hn) (Int.not_lt.1 h1)]
theorem digits_m (n : Int) (hr : -9223372036854775808 ≤ n ∧ n ≤ 9223372036854775807) : Meets Tryz.prog 70 [.i n] [] (Ret (.d (.v (.string (digB n))))) := digitsK_m _ n (Nat.lt_succ_self _) hr
end Go.Proofs.YtplooifpgmlofaaGreat
namespace Go.Proofs.YtplooifpgmlofaaGreat
open Go.RowKit

/-- The examples' player: the sum, how many turns each has had, what each has read. -/
structure SS where
  sum : Int
  p1 : Int
  p2 : Int
  r1 : Int
  r2 : Int
@[simp] def SS.box (s : SS) : MObj := .box 75 [.i s.sum, .i 0, .i s.p1, .i s.p2, .i 0, .i s.r1, .i s.r2]
def ss0 : SS := ⟨0, 0, 0, 0, 0⟩
def SS.step (s : SS) (t : Int) : SS :=
  if t = 1 then (if s.p1 = 0 then ⟨s.sum, s.p1 + 1, s.p2, s.sum, s.r2⟩ else ⟨s.r1 + 1, s.p1 + 1, s.p2, s.r1, s.r2⟩)
  else (if s.p2 = 0 then ⟨s.sum, s.p1, s.p2 + 1, s.r1, s.sum⟩ else ⟨s.r2 + 2, s.p1, s.p2 + 1, s.r1, s.r2⟩)
def SS.en (s : SS) : List Int := (if s.p1 < 2 then [1] else []) ++ if s.p2 < 2 then [2] else []
def SS.at_ (p : List Int) : SS := p.foldl SS.step ss0
def sumY : Sys where
  en := fun p => (SS.at_ p).en
  foot := fun p t => [⟨5, if t = 1 then (SS.at_ p).p1 == 1 else (SS.at_ p).p2 == 1⟩]
  done := fun p => (SS.at_ p).p1 == 2 && (SS.at_ p).p2 == 2
  out := fun p => digB (SS.at_ p).sum
/-- Its numbers are small. -/
structure SS.Ok (s : SS) (n : Int) : Prop where
  p1 : 0 ≤ s.p1 ∧ s.p1 ≤ n
  p2 : 0 ≤ s.p2 ∧ s.p2 ≤ n
  sum : 0 ≤ s.sum ∧ s.sum ≤ 2 * n
  r1 : 0 ≤ s.r1 ∧ s.r1 ≤ 2 * n
  r2 : 0 ≤ s.r2 ∧ s.r2 ≤ 2 * n
theorem SS.ok_step {s : SS} {n : Int} (h : s.Ok n) (t : Int) : (s.step t).Ok (n + 1) := by
  obtain ⟨h1, h2, h3, h4, h5⟩ := h
  unfold SS.step
  split <;> split <;> exact ⟨by dsimp only; omega, by dsimp only; omega, by dsimp only; omega, by dsimp only; omega, by dsimp only; omega⟩
theorem SS.at_snoc (p : List Int) (t : Int) : SS.at_ (p ++ [t]) = (SS.at_ p).step t := by simp [SS.at_]
theorem SS.ok_from : ∀ (p : List Int) (s : SS) (n : Int), s.Ok n → (p.foldl SS.step s).Ok (n + p.length)
  | [], s, n, h => by simpa using h
  | t :: p, s, n, h => by
    have := SS.ok_from p (s.step t) (n + 1) (SS.ok_step h t)
    rw [List.foldl_cons, List.length_cons]
    rwa [show n + ((p.length + 1 : Nat) : Int) = n + 1 + p.length by omega]
theorem SS.ok_at (p : List Int) : (SS.at_ p).Ok p.length := by
  have := SS.ok_from p ss0 0 ⟨by decide, by decide, by decide, by decide, by decide⟩
  rwa [Int.zero_add] at this
theorem sum_fair : Fair sumY where
  pos := fun p t h => by
    have h : t ∈ (SS.at_ p).en := h
    unfold SS.en at h
    rw [List.mem_append] at h
    rcases h with h | h <;> split at h <;> simp at h <;> subst h <;> omega
  few := fun p => by
    show (SS.at_ p).en.length < 1000
    unfold SS.en
    split <;> split <;> simp
  uses := fun p t => by show 1 < 1000; omega
theorem mem_en {s : SS} {t : Int} (h : t ∈ s.en) : t = 1 ∧ s.p1 < 2 ∨ t = 2 ∧ s.p2 < 2 := by
  unfold SS.en at h
  rw [List.mem_append] at h
  rcases h with h | h <;> split at h <;> simp at h <;> subst h
  · exact .inl ⟨rfl, ‹_›⟩
  · exact .inr ⟨rfl, ‹_›⟩

theorem sStart_m (s : SS) : Meets Tryz.prog 129 [.ptr 1000000 0] [s.box] (fun r => r = ⟨unitV, [ss0.box], []⟩) := by
  refine meets tbOk mixed Tryz.func129 pl129 rfl rfl ?_
  simp [Tryz.ntmps129]
  refine vcRet_of [] ?_ rfl
  simp [ss0]
theorem sDone_m (s : SS) : Meets Tryz.prog 125 [.ptr 1000000 0] [s.box] (fun r => r = ⟨.b (s.p1 == 2 && s.p2 == 2), [s.box], []⟩) := by
  refine meets tbOk mixed Tryz.func125 pl125 rfl rfl ?_
  by_cases h1 : s.p1 = 2
  · simp [Tryz.ntmps125, h1]
    refine vcRet_of [] ?_ rfl
    simp
    rfl
  · simp [Tryz.ntmps125, h1]
    refine vcRet_of [] ?_ rfl
    simp [h1]
theorem sOut_m (s : SS) (h : -4294967296 ≤ s.sum ∧ s.sum ≤ 4294967296) : Meets Tryz.prog 128 [.ptr 1000000 0] [s.box] (fun r => r = ⟨.d (.v (.string (digB s.sum))), [s.box], []⟩) := by
  refine meets tbOk mixed Tryz.func128 pl128 rfl rfl ?_
  simp [Tryz.ntmps128]
  refine (digits_m s.sum (by omega)).mono ?_
  rintro _ rfl
  simp
  refine vcRet_of [] ?_ rfl
  simp
theorem sFoot_m (s : SS) (t : Int) (ht : t = 1 ∨ t = 2) : Meets Tryz.prog 127 [.ptr 1000000 0, .i t] [s.box] (fun r => r = ⟨.d (fpD [⟨5, if t = 1 then s.p1 == 1 else s.p2 == 1⟩]), [s.box], []⟩) := by
  refine meets tbOk mixed Tryz.func127 pl127 rfl rfl ?_
  rcases ht with rfl | rfl
  · simp [Tryz.ntmps127]
    refine vcRet_of [] ?_ rfl
    simp
    rfl
  · simp [Tryz.ntmps127]
    refine vcRet_of [] ?_ rfl
    simp
    rfl
theorem sStep_m (s : SS) (n : Int) (hn : n < 100) (hs : s.Ok n) (t : Int) (ht : t = 1 ∨ t = 2) : Meets Tryz.prog 130 [.ptr 1000000 0, .i t] [s.box] (fun r => r = ⟨unitV, [(s.step t).box], []⟩) := by
  obtain ⟨h1, h2, h3, h4, h5⟩ := hs
  have w1 : IntKind.i64.wrap (s.p1 + 1) = s.p1 + 1 := wrap_in (by omega)
  have w2 : IntKind.i64.wrap (s.p2 + 1) = s.p2 + 1 := wrap_in (by omega)
  have w3 : IntKind.i64.wrap (s.r1 + 1) = s.r1 + 1 := wrap_in (by omega)
  have w4 : IntKind.i64.wrap (s.r2 + 2) = s.r2 + 2 := wrap_in (by omega)
  have W1 : IntKind.i64.wrap 1 = 1 := rfl
  refine meets tbOk mixed Tryz.func130 pl130 rfl rfl ?_
  rcases ht with rfl | rfl
  · by_cases h : s.p1 = 0
    · simp [Tryz.ntmps130, h]
      refine ⟨by kernel_rfl, by kernel_rfl, vcRet_of [] ?_ rfl⟩
      simp [SS.step, h, W1]
    · simp [Tryz.ntmps130, h, w1, w3]
      refine ⟨by kernel_rfl, vcRet_of [] ?_ rfl⟩
      simp [SS.step, h]
  · by_cases h : s.p2 = 0
    · simp [Tryz.ntmps130, h]
      refine ⟨by kernel_rfl, by kernel_rfl, vcRet_of [] ?_ rfl⟩
      simp [SS.step, h, W1]
    · simp [Tryz.ntmps130, h, w2, w4]
      refine ⟨by kernel_rfl, vcRet_of [] ?_ rfl⟩
      simp [SS.step, h]
def SS.enK (s : SS) (k : Nat) : List Int := if k = 0 then [] else if k = 1 then (if s.p1 < 2 then [1] else []) else s.en
inductive EnI (s : SS) : Nat → Sta → Prop
  | mk (k : Nat) (hk : k ≤ 2) : EnI s (10 - k) ⟨21, [(4, .i ((k : Int) + 1)), (3, .rw 3 (s.enK k).length), (0, .ptr 1000000 0)], [(3, .row 3 1 ((s.enK k).map intC) false), (1000000, s.box)]⟩
theorem sEn_m (s : SS) : Meets Tryz.prog 126 [.ptr 1000000 0] [s.box] (fun r => r = ⟨.d (intD s.en), [s.box], []⟩) := by
  refine meets tbOk mixed Tryz.func126 pl126 rfl rfl ?_
  simp [Tryz.ntmps126]
  have W2 : IntKind.i64.wrap 2 = 2 := rfl
  have W3 : IntKind.i64.wrap 3 = 3 := rfl
  refine vc_loop (EnI s) ⟨_, _, .mk 0 (Nat.zero_le _), [.row 3 3 1], _, rfl, by simp [SS.enK]⟩ ?_
  rintro n σ ⟨k, hk⟩
  obtain rfl | rfl | rfl : k = 0 ∨ k = 1 ∨ k = 2 := by omega
  · by_cases h : s.p1 < 2
    · simp [h, SS.enK]
      exact ⟨9, by omega, _, .mk 1 (by omega), [], _, rfl, by simp [SS.enK, h, W2]⟩
    · simp [h, SS.enK]
      exact ⟨9, by omega, _, .mk 1 (by omega), [], _, rfl, by simp [SS.enK, h, W2]⟩
  · by_cases h1 : s.p1 < 2
    · by_cases h : s.p2 < 2
      · simp [h, h1, SS.enK]
        exact ⟨8, by omega, _, .mk 2 (by omega), [], _, rfl, by simp [SS.enK, SS.en, h, h1, W3]⟩
      · simp [h, h1, SS.enK]
        exact ⟨8, by omega, _, .mk 2 (by omega), [], _, rfl, by simp [SS.enK, SS.en, h, h1, W3]⟩
    · by_cases h : s.p2 < 2
      · simp [h, h1, SS.enK]
        exact ⟨8, by omega, _, .mk 2 (by omega), [], _, rfl, by simp [SS.enK, SS.en, h, h1, W3]⟩
      · simp [h, h1, SS.enK]
        exact ⟨8, by omega, _, .mk 2 (by omega), [], _, rfl, by simp [SS.enK, SS.en, h, h1, W3]⟩
  · simp
    refine vcRet_of [] ?_ rfl
    simp [SS.enK]
    rw [List.take_of_length_le (by simp)]
/-- The examples' player, whole. -/
def sumH (s : SS) : Hid := holdH [s.box]
theorem sumLift {f : Nat} {args : List PV} {s s' : SS} {v : PV} (ha : ∀ p ∈ args, p.keys = []) (hv : v.keys = []) (h : Meets Tryz.prog f (.ptr 1000000 0 :: args) [s.box] (fun r => r = ⟨v, [s'.box], []⟩)) :
    Meets Tryz.prog f (.ptr 1000000 0 :: args) [.sys (sumH s)] (fun r => r = ⟨v, [.sys (sumH s')], []⟩) := by
  refine Meets.lift ha (by simp) (h.mono ?_)
  rintro _ rfl
  refine ⟨[1000000], ?_, ?_⟩
  · simp [liftOk, resObj, flatO, isNest]
    exact hv
  · simp [liftObjs, resObj, sumH]
def sumAt (q : Option (List Int)) : Hid := sumH (match q with | some p => SS.at_ p | none => ss0)
def sumP : Plr sumY where
  t := 72
  fS := 129
  fE := 126
  fT := 130
  fF := 127
  fD := 125
  fO := 128
  nS := by kernel_rfl
  nE := by kernel_rfl
  nT := by kernel_rfl
  nF := by kernel_rfl
  nD := by kernel_rfl
  nO := by kernel_rfl
  at_ := sumAt
  mS := fun q _ => sumLift (args := []) (by simp) rfl (sStart_m _)
  mE := fun p _ => sumLift (args := []) (by simp) rfl (sEn_m (SS.at_ p))
  mT := fun p t hp ht h60 => by
    have h := sStep_m (SS.at_ p) p.length (by omega) (SS.ok_at p) t ((mem_en (show t ∈ (SS.at_ p).en from ht)).imp And.left And.left)
    rw [← SS.at_snoc] at h
    exact sumLift (args := [.i t]) (by simp) rfl h
  mF := fun p t _ ht => sumLift (args := [.i t]) (by simp) rfl (sFoot_m (SS.at_ p) t ((mem_en (show t ∈ (SS.at_ p).en from ht)).imp And.left And.left))
  mD := fun p _ => sumLift (args := []) (by simp) rfl (sDone_m (SS.at_ p))
  mO := fun p hp => sumLift (args := []) (by simp) rfl (sOut_m (SS.at_ p) (by have := (SS.ok_at p).sum; have := hp.1; omega))
end Go.Proofs.YtplooifpgmlofaaGreat
namespace Go.Proofs.YtplooifpgmlofaaGreat
open Go.RowKit

/-- A result as it is handed back. -/
structure Rz where
  runs : Int
  stuck : Int
  outs : List ByteArray
  full : Bool
@[simp] def Rz.pv (r : Rz) : PV := .agg [.i r.runs, .i r.stuck, .d (.sl 1 (r.outs.map strC)), .b r.full]
def rz0 : Rz := ⟨0, 0, [], false⟩
@[simp] def pz0 : PV := .agg [.i 0, .i 0, .d (.v (.slice none 0 0)), .b false]
/-- What is found from the beginning. -/
def found (Y : Sys) (f : Cf) : Fd := goX (lfN Y f) Y f 60 [] [] f.switches (⟨0, 0, true, false⟩, [])
def foundR (Y : Sys) (f : Cf) : Rz := ⟨(found Y f).1.runs, (found Y f).1.stuck, sortB (found Y f).2, (found Y f).1.full⟩
abbrev okRuns (most : Int) : Prop := 1 ≤ most ∧ most ≤ 100000
/-- What an exploration hands back: what was found; or the error. -/
inductive ExpR {Y : Sys} (A : Plr Y) (q : Option (List Int)) (ok : Prop) (f : Cf) : Res → Prop
  | yes (h : ok) (p : List Int) (hp : legal Y p) : ExpR A q ok f ⟨.tup [(foundR Y f).pv, .i 0], [.sys (A.at_ (some p))], []⟩
  | no (h : ¬ ok) : ExpR A q ok f ⟨.tup [pz0, .i 7], [.sys (A.at_ q)], []⟩

theorem ready_m (t : Nat) (H : Hid) (most : Int) : Meets Tryz.prog 25 [.ifc t 1000000, .i most] [.sys H] (fun r => r = ⟨.i (if okRuns most then 0 else 7), [.sys H], []⟩) := by
  refine meets tbOk mixed Tryz.func25 pl25 rfl rfl ?_
  by_cases h1 : most < 1
  · simp [Tryz.ntmps25, h1]
    refine vcRet_of [] ?_ rfl
    simp [show ¬ 1 ≤ most by omega]
  · by_cases h2 : 100000 < most
    · simp [Tryz.ntmps25, h1, h2]
      refine vcRet_of [] ?_ rfl
      simp [show ¬ most ≤ 100000 by omega]
    · simp [Tryz.ntmps25, h1, h2]
      refine vcRet_of [] ?_ rfl
      simp [show most ≤ 100000 by omega, show 1 ≤ most by omega]
theorem readyN_m (most : Int) : Meets Tryz.prog 25 [.d (.v .nilIface), .i most] [] (Ret (.i 1)) := by
  refine meets tbOk mixed Tryz.func25 pl25 rfl rfl ?_
  simp [Tryz.ntmps25]
  refine vcRet_of [] ?_ rfl
  simp

section
variable {Y : Sys} (hY : Fair Y) (A : Plr Y)
include hY
theorem exploreR_m (f : Cf) (hm : 0 ≤ f.most ∧ f.most ≤ 100000) (hs : 0 ≤ f.switches ∧ f.switches ≤ 60) (q : Option (List Int)) (hq : ∀ p, q = some p → legal Y p) :
    Meets Tryz.prog 26 [.ifc A.t 1000000, .agg [.i f.most, .i f.switches, .b f.sleeps, .d (.v .nilFunc)]] [.sys (A.at_ q)] (fun r => ∃ p, legal Y p ∧ r = ⟨(foundR Y f).pv, [.sys (A.at_ (some p))], []⟩) := explore_m hY A f hm hs q hq
theorem bound_m (switches most : Int) (q : Option (List Int)) (hq : ∀ p, q = some p → legal Y p) :
    Meets Tryz.prog 40 [.ifc A.t 1000000, .i switches, .i most] [.sys (A.at_ q)]
      (ExpR A q (okRuns most ∧ 0 ≤ switches) ⟨most, min switches 60, false⟩) := by
  refine meets tbOk mixed Tryz.func40 pl40 rfl rfl ?_
  simp [Tryz.ntmps40]
  refine (ready_m A.t (A.at_ q) most).mono ?_
  rintro _ rfl
  by_cases hr : okRuns most
  · by_cases h0 : switches < 0
    · simp [if_pos hr, h0]
      refine vcRet_of [] ?_ (.no fun h => by omega)
      simp
    · simp [if_pos hr, h0]
      refine (exploreR_m hY A ⟨most, min switches 60, false⟩ (by unfold okRuns at hr; constructor <;> dsimp only <;> omega) (by dsimp only; omega) q hq).mono ?_
      rintro _ ⟨p, hp, rfl⟩
      simp
      refine vcRet_of [] ?_ (.yes ⟨hr, by omega⟩ p hp)
      simp
  · simp [if_neg hr]
    refine vcRet_of [] ?_ (.no fun h => hr h.1)
    simp
theorem all_m (most : Int) (q : Option (List Int)) (hq : ∀ p, q = some p → legal Y p) :
    Meets Tryz.prog 19 [.ifc A.t 1000000, .i most] [.sys (A.at_ q)]
      (ExpR A q (okRuns most) ⟨most, 60, false⟩) := by
  refine meets tbOk mixed Tryz.func19 pl19 rfl rfl ?_
  simp [Tryz.ntmps19]
  refine (bound_m hY A 60 most q hq).mono ?_
  rintro _ (⟨hr, p, hp⟩ | hr)
  · simp
    refine vcRet_of [] ?_ (.yes hr.1 p hp)
    simp
  · simp
    refine vcRet_of [] ?_ (.no fun h => hr ⟨h, by omega⟩)
    simp
theorem sleep_m (most : Int) (q : Option (List Int)) (hq : ∀ p, q = some p → legal Y p) :
    Meets Tryz.prog 9 [.ifc A.t 1000000, .i most] [.sys (A.at_ q)]
      (ExpR A q (okRuns most) ⟨most, 60, true⟩) := by
  refine meets tbOk mixed Tryz.func9 pl9 rfl rfl ?_
  simp [Tryz.ntmps9]
  refine (ready_m A.t (A.at_ q) most).mono ?_
  rintro _ rfl
  by_cases hr : okRuns most
  · simp [if_pos hr]
    refine (exploreR_m hY A ⟨most, 60, true⟩ (by unfold okRuns at hr; constructor <;> dsimp only <;> omega) (by dsimp only; omega) q hq).mono ?_
    rintro _ ⟨p, hp, rfl⟩
    simp
    refine vcRet_of [] ?_ (.yes hr p hp)
    simp
  · simp [if_neg hr]
    refine vcRet_of [] ?_ (.no hr)
    simp
end
end Go.Proofs.YtplooifpgmlofaaGreat
