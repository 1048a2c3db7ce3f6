/- Contracts: the program s Check. No condition. -/
import Derived.Test.YticgikpccbgjbaaK2
namespace Go.Proofs.Yticgikpccbgjbaa
open Go.RowKit

/-- A set of numbers as a map. -/
def mset (ps : List Int) : List (Value × Value) := ps.map fun p => (.int .i64 p, .bool true)
def ins (a : Int) (ps : List Int) : List Int := if a ∈ ps then ps else ps ++ [a]
@[simp] theorem mset_nil : mset [] = [] := rfl
theorem same_int (k : IntKind) (a p : Int) : Instr.sameNow (.int k) (.int .i64 a) (.int .i64 p) = some (a == p) := by simp [Instr.sameNow]
@[simp] theorem find_mset (k : IntKind) (a : Int) : ∀ (ps : List Int), mFind (.int k) (.int .i64 a) (mset ps) = some (if a ∈ ps then some (.bool true) else none)
  | [] => rfl
  | p :: ps => by
    have ih := find_mset k a ps
    unfold mset at ih ⊢
    simp only [List.map_cons, mFind, same_int]
    by_cases h : a = p
    · simp [h]
    · rw [show (a == p) = false by simp [h]]
      simp [h, ih]
@[simp] theorem put_mset (k : IntKind) (a : Int) : ∀ (ps : List Int), mPut (.int k) (.int .i64 a) (.bool true) (mset ps) = some (mset (ins a ps))
  | [] => rfl
  | p :: ps => by
    have ih := put_mset k a ps
    unfold mset at ih ⊢
    simp only [List.map_cons, mPut, same_int]
    by_cases h : a = p
    · simp [h, ins]
    · rw [show (a == p) = false by simp [h]]
      simp only [ih, Option.map_some, ins, List.mem_cons, h, false_or]
      split <;> simp
theorem probes_ins {bs : List Bk} {k : Nat} {b : Bk} (h : bs[k]? = some b) (h0 : b.probe ≠ 0) (hn : b.probe ∉ probes (bs.take k)) : ins b.probe (probes (bs.take k)) = probes (bs.take (k + 1)) := by
  rw [probes_succ h, ins, if_neg hn, if_neg h0]
theorem probes_skip {bs : List Bk} {k : Nat} {b : Bk} (h : bs[k]? = some b) (h0 : b.probe = 0) : probes (bs.take (k + 1)) = probes (bs.take k) := by
  rw [probes_succ h, if_pos h0, List.append_nil]
set_option maxRecDepth 100000 in
set_option maxHeartbeats 8000000 in
theorem check_m (s : Hs) (hl : s.bs.length < 4294967296) : Meets Try.prog 20 [s.pv] [] (Ret (.i (chk s))) := by
  refine meetsH [] tbOk mixed Try.func20 pl20 rfl rfl ?_
  simp [Try.ntmps20]
  refine (valid_m s.c).mono ?_
  rintro _ rfl
  cases hv : validC s.c
  · simp
    refine vcRet_of [] ?_ rfl
    simp [chk, hv]
  have c6 : formOk s = false → chk s = 6 := fun h => by simp [chk, hv, h]
  by_cases h1 : s.now < 0
  · simp [h1]
    refine vcRet_of [] ?_ rfl
    rw [c6 (by simp [formOk, inB]; omega)]; simp
  by_cases h2 : 1000000000000 < s.now
  · simp [h1, h2]
    refine vcRet_of [] ?_ rfl
    rw [c6 (by simp [formOk, inB]; omega)]; simp
  by_cases h3 : (s.bs.length : Int) = s.c.n
  case neg =>
    simp [h1, h2, h3]
    refine vcRet_of [] ?_ rfl
    rw [c6 (by simp [formOk, inB, h3])]; simp
  have hform : formOk s = true := form_iff.2 ⟨⟨by omega, by omega⟩, h3⟩
  have hf : Fine s := ⟨hv, by omega, by omega, h3⟩
  simp [h1, h2, h3]
  refine (firsts_m s.c).mono ?_
  rintro _ rfl
  simp
  refine vc_range ⟨59, [.ptr 32 0], [32], [.box 23 s.c.ps], fsts s.c, maskOf [32, 1, 2, 3], fun i σ => i ≤ s.bs.length ∧ okTo s i = true ∧ σ = ⟨151, [(32, .clo 59 [.ptr 32 0]), (1, .ptr 1 0), (2, .ptr 2 0), (3, .ptr 3 0)], [(32, .box 23 s.c.ps), (1, .box 26 s.ps), (2, .box 30 [.any]), (3, .box 90 [.mp 29]), (29, .map (mset (probes (s.bs.take i))))]⟩⟩ (firsts_it s.c hv) (by kernel_rfl) (fun x hx => fsts_mem hx) ?_ ?_ ?_ ?_
  · exact ⟨_, ⟨Nat.zero_le _, rfl, rfl⟩, [], _, rfl, by simp [probes]⟩
  · rintro i σ ⟨_, _, rfl⟩
    simp
  · rintro i x σ ⟨hi, hok, rfl⟩ hx
    have hlt0 : i < s.c.n.toNat := by rw [← fsts_len]; exact lt_some hx
    have hlt : i < s.bs.length := by omega
    obtain ⟨b, hb, e⟩ := at_lt hlt
    obtain rfl : [.i (i : Int), .i (fst s.c i)] = x := by
      rw [fsts_at hlt0] at hx; exact Option.some.inj hx
    have hiv := hf.iv
    have htm := hf.tm
    have hsum := hf.sum
    have hf0 := fst_nonneg hf.c i
    have hf1 := fst_le hf.c (i := i) (by omega)
    have hiv0 : s.c.iv ≠ 0 := by omega
    have out : okAt s i b = false → chk s = 6 := fun h => by simp [chk, hv, hform, okTo_bad hlt hb h]
    have badA : okA s i b = false → okAt s i b = false := fun h => by simp [okAt, h]
    obtain ⟨ps, hps⟩ : ∃ ps, probes (s.bs.take i) = ps := ⟨_, rfl⟩
    simp only [hps]
    by_cases a1 : 0 ≤ b.run
    case neg =>
      have hA := out (badA (by simp only [okA, Bool.and_eq_false_iff, decide_eq_false_iff_not]; omega))
      by_cases p0 : b.probe = 0
      · simp [hlt, e, a1, p0]
        refine ⟨by kernel_rfl, vcRet_of [] ?_ rfl⟩
        simp [hA]
      · simp [hlt, e, a1, p0]
        refine ⟨by kernel_rfl, by kernel_rfl, vcRet_of [] ?_ rfl⟩
        simp [hA]
    simp [hlt, e, a1]
    refine effCall (limit_m s.c b.up) ?_
    by_cases a2 : b.run < lim s.c b.up
    case neg =>
      have hA := out (badA (by simp only [okA, Bool.and_eq_false_iff, decide_eq_false_iff_not]; omega))
      by_cases p0 : b.probe = 0
      · simp [a2, p0]
        refine ⟨by kernel_rfl, vcRet_of [] ?_ rfl⟩
        simp [hA]
      · simp [a2, p0]
        refine ⟨by kernel_rfl, by kernel_rfl, vcRet_of [] ?_ rfl⟩
        simp [hA]
    by_cases a3 : fst s.c i ≤ b.next
    case neg =>
      have hA := out (badA (by simp only [okA, Bool.and_eq_false_iff, decide_eq_false_iff_not]; omega))
      by_cases p0 : b.probe = 0
      · simp [a2, a3, p0]
        refine ⟨by kernel_rfl, vcRet_of [] ?_ rfl⟩
        simp [hA]
      · simp [a2, a3, p0]
        refine ⟨by kernel_rfl, by kernel_rfl, vcRet_of [] ?_ rfl⟩
        simp [hA]
    by_cases a4 : b.next ≤ s.now + s.c.iv
    case neg =>
      have hA := out (badA (by simp only [okA, Bool.and_eq_false_iff, decide_eq_false_iff_not]; omega))
      by_cases p0 : b.probe = 0
      · simp [a2, a3, hsum, a4, p0]
        refine ⟨by kernel_rfl, vcRet_of [] ?_ rfl⟩
        simp [hA]
      · simp [a2, a3, hsum, a4, p0]
        refine ⟨by kernel_rfl, by kernel_rfl, vcRet_of [] ?_ rfl⟩
        simp [hA]
    have hw : IntKind.i64.wrap (b.next - fst s.c i) = b.next - fst s.c i := small_wrap (by omega)
    have a5w : (b.next - fst s.c i).tmod s.c.iv = (b.next - fst s.c i) % s.c.iv := Int.tmod_eq_emod_of_nonneg (by omega)
    by_cases a5 : (b.next - fst s.c i) % s.c.iv = 0
    case neg =>
      have hA := out (badA (by simp only [okA, Bool.and_eq_false_iff, decide_eq_false_iff_not]; omega))
      by_cases p0 : b.probe = 0
      · simp [a2, a3, hsum, a4, hw, hiv0, a5w, a5, p0]
        refine ⟨by kernel_rfl, vcRet_of [] ?_ rfl⟩
        simp [hA]
      · simp [a2, a3, hsum, a4, hw, hiv0, a5w, a5, p0]
        refine ⟨by kernel_rfl, by kernel_rfl, vcRet_of [] ?_ rfl⟩
        simp [hA]
    have hA : okA s i b = true := okA_iff.2 ⟨a1, a2, a3, a4, a5⟩
    have fin : ∀ q, okB s (probes (s.bs.take i)) b = q → okAt s i b = q := fun q h => by simp [okAt, hA, h]
    by_cases p0 : b.probe = 0
    · by_cases p1 : b.began = 0
      · simp [a2, a3, hsum, a4, hw, hiv0, a5w, a5, p0, p1]
        refine ⟨by kernel_rfl, _, ⟨hlt, ?_, rfl⟩, [], _, rfl, ?_⟩
        · rw [okTo_succ hb, hok, fin true (by simp [okB, p0, p1])]; rfl
        · simp [probes_skip hb p0, hps]
      · have hA := out (fin false (by simp [okB, p0, p1]))
        simp [a2, a3, hsum, a4, hw, hiv0, a5w, a5, p0, p1]
        refine ⟨by kernel_rfl, vcRet_of [] ?_ rfl⟩
        simp [hA]
    have bad : ¬ 0 < b.probe ∨ ¬ b.probe ≤ 1000000000 ∨ b.probe ∈ ps ∨ ¬ 0 ≤ b.began ∨ ¬ b.began ≤ s.now ∨ ¬ s.now < b.began + s.c.tm ∨ ¬ b.began < b.next ∨ ¬ b.next - b.began ≤ s.c.iv → chk s = 6 := fun h => out (fin _ (by
      rw [okB, if_neg p0, hps]
      simp only [Bool.and_eq_false_iff, decide_eq_false_iff_not, Bool.not_eq_false', decide_eq_true_eq]; exact h))
    simp [a2, a3, hsum, a4, hw, hiv0, a5w, a5, p0, -vc_drawn]
    refine ⟨by kernel_rfl, ?_⟩
    by_cases p1 : 0 < b.probe
    case neg =>
      have hA := bad (by simp only [p1, not_false_eq_true, true_or, or_true])
      simp [p1]
      refine ⟨by kernel_rfl, vcRet_of [] ?_ rfl⟩
      simp [hA]
    by_cases p2 : b.probe ≤ 1000000000
    case neg =>
      have hA := bad (by simp only [p2, not_false_eq_true, true_or, or_true])
      simp [p1, p2]
      refine ⟨by kernel_rfl, vcRet_of [] ?_ rfl⟩
      simp [hA]
    by_cases p3 : b.probe ∈ ps
    case pos =>
      have hA := bad (by simp only [p3, not_false_eq_true, true_or, or_true])
      simp [p1, p2, p3]
      refine ⟨by kernel_rfl, vcRet_of [] ?_ rfl⟩
      simp [hA]
    by_cases p4 : 0 ≤ b.began
    case neg =>
      have hA := bad (by simp only [p4, not_false_eq_true, true_or, or_true])
      simp [p1, p2, p3, p4]
      refine ⟨by kernel_rfl, vcRet_of [] ?_ rfl⟩
      simp [hA]
    by_cases p5 : b.began ≤ s.now
    case neg =>
      have hA := bad (by simp only [p5, not_false_eq_true, true_or, or_true])
      simp [p1, p2, p3, p4, p5]
      refine ⟨by kernel_rfl, vcRet_of [] ?_ rfl⟩
      simp [hA]
    simp [p1, p2, p3, p4, p5]
    refine effCall (deadline_m s b) ?_
    have w6 : IntKind.i64.wrap (b.began + s.c.tm) = b.began + s.c.tm := small_wrap (by have := hf.n1; omega)
    rw [w6]
    by_cases p6 : s.now < b.began + s.c.tm
    case neg =>
      have hA := bad (by simp only [p6, not_false_eq_true, true_or, or_true])
      simp [p6]
      refine ⟨by kernel_rfl, vcRet_of [] ?_ rfl⟩
      simp [hA]
    by_cases p7 : b.began < b.next
    case neg =>
      have hA := bad (by simp only [p7, not_false_eq_true, true_or, or_true])
      simp [p6, p7]
      refine ⟨by kernel_rfl, vcRet_of [] ?_ rfl⟩
      simp [hA]
    have w8 : IntKind.i64.wrap (b.next - b.began) = b.next - b.began := small_wrap (by have := hf.n1; omega)
    by_cases p8 : b.next - b.began ≤ s.c.iv
    case neg =>
      have hA := bad (by simp only [p8, not_false_eq_true, true_or, or_true])
      simp [p6, p7, w8, p8]
      refine ⟨by kernel_rfl, vcRet_of [] ?_ rfl⟩
      simp [hA]
    simp [p6, p7, w8, p8]
    refine ⟨by kernel_rfl, _, ⟨hlt, ?_, rfl⟩, [], _, rfl, ?_⟩
    · rw [okTo_succ hb, hok, fin true (by rw [okB, if_neg p0, hps]; simp [p1, p2, p3, p4, p5, p6, p7, p8])]; rfl
    · simp [← probes_ins hb p0 (by rw [hps]; exact p3), hps]
  · rintro σ ⟨h0, hok, rfl⟩
    have hok : okTo s (fsts s.c).length = true := hok
    rw [fsts_len, show s.c.n.toNat = s.bs.length by omega] at hok
    simp [fsts_len]
    refine vcRet_of [] ?_ rfl
    simp [chk, hv, hform, hok]
end Go.Proofs.Yticgikpccbgjbaa
