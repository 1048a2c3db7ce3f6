/- The statement ExploreGrowsSaid: for every input the call returns true, and its arguments read afterwards as before. No condition. -/
import Derived.Test.YtplooifpgmlofaaRows
import Derived.ProofKit
import Derived.OpenShut
import Derived.ChangeOld
import Derived.Test.YtplooifpgmlofaaN15
namespace Go.Proofs.Ytplooifpgmlofaa
open Go.RowKit

/-- All runs that begin so, cut or not. -/
def lvX (Y : Sys) : Nat → List Int → Int → List (List Int × Bool)
  | 0, p, _ => [(p, decide (0 < (Y.en p).length))]
  | n + 1, p, left => if Y.en p = [] then [(p, false)] else (Y.en p).flatMap fun t =>
      if (if 0 < lastOf p (Y.en p) ∧ lastOf p (Y.en p) ≠ t then left - 1 else left) < 0 then [] else lvX Y n (p ++ [t]) (if 0 < lastOf p (Y.en p) ∧ lastOf p (Y.en p) ≠ t then left - 1 else left)
theorem flat_sub {α β : Type} {f g : α → List β} : ∀ (l : List α), (∀ x, (f x).Sublist (g x)) → (l.flatMap f).Sublist (l.flatMap g)
  | [], _ => List.Sublist.refl _
  | x :: l, h => by
    rw [List.flatMap_cons, List.flatMap_cons]
    exact (h x).append (flat_sub l h)
theorem lvX_grows (Y : Sys) : ∀ (n : Nat) (p : List Int) (a b : Int), a ≤ b → (lvX Y n p a).Sublist (lvX Y n p b)
  | 0, p, _, _, _ => List.Sublist.refl _
  | n + 1, p, a, b, h => by
    unfold lvX
    split
    · exact List.Sublist.refl _
    · refine flat_sub _ fun t => ?_
      by_cases hc : 0 < lastOf p (Y.en p) ∧ lastOf p (Y.en p) ≠ t
      · rw [if_pos hc, if_pos hc]
        by_cases h1 : a - 1 < 0
        · rw [if_pos h1]; exact List.nil_sublist _
        · rw [if_neg h1, if_neg (by omega)]
          exact lvX_grows Y n _ _ _ (by omega)
      · rw [if_neg hc, if_neg hc]
        by_cases h1 : a < 0
        · rw [if_pos h1]; exact List.nil_sublist _
        · rw [if_neg h1, if_neg (by omega)]
          exact lvX_grows Y n _ _ _ h
/-- The numbers never sink; who has enough has most. -/
structure Inv (f : Cf) (s : Fd) : Prop where
  le : s.1.runs ≤ f.most
  enough : s.1.enough = true → s.1.runs = f.most
def stuckL (Y : Sys) (l : List (List Int × Bool)) : Nat := l.countP fun x => !x.2 && !Y.done x.1
/-- What has been found besides, after some runs. -/
structure Adds (Y : Sys) (s u : Fd) (l : List (List Int × Bool)) : Prop where
  runs : u.1.runs = s.1.runs + l.length
  stuck : u.1.stuck = s.1.stuck + stuckL Y l
  outs : ∀ o, o ∈ u.2 ↔ o ∈ s.2 ∨ ∃ p, (p, false) ∈ l ∧ Y.out p = o
theorem Adds.refl (Y : Sys) (s : Fd) (b : Bool) : Adds Y s ({ s.1 with full := b }, s.2) [] := ⟨by simp, by simp [stuckL], fun o => by simp⟩
theorem Adds.trans {Y : Sys} {s u v : Fd} {l m : List (List Int × Bool)} (h1 : Adds Y s u l) (h2 : Adds Y u v m) : Adds Y s v (l ++ m) := by
  refine ⟨?_, ?_, fun o => ?_⟩
  · rw [h2.runs, h1.runs, List.length_append]; omega
  · rw [h2.stuck, h1.stuck]; unfold stuckL; rw [List.countP_append]; omega
  · rw [h2.outs, h1.outs]
    constructor
    · rintro ((h | ⟨p, h, e⟩) | ⟨p, h, e⟩)
      · exact .inl h
      · exact .inr ⟨p, List.mem_append_left _ h, e⟩
      · exact .inr ⟨p, List.mem_append_right _ h, e⟩
    · rintro (h | ⟨p, h, e⟩)
      · exact .inl (.inl h)
      · rcases List.mem_append.1 h with h | h
        · exact .inl (.inr ⟨p, h, e⟩)
        · exact .inr ⟨p, h, e⟩
theorem mem_putZ {o x : ByteArray} {l : List ByteArray} : x ∈ putZ o l ↔ x ∈ l ∨ o = x := by
  unfold putZ
  split
  · rename_i h
    exact ⟨.inl, fun hx => hx.elim id fun e => e ▸ h⟩
  · rw [List.mem_append, List.mem_singleton]
    exact ⟨fun h => h.imp id Eq.symm, fun h => h.imp id Eq.symm⟩
theorem leaf_adds {Y : Sys} {f : Cf} {p : List Int} {cut : Bool} {s : Fd} (h : Inv f s) : Inv f (lfN Y f p cut s) ∧ s.1.runs ≤ (lfN Y f p cut s).1.runs ∧ ((lfN Y f p cut s).1.runs < f.most ∨ ((lfN Y f p cut s).1.runs = f.most ∧ (lfN Y f p cut s).1.enough = false) → s.1.enough = false → Adds Y s (lfN Y f p cut s) [(p, cut)]) := by
  obtain ⟨h1, h2⟩ := h
  unfold lfN leafN
  split
  · rename_i hr
    exact ⟨⟨h1, fun _ => hr⟩, Int.le_refl _, fun h => by
      rcases h with h | ⟨_, h⟩
      · exact absurd hr (by have h : s.1.runs < f.most := h; omega)
      · cases h⟩
  · rename_i hr
    split
    · rename_i hc
      refine ⟨⟨by dsimp only; omega, fun he => ?_⟩, by dsimp only; omega, fun _ _ => ⟨by simp, by simp [stuckL, hc], fun o => by simp [hc]⟩⟩
      exact absurd (h2 he) hr
    · rename_i hc
      refine ⟨⟨by dsimp only; omega, fun he => by cases he⟩, by dsimp only; omega, fun _ _ => ⟨by simp, ?_, fun o => ?_⟩⟩
      · cases hd : Y.done p <;> simp [stuckL, hc, hd]
      · show o ∈ putZ (Y.out p) s.2 ↔ _
        rw [mem_putZ]
        simp [hc]
/-- What an exploration adds, if it does not come to its bound. -/
theorem goX_adds {Y : Sys} {f : Cf} (hf : f.sleeps = false) : ∀ (n : Nat) (p : List Int) (sl : List Stp) (left : Int) (s : Fd), Inv f s → s.1.enough = false →
    Inv f (goX (lfN Y f) Y f n p sl left s) ∧ s.1.runs ≤ (goX (lfN Y f) Y f n p sl left s).1.runs ∧ ((goX (lfN Y f) Y f n p sl left s).1.runs < f.most → Adds Y s (goX (lfN Y f) Y f n p sl left s) (lvX Y n p left))
  | 0, p, _, _, s, h, he => by
    obtain ⟨g1, g2, g3⟩ := leaf_adds (Y := Y) (p := p) (cut := decide (0 < (Y.en p).length)) h
    exact ⟨g1, g2, fun hl => g3 (.inl hl) he⟩
  | n + 1, p, sl, left, s, h, he => by
    unfold goX lvX
    split
    · obtain ⟨g1, g2, g3⟩ := leaf_adds (Y := Y) (p := p) (cut := false) h
      exact ⟨g1, g2, fun hl => g3 (.inl hl) he⟩
    · have key : ∀ (last : Int) (ts : List Int) (sl : List Stp) (s : Fd), Inv f s → s.1.enough = false →
          Inv f (loopX (goX (lfN Y f) Y f n) Y f p last left ts sl s) ∧ s.1.runs ≤ (loopX (goX (lfN Y f) Y f n) Y f p last left ts sl s).1.runs ∧ ((loopX (goX (lfN Y f) Y f n) Y f p last left ts sl s).1.runs < f.most → Adds Y s (loopX (goX (lfN Y f) Y f n) Y f p last left ts sl s) (ts.flatMap fun t =>
            if (if 0 < last ∧ last ≠ t then left - 1 else left) < 0 then [] else lvX Y n (p ++ [t]) (if 0 < last ∧ last ≠ t then left - 1 else left))) := by
        intro last ts
        induction ts with
        | nil => exact fun sl s h he => ⟨h, Int.le_refl _, fun _ => ⟨by simp [loopX], by simp [loopX, stuckL], fun o => by simp [loopX]⟩⟩
        | cons t ts ih =>
          intro sl s h he
          have h0 : (sl.any fun q => f.sleeps && q.task == t) = false := by simp [hf]
          have hr := goX_adds (Y := Y) hf n (p ++ [t]) (sl.filter fun q => indy q.uses (Y.foot p t)) (if 0 < last ∧ last ≠ t then left - 1 else left) s h he
          unfold loopX
          rw [h0, List.flatMap_cons]
          simp only [Bool.false_eq_true, if_false]
          generalize (if 0 < last ∧ last ≠ t then left - 1 else left) = r at hr ⊢
          by_cases hneg : r < 0
          · rw [if_pos hneg, if_pos hneg, List.nil_append]
            obtain ⟨g1, g2, g3⟩ := ih sl ({ s.1 with full := false }, s.2) ⟨h.le, h.enough⟩ he
            exact ⟨g1, g2, fun hl => ⟨(g3 hl).runs, (g3 hl).stuck, (g3 hl).outs⟩⟩
          · rw [if_neg hneg, if_neg hneg]
            obtain ⟨a1, a2, a3⟩ := hr
            generalize goX (lfN Y f) Y f n (p ++ [t]) (sl.filter fun q => indy q.uses (Y.foot p t)) r s = R at a1 a2 a3
            by_cases hen : R.1.enough = true
            · rw [if_pos hen]
              exact ⟨a1, a2, fun hl => absurd (a1.enough hen) (by omega)⟩
            · rw [if_neg hen]
              obtain ⟨g1, g2, g3⟩ := ih (sl ++ [⟨t, Y.foot p t⟩]) R a1 (by simpa using hen)
              exact ⟨g1, Int.le_trans a2 g2, fun hl => (a3 (by omega)).trans (g3 hl)⟩
      exact key _ _ _ _ h he
theorem found_adds (Y : Sys) (f : Cf) (hf : f.sleeps = false) (hm : 0 ≤ f.most) (hl : (found Y f).1.runs ≠ f.most) : Adds Y (⟨0, 0, true, false⟩, []) (found Y f) (lvX Y 60 [] f.switches) := by
  obtain ⟨g1, g2, g3⟩ := goX_adds (Y := Y) hf 60 [] [] f.switches (⟨0, 0, true, false⟩, []) ⟨hm, fun h => by cases h⟩ rfl
  have := g1.le
  exact g3 (by have hl : (goX (lfN Y f) Y f 60 [] [] f.switches (⟨0, 0, true, false⟩, [])).1.runs ≠ f.most := hl; omega)
/-- The statement Grows, in plain words. -/
theorem grows (Y : Sys) (m a b : Int) (hm : 0 ≤ m) (hab : a ≤ b) (ha : (foundR Y ⟨m, a, false⟩).runs ≠ m) (hb : (foundR Y ⟨m, b, false⟩).runs ≠ m) :
    (∀ o ∈ (foundR Y ⟨m, a, false⟩).outs, o ∈ (foundR Y ⟨m, b, false⟩).outs) ∧ (foundR Y ⟨m, a, false⟩).runs ≤ (foundR Y ⟨m, b, false⟩).runs ∧ (foundR Y ⟨m, a, false⟩).stuck ≤ (foundR Y ⟨m, b, false⟩).stuck := by
  have h1 := found_adds Y ⟨m, a, false⟩ rfl hm ha
  have h2 := found_adds Y ⟨m, b, false⟩ rfl hm hb
  have hs := lvX_grows Y 60 [] a b hab
  refine ⟨fun o ho => ?_, ?_, ?_⟩
  · have ho : o ∈ (found Y ⟨m, a, false⟩).2 := (sortB_self _).mem_iff.1 ho
    refine (sortB_self _).mem_iff.2 ((h2.outs o).2 ?_)
    rcases (h1.outs o).1 ho with h | ⟨p, h, e⟩
    · cases h
    · exact .inr ⟨p, hs.mem h, e⟩
  · show (found Y ⟨m, a, false⟩).1.runs ≤ (found Y ⟨m, b, false⟩).1.runs
    rw [h1.runs, h2.runs]
    have := hs.length_le
    dsimp only at this ⊢
    omega
  · show (found Y ⟨m, a, false⟩).1.stuck ≤ (found Y ⟨m, b, false⟩).1.stuck
    rw [h1.stuck, h2.stuck]
    have : stuckL Y (lvX Y 60 [] a) ≤ stuckL Y (lvX Y 60 [] b) := hs.countP_le
    dsimp only
    omega
open Lo (Sy Lk Qu chk Fits Wide)

theorem foundR_len {Y : Sys} {f : Cf} (hm : 0 ≤ f.most ∧ f.most ≤ 100000) : (foundR Y f).outs.length < 4294967296 := by
  rw [found_seen]; exact seenR_len hm
@[simp] def rzO (r : Rz) : MObj := .box 59 [.i r.runs, .i r.stuck, .d (.sl 1 (r.outs.map strC)), .b r.full]
set_option maxRecDepth 20000 in
set_option maxHeartbeats 4000000 in
theorem lawGrows_m (x : Sx) (hx : Lies x) (hv : Vals x) (a b : Int) (ha : 0 ≤ a ∧ a ≤ 255) (hb : 0 ≤ b ∧ b ≤ 255) : Meets Try.prog 8 [x.pv, .d (.v (.int .u8 a)), .d (.v (.int .u8 b))] [] (Ret (.b true)) := by
  refine meetsP [] tbSOk mixed Try.func8 pl8 rfl rfl ?_
  simp [Try.ntmps8]
  refine (small_m x hx).mono ?_
  rintro _ rfl
  cases hs : smallX x
  · simp
    refine awake_m.mono ?_
    rintro _ rfl
    simp
    refine vcRet_of [] ?_ rfl
    simp
  have hok := small_ok hs hv
  have hF := sys_fair hok
  have hr : okRuns 150 := ⟨by omega, by omega⟩
  have ma : a.tmod 10 = a % 10 := Int.tmod_eq_emod_of_nonneg ha.1
  have mb : b.tmod 10 = b % 10 := Int.tmod_eq_emod_of_nonneg hb.1
  have w1 : IntKind.i64.wrap a = a := wrap_in (by omega)
  have w2 : IntKind.i64.wrap b = b := wrap_in (by omega)
  have w3 : IntKind.i64.wrap (a % 10) = a % 10 := wrap_in (by omega)
  have w4 : IntKind.i64.wrap (b % 10) = b % 10 := wrap_in (by omega)
  have w5 : IntKind.i64.wrap (a % 10 + b % 10) = a % 10 + b % 10 := wrap_in (by omega)
  have hA := hideN hok (boundU_m hF (refQ x hok) (a % 10) 150 hr (by omega) none (fun _ h => by cases h))
  have hB := hideN hok (boundU_m hF (refQ x hok) (a % 10 + b % 10) 150 hr (by omega) none (fun _ h => by cases h))
  have hC := hideN hok (boundU_m hF (refQ x hok) 60 150 hr (by omega) none (fun _ h => by cases h))
  have hD := hideN hok (allU_m hF (refQ x hok) 150 hr none (fun _ h => by cases h))
  rw [show min (a % 10) 60 = a % 10 by omega] at hA
  rw [show min (a % 10 + b % 10) 60 = a % 10 + b % 10 by omega] at hB
  rw [show min (60 : Int) 60 = 60 from rfl] at hC
  have hg := grows (sysX x) 150 (a % 10) (a % 10 + b % 10) (by omega) (by omega)
  have lC := foundR_len (Y := sysX x) (f := ⟨150, 60, false⟩) (by dsimp only; omega)
  have lA := foundR_len (Y := sysX x) (f := ⟨150, a % 10, false⟩) (by dsimp only; omega)
  have lB := foundR_len (Y := sysX x) (f := ⟨150, a % 10 + b % 10, false⟩) (by dsimp only; omega)
  generalize foundR (sysX x) ⟨150, a % 10, false⟩ = RA at hA hg lA
  generalize foundR (sysX x) ⟨150, a % 10 + b % 10, false⟩ = RB at hB hg lB
  generalize foundR (sysX x) ⟨150, 60, false⟩ = RC at hC hD lC
  simp [w1, ma]
  refine hA.mono ?_
  rintro _ rfl
  simp [w1, w2, w5, ma, mb]
  refine hB.mono ?_
  rintro _ rfl
  simp
  refine hC.mono ?_
  rintro _ rfl
  simp
  refine hD.mono ?_
  rintro _ rfl
  simp
  refine (same_m RC RC lC).mono ?_
  rintro _ rfl
  by_cases hA1 : RA.runs = 150
  · simp [hA1]
    refine awake_m.mono ?_
    rintro _ rfl
    simp
    refine vcRet_of [] ?_ rfl
    simp
  by_cases hB1 : RB.runs = 150
  · simp [hA1, hB1]
    refine awake_m.mono ?_
    rintro _ rfl
    simp
    refine vcRet_of [] ?_ rfl
    simp
  obtain ⟨g1, g2, g3⟩ := hg hA1 hB1
  simp [hA1, hB1]
  refine vc_loop (fun n σ => ∃ i : Nat, n = RA.outs.length - i ∧ i ≤ RA.outs.length ∧ σ = ⟨138, [(15, .i i), (7, .ptr 7 0), (9, .ptr 9 0)], [(7, rzO RA), (9, rzO RB)]⟩) ⟨_, _, ⟨0, rfl, Nat.zero_le _, rfl⟩, [], _, rfl, by simp⟩ ?_
  rintro n σ ⟨i, rfl, hi, rfl⟩
  by_cases hlt : i < RA.outs.length
  · obtain ⟨o, ho, e⟩ := at_lt hlt
    simp [hlt]
    refine vc_loop (fun n σ => ∃ k : Nat, n = RB.outs.length - k ∧ k ≤ RB.outs.length ∧ σ = ⟨138, [(17, .i k), (16, .b ((RB.outs.take k).any fun y => decide (o = y))), (15, .i i), (7, .ptr 7 0), (9, .ptr 9 0)], [(7, rzO RA), (9, rzO RB)]⟩) ⟨_, _, ⟨0, rfl, Nat.zero_le _, rfl⟩, [], _, rfl, by simp⟩ ?_
    rintro n σ ⟨k, rfl, hk, rfl⟩
    by_cases hkl : k < RB.outs.length
    · obtain ⟨y, hy, e2⟩ := at_lt hkl
      have htk : (RB.outs.take (k + 1)).any (fun y => decide (o = y)) = ((RB.outs.take k).any (fun y => decide (o = y)) || decide (o = y)) := by
        rw [List.take_add_one, hy, List.any_append]
        simp
      have hq := strEq (a := o) (b := y)
      cases hf : (RB.outs.take k).any fun y => decide (o = y)
      · rw [hf] at htk
        by_cases hoy : o = y
        · rw [decide_eq_true hoy] at hq htk
          simp [hkl, hlt, e, e2, hq]
          refine ⟨by kernel_rfl, ?_⟩
          simp [wrap_succ hkl lB]
          exact ⟨_, by omega, _, ⟨k + 1, rfl, hkl, rfl⟩, [], _, rfl, by simp [htk]⟩
        · rw [decide_eq_false hoy] at hq htk
          simp [hkl, hlt, e, e2, hq]
          refine ⟨by kernel_rfl, ?_⟩
          simp [wrap_succ hkl lB]
          exact ⟨_, by omega, _, ⟨k + 1, rfl, hkl, rfl⟩, [], _, rfl, by simp [htk]⟩
      · rw [hf] at htk
        simp [hkl]
        refine ⟨by kernel_rfl, ?_⟩
        simp [wrap_succ hkl lB]
        exact ⟨_, by omega, _, ⟨k + 1, rfl, hkl, rfl⟩, [], _, rfl, by simp [htk]⟩
    · obtain rfl : k = RB.outs.length := by omega
      have hin : (RB.outs.take RB.outs.length).any (fun y => decide (o = y)) = true := by
        rw [List.take_length, List.any_eq_true]
        exact ⟨o, g1 o (List.mem_of_getElem? ho), by simp⟩
      rw [hin]
      simp [wrap_succ hlt lA]
      exact ⟨_, by omega, _, ⟨i + 1, rfl, hlt, rfl⟩, [], _, rfl, by simp⟩
  · obtain rfl : i = RA.outs.length := by omega
    simp [g2, g3]
    refine awake_m.mono ?_
    rintro _ rfl
    simp
    refine vcRet_of [] ?_ rfl
    simp
end Go.Proofs.Ytplooifpgmlofaa
namespace Go.Proofs.Ytplooifpgmlofaa.exploreGrows
open Go.ChangeShapes Go.WideShapes Go.ChangeAt Go.RowKit

theorem own : ownKnob Try.prog.godebug = none := by kernel_rfl
theorem laidOut : laidOutB Try.prog = true := by kernel_rfl

set_option maxRecDepth 100000 in
theorem lifted (os : Os) (started : os.Started) (H : Type) (enc : TypeId × Value → H) :
    ReturnsInHanded {} Try.checked os 8 .any (Rows.exploreGrowsSpec.pre6 enc Try.prog Try.f8 Rows.exploreGrowsRow.domain false) (Rows.exploreGrowsSpec.post enc Try.prog Try.f8 false true false false) := by
  refine returnsInHanded_of_change (C := Try.checked) own started (by kernel_rfl) Try.func8
    (ChangeSpec.witness6 (enc := enc) (C := Try.checked) false ⟨#[], #[.agg #[.slice none 0 0, .slice none 0 0, .slice none 0 0, .slice none 0 0], .int .u8 0, .int .u8 0], []⟩ 8 (by kernel_rfl) (by kernel_rfl) (by kernel_rfl) (by kernel_rfl)) ?_
  intro W base args ds gs before hval0 hW hcnd _
  have hval : ∀ (j : Nat) t v, Try.f8.params[j]? = some t → args[j]? = some v → Value.okWide Try.prog W .any base t v := hval0
  have hW' := hW
  obtain ⟨p, q, hA0, hV, rfl, hfz, hnd⟩ := hW
  have hA : DataW.TrodAll enc Try.prog W 0 (fun _ => true) true Try.f8.params.toList args.toList ds p := hA0
  rw [Try.params8] at hA hval
  obtain ⟨v0, vs0, d0, ds0, p0, q0, hargs, rfl, rfl, h0, r0⟩ := trodAll_cons hA
  obtain ⟨v1, vs1, d1, ds1, p1, q1, rfl, rfl, rfl, h1, r1⟩ := trodAll_cons r0
  obtain ⟨v2, vs2, d2, ds2, p2, q2, rfl, rfl, rfl, h2, r2⟩ := trodAll_cons r1
  obtain ⟨rfl, rfl, rfl⟩ := trodAll_nil r2
  obtain rfl : args = #[v0, v1, v2] := by cases args; simp_all
  obtain ⟨rfl, rfl⟩ := trodVars_none hV
  have lt0 : ∀ x ∈ p0, x.block < W.heap.size := by obtain ⟨m, hm⟩ := h0; exact DataW.trod_lt m _ _ _ hm
  obtain ⟨x, ⟨hx, hy, hz⟩, g0⟩ := argSx (m := noMap) (hval 0 29 v0 rfl rfl) h0
  have lt1 : ∀ x ∈ p1, x.block < W.heap.size := by obtain ⟨m, hm⟩ := h1; exact DataW.trod_lt m _ _ _ hm
  obtain ⟨a, ha, g1⟩ := argWord (m := noMap) (hval 1 5 v1 rfl rfl) h1
  have lt2 : ∀ x ∈ p2, x.block < W.heap.size := by obtain ⟨m, hm⟩ := h2; exact DataW.trod_lt m _ _ _ hm
  obtain ⟨b, hb, g2⟩ := argWord (m := noMap) (hval 2 5 v2 rfl rfl) h2
  refine (Meets.law (lawGrows_m x hx ⟨hy, hz⟩ a b ha hb) (w := W) (vs := #[v0, v1, v2]) ⟨g0, g1, g2, trivial⟩).mono fun e W' ⟨he, bel⟩ => ?_
  subst he
  exact ⟨_, rfl, _, _, _, [], _, [], hW', trodAll_mk1 (shut_bool Try.underlying4 _), (trodAll_cons_mk (Below.trod laidOut (by kernel_rfl) (of_decide_eq_true (by kernel_rfl)) h0 bel lt0) (trodAll_cons_mk (Below.trod laidOut (by kernel_rfl) (of_decide_eq_true (by kernel_rfl)) h1 bel lt1) (trodAll_cons_mk (Below.trod laidOut (by kernel_rfl) (of_decide_eq_true (by kernel_rfl)) h2 bel lt2) trodAll_mk0))), rfl, bel.frame _, fun h => by cases h⟩
end Go.Proofs.Ytplooifpgmlofaa.exploreGrows
namespace Go.Proofs.Ytplooifpgmlofaa
theorem exploreGrows_holds : Rows.ExploreGrowsSaid :=
  OpenClaim.holds_of_wide 8 Try.f8 rfl rfl rfl rfl rfl rfl rfl ⟨rfl, rfl, rfl, rfl, rfl⟩ rfl rfl rfl rfl rfl (by kernel_rfl) Try.func8 (by kernel_rfl)
    (of_decide_eq_true (by kernel_rfl)) (by unfold Func.isWrapper; rw [if_neg (of_decide_eq_false (by kernel_rfl))]; exact ⟨rfl, rfl⟩)
    (fun os started H enc _ => exploreGrows.lifted os started H enc)
#print axioms exploreGrows_holds
end Go.Proofs.Ytplooifpgmlofaa
