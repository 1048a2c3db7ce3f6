/- The reference explores. No condition. -/
import Derived.Test.YtplooifpgmlofaaGreatN8
import Derived.Test.YtplooifpgmlofaaGreatN13
import Derived.Test.YtplooifpgmlofaaGreatTabA
import Derived.Test.YtplooifpgmlofaaGreatN2
namespace Go.Proofs.YtplooifpgmlofaaGreat
open Go.RowKit

theorem in_m (xs : List Int) (v : Int) (hl : xs.length < 4294967296) : Meets Tryz.prog 51 [.d (intD xs), .i v] [] (Ret (.b (decide (v ∈ xs)))) := by
  refine meets tbSOk mixed Tryz.func51 pl51 rfl rfl ?_
  simp [Tryz.ntmps51]
  refine vc_loop (fun n σ => ∃ k : Nat, n = xs.length - k ∧ k ≤ xs.length ∧ noneTo (fun x => v == x) xs k ∧ σ = ⟨18, [(5, .i k), (0, .d (intD xs)), (1, .i v)], []⟩) ⟨_, _, ⟨0, rfl, Nat.zero_le _, noneTo_zero _ _, rfl⟩, [], _, rfl, by simp⟩ ?_
  rintro n σ ⟨k, rfl, hk, hn, rfl⟩
  by_cases hlt : k < xs.length
  · obtain ⟨x, hx, e⟩ := at_lt hlt
    by_cases hv : x = v
    · simp [hlt, e, hv]
      refine vcRet_of [] ?_ rfl
      have := List.mem_of_getElem? hx
      rw [hv] at this
      simp [this]
    · simp [hlt, e, hv, wrap_succ hlt hl]
      exact ⟨_, by omega, _, ⟨k + 1, rfl, hlt, noneTo_succ hn hx (by simp; exact fun h => hv h.symm), rfl⟩, [], _, rfl, by simp⟩
  · obtain rfl : k = xs.length := by omega
    simp
    refine vcRet_of [] ?_ rfl
    have := noneTo_any hn
    rw [any_eq] at this
    simpa using this
theorem asleep_m (xs : List Stp) (v : Int) (hl : xs.length < 4294967296) : Meets Tryz.prog 66 [.d (stD xs), .i v] [] (Ret (.b (xs.any fun s => s.task == v))) := by
  refine meets tbSOk mixed Tryz.func66 pl66 rfl rfl ?_
  simp [Tryz.ntmps66]
  refine vc_loop (fun n σ => ∃ k : Nat, n = xs.length - k ∧ k ≤ xs.length ∧ noneTo (fun s => s.task == v) xs k ∧ σ = ⟨19, [(5, .i k), (0, .d (stD xs)), (1, .i v)], []⟩) ⟨_, _, ⟨0, rfl, Nat.zero_le _, noneTo_zero _ _, rfl⟩, [], _, rfl, by simp⟩ ?_
  rintro n σ ⟨k, rfl, hk, hn, rfl⟩
  by_cases hlt : k < xs.length
  · obtain ⟨x, hx, e⟩ := at_lt hlt
    by_cases hv : x.task = v
    · simp [hlt, e, hv]
      refine vcRet_of [] ?_ rfl
      have := any_hit (p := fun s => s.task == v) hx (by simp [hv])
      simp only [this]
      simp
    · simp [hlt, e, hv, wrap_succ hlt hl]
      exact ⟨_, by omega, _, ⟨k + 1, rfl, hlt, noneTo_succ hn hx (by simp [hv]), rfl⟩, [], _, rfl, by simp⟩
  · obtain rfl : k = xs.length := by omega
    simp
    refine vcRet_of [] ?_ rfl
    have := noneTo_any hn
    simp only [this]
    simp
structure RPlr (Y : Sys) extends Plr Y where
  eS : fS = 28
  eE : fE = 52
  eT : fT = 30
  eF : fF = 29
  eD : fD = 74
  eO : fO = 53
def refQ (x : Sx) (h : XOk x) : RPlr (sysX x) := { refP x h with eS := rfl, eE := rfl, eT := rfl, eF := rfl, eD := rfl, eO := rfl }
section
variable {Y : Sys} (A : RPlr Y)
theorem RPlr.start (q : Option (List Int)) (hq : ∀ p, q = some p → legal Y p) : Meets Tryz.prog 28 [.ptr 1000000 0] [.sys (A.at_ q)] (fun r => r = ⟨unitV, [.sys (A.at_ (some []))], []⟩) := by
  have := A.mS q hq
  rwa [A.eS] at this
theorem RPlr.enabled (p : List Int) (hp : legal Y p) : Meets Tryz.prog 52 [.ptr 1000000 0] [.sys (A.at_ (some p))] (fun r => r = ⟨.d (intD (Y.en p)), [.sys (A.at_ (some p))], []⟩) := by
  have := A.mE p hp
  rwa [A.eE] at this
theorem RPlr.step (p : List Int) (t : Int) (hp : legal Y p) (ht : t ∈ Y.en p) (hl : p.length < 60) : Meets Tryz.prog 30 [.ptr 1000000 0, .i t] [.sys (A.at_ (some p))] (fun r => r = ⟨unitV, [.sys (A.at_ (some (p ++ [t])))], []⟩) := by
  have := A.mT p t hp ht hl
  rwa [A.eT] at this
theorem RPlr.uses (p : List Int) (t : Int) (hp : legal Y p) (ht : t ∈ Y.en p) : Meets Tryz.prog 29 [.ptr 1000000 0, .i t] [.sys (A.at_ (some p))] (fun r => r = ⟨.d (fpD (Y.foot p t)), [.sys (A.at_ (some p))], []⟩) := by
  have := A.mF p t hp ht
  rwa [A.eF] at this
theorem RPlr.ended (p : List Int) (hp : legal Y p) : Meets Tryz.prog 74 [.ptr 1000000 0] [.sys (A.at_ (some p))] (fun r => r = ⟨.b (Y.done p), [.sys (A.at_ (some p))], []⟩) := by
  have := A.mD p hp
  rwa [A.eD] at this
theorem RPlr.outcome (p : List Int) (hp : legal Y p) : Meets Tryz.prog 53 [.ptr 1000000 0] [.sys (A.at_ (some p))] (fun r => r = ⟨.d (.v (.string (Y.out p))), [.sys (A.at_ (some p))], []⟩) := by
  have := A.mO p hp
  rwa [A.eO] at this
theorem replay_m (q : Option (List Int)) (hq : ∀ p, q = some p → legal Y p) (p : List Int) (hp : legal Y p) :
    Meets Tryz.prog 64 [.ptr 1000000 0, .d (intD p)] [.sys (A.at_ q)] (fun r => r = ⟨unitV, [.sys (A.at_ (some p))], []⟩) := by
  refine meets tbSOk mixed Tryz.func64 pl64 rfl rfl ?_
  simp [Tryz.ntmps64]
  refine (A.start q hq).mono ?_
  rintro _ rfl
  simp
  have h60 := hp.1
  refine vc_loop (fun n σ => ∃ k : Nat, n = p.length - k ∧ k ≤ p.length ∧ σ = ⟨19, [(4, .i k), (0, .ptr 1000000 0), (1, .d (intD p))], extMem 1000000 [.sys (A.at_ (some (p.take k)))]⟩) ⟨_, _, ⟨0, rfl, Nat.zero_le _, rfl⟩, [], _, rfl, by simp [extMem]⟩ ?_
  rintro n σ ⟨k, rfl, hk, rfl⟩
  by_cases hlt : k < p.length
  · obtain ⟨x, hx, e⟩ := at_lt hlt
    have htk : p.take (k + 1) = p.take k ++ [x] := by rw [List.take_add_one, hx]; rfl
    simp [hlt, e, extMem]
    refine (A.step (p.take k) x (legal_take hp k) (legal_at hp hx) (by rw [List.length_take]; omega)).mono ?_
    rintro _ rfl
    simp [wrap_succ hlt (show p.length < 4294967296 by omega)]
    exact ⟨_, by omega, _, ⟨k + 1, rfl, hlt, rfl⟩, [], _, rfl, by simp [htk]⟩
  · obtain rfl : k = p.length := by omega
    simp [extMem]
    refine vcRet_of [] ?_ rfl
    simp
end
structure Rs where
  outs : List ByteArray
  runs : List (List Int)
  fd : List Int
  has : Bool
abbrev FdR := FdB Rs
def lowR (o : ByteArray) (l : List ByteArray) : Nat := l.findIdx fun x => !Op.bytesLess x.toList o.toList
def addR (o : ByteArray) (l : List ByteArray) : List ByteArray := if l[lowR o l]? = some o then l else l.take (lowR o l) ++ o :: l.drop (lowR o l)
def leafR (Y : Sys) (f : Cf) (w : Option ByteArray) (p : List Int) (cut : Bool) (s : FdR) : FdR :=
  if s.1.runs = f.most then ({ s.1 with full := false, enough := true }, s.2)
  else if cut then ({ s.1 with runs := s.1.runs + 1, full := false }, s.2)
  else ({ s.1 with runs := s.1.runs + 1, stuck := if Y.done p then s.1.stuck else s.1.stuck + 1, enough := decide (w = some (Y.out p)) },
    ⟨addR (Y.out p) s.2.outs, s.2.runs ++ [p], if w = some (Y.out p) then p else s.2.fd, s.2.has || decide (w = some (Y.out p))⟩)
@[simp] def searchO (f : Cf) (w : Option ByteArray) (s : FdR) (kp kr : Nat) : MObj :=
  .box 81 [.ptr kp 0, .i f.most, .i f.switches, .b f.sleeps, .b s.1.enough, .b w.isSome, .d (.v (.string (w.getD ByteArray.empty))), .d (intD s.2.fd), .b s.2.has, .rw kr s.2.runs.length, .i s.1.runs, .i s.1.stuck, .d (.sl 1 (s.2.outs.map strC)), .b s.1.full]
@[simp] def runC (p : List Int) : List D := [intD p]
@[simp] def runsO (l : List (List Int)) : MObj := .row 24 1 (l.map runC) false
@[simp] def runsG (l : List (List Int)) : MObj := .grown 24 1 (l.map runC)
theorem lowR_le (o : ByteArray) (l : List ByteArray) : lowR o l ≤ l.length := List.findIdx_le_length
theorem lowR_hit {o : ByteArray} {l : List ByteArray} {k : Nat} {x : ByteArray} (hx : l[k]? = some x) (h : Op.bytesLess x.toList o.toList = false) (hn : noneTo (fun x => !Op.bytesLess x.toList o.toList) l k) : lowR o l = k := by
  obtain ⟨hk, e⟩ := List.getElem?_eq_some_iff.1 hx
  unfold lowR
  rw [List.findIdx_eq hk]
  refine ⟨by rw [e, h]; rfl, fun j hj => ?_⟩
  exact hn j _ hj (List.getElem?_eq_getElem (by omega))
theorem lowR_miss {o : ByteArray} {l : List ByteArray} (hn : noneTo (fun x => !Op.bytesLess x.toList o.toList) l l.length) : lowR o l = l.length := by
  unfold lowR
  rw [List.findIdx_eq_length]
  intro x hx
  obtain ⟨i, hi, rfl⟩ := List.mem_iff_getElem.1 hx
  exact hn i _ hi (List.getElem?_eq_getElem hi)
set_option maxHeartbeats 1000000 in
theorem add_m (f : Cf) (w : Option ByteArray) (s : FdR) (H : Hid) (o : ByteArray) (hl : s.2.outs.length < 1000000) :
    Meets Tryz.prog 75 [.ptr 1000000 0, .d (.v (.string o))] [searchO f w s 1000001 1000002, .sys H, runsO s.2.runs]
      (fun r => r = ⟨unitV, [searchO f w (s.1, { s.2 with outs := addR o s.2.outs }) 1000001 1000002, .sys H, runsO s.2.runs], []⟩) := by
  refine meetsP [] tbSOk mixed Tryz.func75 pl75 rfl rfl ?_
  simp [Tryz.ntmps75]
  refine vc_loop (fun n σ => ∃ k : Nat, n = s.2.outs.length - k ∧ k ≤ s.2.outs.length ∧ noneTo (fun x => !Op.bytesLess x.toList o.toList) s.2.outs k ∧ σ = ⟨71, [(4, .i k), (0, .ptr 1000000 0), (1, .d (.v (.string o)))], extMem 1000000 [searchO f w s 1000001 1000002, .sys H, runsO s.2.runs]⟩) ⟨_, _, ⟨0, rfl, Nat.zero_le _, noneTo_zero _ _, rfl⟩, [], _, rfl, by simp [extMem]⟩ ?_
  rintro n σ ⟨k, rfl, hk, hn, rfl⟩
  by_cases hlt : k < s.2.outs.length
  · obtain ⟨x, hx, e⟩ := at_lt hlt
    have hs := strEq (a := x) (b := o)
    cases hb : Op.bytesLess x.toList o.toList
    · have hlo := lowR_hit hx hb hn
      by_cases hxo : x = o
      · have ha : addR o s.2.outs = s.2.outs := by unfold addR; rw [hlo, hx, hxo, if_pos rfl]
        rw [hxo] at hb e
        set_option maxRecDepth 8000 in simp [hlt, e, hb, extMem]
        refine vcRet_of [] ?_ rfl
        simp [ha]
      · have ha : addR o s.2.outs = s.2.outs.take k ++ o :: s.2.outs.drop k := by unfold addR; rw [hlo, hx, if_neg (by simpa using hxo)]
        have hkk : k ≤ s.2.outs.length := by omega
        have hm : min k s.2.outs.length = k := by omega
        rw [decide_eq_false hxo] at hs
        set_option maxRecDepth 8000 in simp [hlt, e, hb, hs, hkk, hm, extMem]
        repeat (first | refine And.intro (by omega) ?_ | refine And.intro (by kernel_rfl) ?_)
        refine vcRet_of [] ?_ rfl
        simp [ha, List.take_of_length_le]
    · simp [hlt, e, hb, extMem, wrap_succ hlt (show s.2.outs.length < 4294967296 by omega)]
      exact ⟨_, by omega, _, ⟨k + 1, rfl, hlt, noneTo_succ hn hx (by simp [hb]), rfl⟩, [], _, rfl, by simp⟩
  · obtain rfl : k = s.2.outs.length := by omega
    have hlo := lowR_miss hn
    have ha : addR o s.2.outs = s.2.outs.take s.2.outs.length ++ o :: s.2.outs.drop s.2.outs.length := by unfold addR; rw [hlo, if_neg (by simp)]
    set_option maxRecDepth 8000 in simp [extMem]
    repeat (first | refine And.intro (by omega) ?_ | refine And.intro (by kernel_rfl) ?_)
    refine vcRet_of [] ?_ rfl
    simp [ha, List.take_of_length_le]
end Go.Proofs.YtplooifpgmlofaaGreat
namespace Go.Proofs.YtplooifpgmlofaaGreat
open Go.RowKit

structure FdR.Ok (f : Cf) (s : FdR) : Prop where
  ct : Ct.Ok f s.1
  outs : (s.2.outs.length : Int) ≤ s.1.runs
  runs : (s.2.runs.length : Int) ≤ s.1.runs
theorem addR_len (o : ByteArray) (l : List ByteArray) : (addR o l).length ≤ l.length + 1 := by
  have := lowR_le o l
  unfold addR
  split
  · omega
  · simp; omega
theorem leafR_ok {Y : Sys} {f : Cf} {w : Option ByteArray} {p : List Int} {cut : Bool} {s : FdR} (h : FdR.Ok f s) : FdR.Ok f (leafR Y f w p cut s) := by
  obtain ⟨⟨h1, h2, h3, h4, h5⟩, h6, h7⟩ := h
  unfold leafR
  split
  · exact ⟨⟨h1, h2, h3, h4, h5⟩, h6, h7⟩
  · split
    · exact ⟨⟨h1, by dsimp only; omega, by dsimp only; omega, h4, by dsimp only; omega⟩, by dsimp only; omega, by dsimp only; omega⟩
    · have := addR_len (Y.out p) s.2.outs
      refine ⟨⟨h1, by dsimp only; omega, by dsimp only; omega, ?_, ?_⟩, by dsimp only; omega, by simp; omega⟩
      · dsimp only; split <;> omega
      · dsimp only; split <;> omega
set_option maxHeartbeats 2000000 in
set_option maxRecDepth 20000 in
theorem refLeaf_m {Y : Sys} (A : RPlr Y) (f : Cf) (w : Option ByteArray) (s : FdR) (hs : FdR.Ok f s) (hn : s.1.enough = false) (p : List Int) (hp : legal Y p) (cut : Bool) :
    Meets Tryz.prog 65 [.ptr 1000000 0, .d (intD p), .b cut] [searchO f w s 1000001 1000002, .sys (A.at_ (some p)), runsO s.2.runs]
      (fun r => r = ⟨unitV, [searchO f w (leafR Y f w p cut s) 1000001 1000002, .sys (A.at_ (some p)), runsG (leafR Y f w p cut s).2.runs], []⟩) := by
  refine meetsP [(7, [.mark 1000002])] tbSOk mixed Tryz.func65 pl65 rfl rfl ?_
  obtain ⟨⟨h1, h2, h3, h4, h5⟩, h6, h7⟩ := hs
  have h60 := hp.1
  have hw1 : IntKind.i64.wrap (s.1.runs + 1) = s.1.runs + 1 := wrap_in (by omega)
  have hw2 : IntKind.i64.wrap (s.1.stuck + 1) = s.1.stuck + 1 := wrap_in (by omega)
  by_cases hr : s.1.runs = f.most
  · simp [Tryz.ntmps65, hr, Prep.run]
    repeat (first | refine And.intro (by omega) ?_ | refine And.intro (by kernel_rfl) ?_)
    refine vcRet_of [] ?_ rfl
    simp [leafR, hr]
  cases cut
  · cases hd : Y.done p
    · simp [Tryz.ntmps65, hr, hw1, Prep.run]
      repeat (first | refine And.intro (by omega) ?_ | refine And.intro (by kernel_rfl) ?_)
      refine (A.ended p hp).mono ?_
      rintro _ rfl
      simp [hd, hw2]
      refine (A.outcome p hp).mono ?_
      rintro _ rfl
      simp
      refine (add_m f w ({ s.1 with runs := s.1.runs + 1, stuck := s.1.stuck + 1 }, s.2) (A.at_ (some p)) (Y.out p) (by dsimp only; omega)).mono ?_
      rintro _ rfl
      simp
      repeat (first | refine And.intro (by omega) ?_ | refine And.intro (by kernel_rfl) ?_)
      cases w with
      | none =>
        simp
        refine vcRet_of [] ?_ rfl
        simp [leafR, hr, hd, hn]
      | some v =>
        have hs := strEq (a := Y.out p) (b := v)
        by_cases hv : Y.out p = v
        · subst hv
          simp
          repeat (first | refine And.intro (by omega) ?_ | refine And.intro (by kernel_rfl) ?_)
          refine vcRet_prep [.seen 1000000 7] [] (by simp [Prep.all, Prep.run]; rfl) ?_ rfl
          simp [leafR, hr, hd, List.take_of_length_le]
        · rw [decide_eq_false hv] at hs
          have hv2 : ¬ v = Y.out p := fun e => hv e.symm
          have hne : ¬ (Y.out p).toList = v.toList := fun e => by rw [e] at hs; simp at hs
          simp [hne]
          refine vcRet_of [] ?_ rfl
          simp [leafR, hr, hd, hn, hv2]
    · simp [Tryz.ntmps65, hr, hw1, Prep.run]
      repeat (first | refine And.intro (by omega) ?_ | refine And.intro (by kernel_rfl) ?_)
      refine (A.ended p hp).mono ?_
      rintro _ rfl
      simp [hd]
      refine (A.outcome p hp).mono ?_
      rintro _ rfl
      simp
      refine (add_m f w ({ s.1 with runs := s.1.runs + 1, stuck := s.1.stuck }, s.2) (A.at_ (some p)) (Y.out p) (by dsimp only; omega)).mono ?_
      rintro _ rfl
      simp
      repeat (first | refine And.intro (by omega) ?_ | refine And.intro (by kernel_rfl) ?_)
      cases w with
      | none =>
        simp
        refine vcRet_of [] ?_ rfl
        simp [leafR, hr, hd, hn]
      | some v =>
        have hs := strEq (a := Y.out p) (b := v)
        by_cases hv : Y.out p = v
        · subst hv
          simp
          repeat (first | refine And.intro (by omega) ?_ | refine And.intro (by kernel_rfl) ?_)
          refine vcRet_prep [.seen 1000000 7] [] (by simp [Prep.all, Prep.run]; rfl) ?_ rfl
          simp [leafR, hr, hd, List.take_of_length_le]
        · rw [decide_eq_false hv] at hs
          have hv2 : ¬ v = Y.out p := fun e => hv e.symm
          have hne : ¬ (Y.out p).toList = v.toList := fun e => by rw [e] at hs; simp at hs
          simp [hne]
          refine vcRet_of [] ?_ rfl
          simp [leafR, hr, hd, hn, hv2]
  · simp [Tryz.ntmps65, hr, hw1, Prep.run]
    repeat (first | refine And.intro (by omega) ?_ | refine And.intro (by kernel_rfl) ?_)
    refine vcRet_of [] ?_ rfl
    simp [leafR, hr]
end Go.Proofs.YtplooifpgmlofaaGreat
namespace Go.Proofs.YtplooifpgmlofaaGreat
open Go.RowKit

theorem goX_sl {β : Type} {lf : List Int → Bool → FdB β → FdB β} {Y : Sys} {f : Cf} (hs : f.sleeps = false) : ∀ (n : Nat) (p : List Int) (sl sl' : List Stp) (left : Int) (s : FdB β), goX lf Y f n p sl left s = goX lf Y f n p sl' left s
 | 0, _, _, _, _, _ => rfl
 | n + 1, p, sl, sl', left, s => by
  have key : ∀ (last : Int) (ts : List Int) (sl sl' : List Stp) (s : FdB β), loopX (goX lf Y f n) Y f p last left ts sl s = loopX (goX lf Y f n) Y f p last left ts sl' s := by
   intro last ts
   induction ts with
   | nil => exact fun _ _ _ => rfl
   | cons t ts ih =>
    intro sl sl' s
    have h0 : ∀ l : List Stp, (l.any fun q => f.sleeps && q.task == t) = false := fun l => by simp [hs]
    unfold loopX
    rw [h0, h0]
    simp only [Bool.false_eq_true, if_false]
    rw [goX_sl hs n (p ++ [t]) (sl.filter fun q => indy q.uses (Y.foot p t)) (sl'.filter fun q => indy q.uses (Y.foot p t)), ih sl sl', ih (sl ++ [Stp.mk t (Y.foot p t)]) (sl' ++ [Stp.mk t (Y.foot p t)])]
  unfold goX
  rw [key]
theorem goX_inv {β : Type} {Y : Sys} {f : Cf} {lf : List Int → Bool → FdB β → FdB β} {R : FdB β → Prop} (hf : ∀ s, R s → R ({ s.1 with full := false }, s.2)) (hlf : ∀ p cut s, R s → R (lf p cut s)) : ∀ (n : Nat) (p : List Int) (sl : List Stp) (left : Int) (s : FdB β), R s → R (goX lf Y f n p sl left s)
 | 0, _, _, _, _, h => hlf _ _ _ h
 | n + 1, p, sl, left, s, h => by
  unfold goX
  split
  ·exact hlf _ _ _ h
  ·have : ∀ (last : Int) (ts : List Int) (sl : List Stp) (s : FdB β), R s → R (loopX (goX lf Y f n) Y f p last left ts sl s) := by
    intro last ts
    induction ts with
    | nil => exact fun _ _ h => h
    | cons t ts ih =>
     intro sl s h
     unfold loopX
     generalize (if 0 < last ∧ last ≠ t then left - 1 else left) = r
     split
     ·exact ih _ _ h
     ·split
      ·exact ih _ _ (hf _ h)
      ·split
       ·exact goX_inv hf hlf n _ _ _ _ h
       ·exact ih _ _ (goX_inv hf hlf n _ _ _ _ h)
   exact this _ _ _ _ h
inductive RfI {Y : Sys} (A : RPlr Y) (f : Cf) (w : Option ByteArray) (G : List Int → List Stp → Int → FdR → FdR) (p : List Int) (left : Int) (T : FdR) : Nat → Sta → Prop
 | mk (i : Nat) (sl : List Stp) (s : FdR) (q : List Int) (hi : i ≤ (Y.en p).length) (hT : (if s.1.enough then s else loopX G Y f p (lastOf p (Y.en p)) left ((Y.en p).drop i) sl s) = T) (hsl : sl.length ≤ 1000 * p.length + i) (hso : slOk sl) (hok : FdR.Ok f s) (hq : legal Y q) :
  RfI A f w G p left T ((Y.en p).length - i) ⟨156, [(9, .i i), (8, .d (intD (Y.en p))), (0, .ptr 1000000 0), (1, .d (intD p)), (2, .d (stD sl)), (3, .i left)], (4000002, .row 0 1 [] false) :: extMem 1000000 [searchO f w s 1000001 1000002, .sys (A.at_ (some q)), runsO s.2.runs]⟩
inductive RestI {Y : Sys} (A : RPlr Y) (f : Cf) (w : Option ByteArray) (p : List Int) (sl : List Stp) (s : FdR) (left : Int) (i : Nat) (t c : Int) : Nat → Sta → Prop
 | mk (k : Nat) (hk : k ≤ sl.length) :
  RestI A f w p sl s left i t c (sl.length - k) ⟨156, [(14, .i k), (13, .rw 13 ((sl.take k).filter fun q => indy q.uses (Y.foot p t)).length), (12, .d (fpD (Y.foot p t))), (0, .ptr 1000000 0), (1, .d (intD p)), (2, .d (stD sl)), (3, .i left), (8, .d (intD (Y.en p))), (9, .i i), (10, .i t), (11, .i c)],
   (13, .row 94 2 (((sl.take k).filter fun q => indy q.uses (Y.foot p t)).map Stp.ds) false) :: (4000002, .row 0 1 [] false) :: extMem 1000000 [searchO f w s 1000001 1000002, .sys (A.at_ (some p)), runsO s.2.runs]⟩
set_option maxRecDepth 20000 in
set_option maxHeartbeats 4000000 in
theorem refFrom_m {Y : Sys} (hY : Fair Y) (A : RPlr Y) (f : Cf) (w : Option ByteArray) : ∀ (n : Nat) (p : List Int) (sl : List Stp) (left : Int) (s : FdR) (q : Option (List Int)), p.length + n = 60 → legal Y p → (∀ p, q = some p → legal Y p) → sl.length ≤ 1000 * p.length → slOk sl → (0 ≤ left ∧ left ≤ 60) → FdR.Ok f s → s.1.enough = false →
  Meets Tryz.prog 43 [.ptr 1000000 0, .d (intD p), .d (stD sl), .i left] [searchO f w s 1000001 1000002, .sys (A.at_ q), runsO s.2.runs]
   (fun r => ∃ q', legal Y q' ∧ r = ⟨unitV, [searchO f w (goX (leafR Y f w) Y f n p sl left s) 1000001 1000002, .sys (A.at_ (some q')), runsG (goX (leafR Y f w) Y f n p sl left s).2.runs], []⟩) := by
 intro n
 induction n with
 | zero =>
  intro p sl left s q hn hp hq hsl hso hleft hok hne
  have hfew := hY.few p
  have hpl : p.length = 60 := by omega
  refine meetsP [] tbSOk mixed Tryz.func43 pl43 rfl rfl ?_
  simp [Tryz.ntmps43]
  refine (replay_m A q hq p hp).mono ?_
  rintro _ rfl
  simp
  refine (A.enabled p hp).mono ?_
  rintro _ rfl
  by_cases he : Y.en p = []
  ·simp [he]
   refine (refLeaf_m A f w s hok hne p hp false).mono ?_
   rintro _ rfl
   simp
   refine vcRet_of [] ?_ ⟨p, hp, rfl⟩
   simp [goX, he]
  ·have hpos : 0 < (Y.en p).length := List.length_pos_iff.2 he
   have hq : ((p.length : Int) = 60) = True := eq_true (by omega)
   simp [he, hq, hpos]
   refine ⟨by omega, (refLeaf_m A f w s hok hne p hp true).mono ?_⟩
   rintro _ rfl
   simp
   refine vcRet_of [] ?_ ⟨p, hp, rfl⟩
   simp [goX, hpos]
 | succ n ih =>
  intro p sl left s q hn hp hq hsl hso hleft hok hne
  have hfew := hY.few p
  refine meetsP [(15, [.mark 1000002]), (91, [.only [0, 1, 2, 3, 8, 9, 10, 11] [1000000, 1000001, 1000002, 4000002]])] tbSOk mixed Tryz.func43 pl43 rfl rfl ?_
  simp [Tryz.ntmps43, Prep.run]
  refine (replay_m A q hq p hp).mono ?_
  rintro _ rfl
  simp
  refine (A.enabled p hp).mono ?_
  rintro _ rfl
  by_cases he : Y.en p = []
  ·simp [he]
   refine (refLeaf_m A f w s hok hne p hp false).mono ?_
   rintro _ rfl
   simp
   refine vcRet_of [] ?_ ⟨p, hp, rfl⟩
   simp [goX, he]
  ·have hpos : 0 < (Y.en p).length := List.length_pos_iff.2 he
   have hq60 : ¬ ((p.length : Int) = 60) := by omega
   simp [he, hq60]
   refine ⟨by omega, ?_⟩
   obtain ⟨T, hTT⟩ : ∃ T, T = goX (leafR Y f w) Y f (n + 1) p sl left s := ⟨_, rfl⟩
   rw [← hTT]
   refine vc_loop (RfI A f w (goX (leafR Y f w) Y f n) p left T) ⟨_, _, .mk 0 sl s p (Nat.zero_le _) ?_ (by omega) hso hok hp, [.view 8], _, (by simp [Prep.all, Prep.run]; rfl), ?_⟩ ?_
   ·rw [hTT, hne, List.drop_zero, goX, if_neg he]; rfl
   ·simp [List.take_of_length_le]
   clear hTT
   rintro m σ ⟨i, sl', S, q', hi, hT, hsl', hso', hok', hq'⟩
   have h60 := hp.1
   by_cases hlt : i < (Y.en p).length
   case neg =>
    obtain rfl : i = (Y.en p).length := by omega
    have hfin : S = T := by
     rw [← hT, List.drop_length]
     cases S.1.enough <;> rfl
    subst hfin
    simp [extMem]
    refine vcRet_of [] ?_ ⟨q', hq', rfl⟩
    simp
   cases hS : S.1.enough
   case true =>
    have hfin : S = T := by rw [← hT, hS]; rfl
    subst hfin
    simp [hlt, hS, extMem]
    refine vcRet_of [] ?_ ⟨q', hq', rfl⟩
    simp
   obtain ⟨t, ht, e⟩ := at_lt hlt
   have htm : t ∈ Y.en p := List.mem_of_getElem? ht
   have hpos' := hY.pos p t htm
   rw [hS, List.drop_eq_getElem_cons hlt, e] at hT
   have hT : loopX (goX (leafR Y f w) Y f n) Y f p (lastOf p (Y.en p)) left (t :: (Y.en p).drop (i + 1)) sl' S = T := hT
   unfold loopX at hT
   have hsl64 : sl'.length < 4294967296 := by omega
   have hwi : IntKind.i64.wrap ((i : Int) + 1) = (i : Int) + 1 := wrap_in (by omega)
   obtain ⟨c, hc⟩ : ∃ c : Int, c = if 0 < lastOf p (Y.en p) ∧ lastOf p (Y.en p) ≠ t then 1 else 0 := ⟨_, rfl⟩
   have hc01 : c = 0 ∨ c = 1 := by rw [hc]; split <;> simp
   have hcl : (if 0 < lastOf p (Y.en p) ∧ lastOf p (Y.en p) ≠ t then left - 1 else left) = left - c := by rw [hc]; split <;> omega
   rw [hcl] at hT
   have hback : ∀ S' : FdR, (S'.1.enough = S.1.enough) → (if S'.1.enough then S' else loopX (goX (leafR Y f w) Y f n) Y f p (lastOf p (Y.en p)) left ((Y.en p).drop (i + 1)) sl' S') = loopX (goX (leafR Y f w) Y f n) Y f p (lastOf p (Y.en p)) left ((Y.en p).drop (i + 1)) sl' S' := fun S' h => by rw [h, hS]; rfl
   rw [vc_seq, vc_seq]
   simp [hlt, hS, -vc_seq]
   rw [vc_seq]
   simp [-vc_seq]
   rw [vc_seq]
   simp [hlt, e, -vc_seq]
   rw [vc_seq, vc_seq]
   obtain ⟨fm, fs, fb⟩ := f
   cases fb
   ·simp [-vc_seq]
    rw [vc_seq]
    simp [-vc_seq]
    refine vc_cut (fun σ' => Prep.run σ' (.only [0, 1, 2, 3, 8, 9, 10, 11] [1000000, 1000001, 1000002, 4000002]) = some ⟨156, [(0, .ptr 1000000 0), (1, .d (intD p)), (2, .d (stD sl')), (3, .i left), (8, .d (intD (Y.en p))), (9, .i i), (10, .i t), (11, .i c)],
     [(1000000, searchO ⟨fm, fs, false⟩ w S 1000001 1000002), (1000001, .sys (A.at_ (some q'))), (1000002, runsO S.2.runs), (4000002, .row 0 1 [] false)]⟩) ?_ ?_
    case refine_2 =>
     intro T' hT'
     by_cases hp0 : p = []
     ·subst hp0
      have hc0 : c = 0 := by rw [hc]; rfl
      simp
      exact hT' _ (by simp [Prep.run, hS, hc0])
     ·obtain ⟨p', u, rfl⟩ : ∃ p' u, p = p' ++ [u] := ⟨p.dropLast, p.getLast hp0, (List.dropLast_concat_getLast hp0).symm⟩
      have hw : IntKind.i64.wrap (p'.length : Int) = p'.length := wrap_in (by simp at h60; omega)
      have hlast : lastOf (p' ++ [u]) (Y.en (p' ++ [u])) = if u ∈ Y.en (p' ++ [u]) then u else 0 := by simp [lastOf]
      rw [hlast] at hc
      by_cases hut : u = t
      ·subst hut
       have hc0 : c = 0 := by rw [hc, if_pos htm]; simp
       simp [hw]
       exact ⟨by omega, hT' _ (by simp [Prep.run, hS, hc0])⟩
      ·simp [hw, hut]
       refine ⟨by omega, (in_m (Y.en (p' ++ [u])) u (by omega)).mono ?_⟩
       rintro _ rfl
       by_cases hu : u ∈ Y.en (p' ++ [u])
       ·have hc1 : c = 1 := by
         have := hY.pos _ u hu
         rw [hc, if_pos hu, if_pos ⟨this.1, hut⟩]
        simp [hu]
        exact hT' _ (by simp [Prep.run, hS, hc1])
       ·have hc0 : c = 0 := by rw [hc, if_neg hu]; rfl
        simp [hu]
        exact hT' _ (by simp [Prep.run, hS, hc0])
    rintro σ' h
    have hany : (sl'.any fun q => false && q.task == t) = false := by simp
    rw [hany] at hT
    simp only [Bool.false_eq_true, if_false] at hT
    by_cases hlc : left < c
    ·rw [if_pos (by omega)] at hT
     simp [h, hlc, hwi]
     exact ⟨(Y.en p).length - (i + 1), by omega, _, .mk (i + 1) sl' ({ S.1 with full := false }, S.2) q' hlt ((hback ({ S.1 with full := false }, S.2) rfl).trans hT) (by omega) hso' ⟨⟨hok'.ct.most, hok'.ct.runs0, hok'.ct.runs, hok'.ct.stuck0, hok'.ct.stuck⟩, hok'.outs, hok'.runs⟩ hq', [], _, rfl, by simp [extMem, hS]⟩
    rw [if_neg (by omega)] at hT
    simp [h, hlc]
    refine (replay_m A (some q') (by rintro _ h; cases h; exact hq') p hp).mono ?_
    rintro _ rfl
    simp
    refine (A.uses p t hp htm).mono ?_
    rintro _ rfl
    simp
    refine vc_loop (RestI A ⟨fm, fs, false⟩ w p sl' S left i t c) ⟨_, _, .mk 0 (Nat.zero_le _), [.row 13 94 2], _, rfl, by simp [extMem, hS]⟩ ?_
    rintro m2 σ2 ⟨k, hk⟩
    have hwl : IntKind.i64.wrap (left - c) = left - c := wrap_in (by omega)
    have hrl : ((sl'.take k).filter fun q => indy q.uses (Y.foot p t)).length ≤ sl'.length := Nat.le_trans (List.length_filter_le _ _) (by rw [List.length_take]; omega)
    simp [extMem, hwl, List.take_of_length_le]
    have hcall := ih (p ++ [t]) ((sl'.take k).filter fun q => indy q.uses (Y.foot p t)) (left - c) S (some p) (by simp; omega) (legal_snoc hp htm (by omega)) (by rintro _ h; cases h; exact hp) (by have := List.length_filter_le (fun q => indy q.uses (Y.foot p t)) sl'; simp; omega) (fun s hs => hso' s (List.mem_of_mem_take ((List.mem_filter.1 hs).1))) (by omega) hok' hS
    rw [show intD (p ++ [t]) = D.sl 1 (List.map intC p ++ [[.v (.int .i64 t)]]) by simp, goX_sl (f := ⟨fm, fs, false⟩) rfl n (p ++ [t]) ((sl'.take k).filter fun q => indy q.uses (Y.foot p t)) (sl'.filter fun q => indy q.uses (Y.foot p t))] at hcall
    have hokG := goX_inv (f := ⟨fm, fs, false⟩) (lf := leafR Y ⟨fm, fs, false⟩ w) (Y := Y) (R := FdR.Ok ⟨fm, fs, false⟩) (fun s h => ⟨⟨h.ct.most, h.ct.runs0, h.ct.runs, h.ct.stuck0, h.ct.stuck⟩, h.outs, h.runs⟩) (fun p cut s h => leafR_ok h) n (p ++ [t]) (sl'.filter fun q => indy q.uses (Y.foot p t)) (left - c) S hok'
    generalize goX (leafR Y ⟨fm, fs, false⟩ w) Y ⟨fm, fs, false⟩ n (p ++ [t]) (sl'.filter fun q => indy q.uses (Y.foot p t)) (left - c) S = G at hcall hT hokG
    refine ⟨by omega, by omega, hcall.mono ?_⟩
    rintro _ ⟨q2, hq2, rfl⟩
    simp [hwi]
    refine ⟨by omega, by omega, ?_⟩
    exact ⟨(Y.en p).length - (i + 1), by omega, _, .mk (i + 1) (sl' ++ [⟨t, Y.foot p t⟩]) G q2 hlt hT (by simp; omega) (fun s hs => (List.mem_append.1 hs).elim (hso' s) fun h => by simp at h; subst h; exact hY.uses p t) hokG hq2, [.view 2], _, (by simp [Prep.all, Prep.run]; rfl), by simp [extMem, List.take_of_length_le]⟩

   ·simp [-vc_seq]
    refine (asleep_m sl' t hsl64).mono ?_
    rintro _ rfl
    cases ha : (sl'.any fun s => s.task == t)
    ·simp [-vc_seq]
     rw [vc_seq]
     simp [-vc_seq]
     refine vc_cut (fun σ' => Prep.run σ' (.only [0, 1, 2, 3, 8, 9, 10, 11] [1000000, 1000001, 1000002, 4000002]) = some ⟨156, [(0, .ptr 1000000 0), (1, .d (intD p)), (2, .d (stD sl')), (3, .i left), (8, .d (intD (Y.en p))), (9, .i i), (10, .i t), (11, .i c)],
      [(1000000, searchO ⟨fm, fs, true⟩ w S 1000001 1000002), (1000001, .sys (A.at_ (some q'))), (1000002, runsO S.2.runs), (4000002, .row 0 1 [] false)]⟩) ?_ ?_
     case refine_2 =>
      intro T' hT'
      by_cases hp0 : p = []
      ·subst hp0
       have hc0 : c = 0 := by rw [hc]; rfl
       simp
       exact hT' _ (by simp [Prep.run, hS, hc0])
      ·obtain ⟨p', u, rfl⟩ : ∃ p' u, p = p' ++ [u] := ⟨p.dropLast, p.getLast hp0, (List.dropLast_concat_getLast hp0).symm⟩
       have hw : IntKind.i64.wrap (p'.length : Int) = p'.length := wrap_in (by simp at h60; omega)
       have hlast : lastOf (p' ++ [u]) (Y.en (p' ++ [u])) = if u ∈ Y.en (p' ++ [u]) then u else 0 := by simp [lastOf]
       rw [hlast] at hc
       by_cases hut : u = t
       ·subst hut
        have hc0 : c = 0 := by rw [hc, if_pos htm]; simp
        simp [hw]
        exact ⟨by omega, hT' _ (by simp [Prep.run, hS, hc0])⟩
       ·simp [hw, hut]
        refine ⟨by omega, (in_m (Y.en (p' ++ [u])) u (by omega)).mono ?_⟩
        rintro _ rfl
        by_cases hu : u ∈ Y.en (p' ++ [u])
        ·have hc1 : c = 1 := by
          have := hY.pos _ u hu
          rw [hc, if_pos hu, if_pos ⟨this.1, hut⟩]
         simp [hu]
         exact hT' _ (by simp [Prep.run, hS, hc1])
        ·have hc0 : c = 0 := by rw [hc, if_neg hu]; rfl
         simp [hu]
         exact hT' _ (by simp [Prep.run, hS, hc0])
     rintro σ' h
     have hany : (sl'.any fun q => true && q.task == t) = false := by simp; simpa using ha
     rw [hany] at hT
     simp only [Bool.false_eq_true, if_false] at hT
     by_cases hlc : left < c
     ·rw [if_pos (by omega)] at hT
      simp [h, hlc, hwi]
      exact ⟨(Y.en p).length - (i + 1), by omega, _, .mk (i + 1) sl' ({ S.1 with full := false }, S.2) q' hlt ((hback ({ S.1 with full := false }, S.2) rfl).trans hT) (by omega) hso' ⟨⟨hok'.ct.most, hok'.ct.runs0, hok'.ct.runs, hok'.ct.stuck0, hok'.ct.stuck⟩, hok'.outs, hok'.runs⟩ hq', [], _, rfl, by simp [extMem, hS]⟩
     rw [if_neg (by omega)] at hT
     simp [h, hlc]
     refine (replay_m A (some q') (by rintro _ h; cases h; exact hq') p hp).mono ?_
     rintro _ rfl
     simp
     refine (A.uses p t hp htm).mono ?_
     rintro _ rfl
     simp
     refine vc_loop (RestI A ⟨fm, fs, true⟩ w p sl' S left i t c) ⟨_, _, .mk 0 (Nat.zero_le _), [.row 13 94 2], _, rfl, by simp [extMem, hS]⟩ ?_
     rintro m2 σ2 ⟨k, hk⟩
     have hwl : IntKind.i64.wrap (left - c) = left - c := wrap_in (by omega)
     have hrl : ((sl'.take k).filter fun q => indy q.uses (Y.foot p t)).length ≤ sl'.length := Nat.le_trans (List.length_filter_le _ _) (by rw [List.length_take]; omega)
     by_cases hkl : k < sl'.length
     ·obtain ⟨y, hy, e2⟩ := at_lt hkl
      have huy := hso' y (List.mem_of_getElem? hy)
      have hut := hY.uses p t
      have htk : sl'.take (k + 1) = sl'.take k ++ [y] := by rw [List.take_add_one, hy]; rfl
      simp [hkl, e2, extMem]
      refine (refIndep_m y.uses (Y.foot p t) (by omega) (by omega)).mono ?_
      rintro _ rfl
      cases hind : indy y.uses (Y.foot p t)
      ·simp [wrap_succ hkl hsl64]
       exact ⟨sl'.length - (k + 1), by omega, _, .mk (k + 1) hkl, [], _, rfl, by simp [extMem, htk, hind]⟩
      ·simp [wrap_succ hkl hsl64, hy]
       refine ⟨by omega, by omega, ?_⟩
       exact ⟨sl'.length - (k + 1), by omega, _, .mk (k + 1) hkl, [], _, rfl, by simp [extMem, htk, hind]⟩
     ·obtain rfl : k = sl'.length := by omega
      simp [extMem, hwl, List.take_of_length_le]
      have hcall := ih (p ++ [t]) (sl'.filter fun q => indy q.uses (Y.foot p t)) (left - c) S (some p) (by simp; omega) (legal_snoc hp htm (by omega)) (by rintro _ h; cases h; exact hp) (by have := List.length_filter_le (fun q => indy q.uses (Y.foot p t)) sl'; simp; omega) (fun s hs => hso' s ((List.mem_filter.1 hs).1)) (by omega) hok' hS
      rw [show intD (p ++ [t]) = D.sl 1 (List.map intC p ++ [[.v (.int .i64 t)]]) by simp] at hcall
      have hokG := goX_inv (f := ⟨fm, fs, true⟩) (lf := leafR Y ⟨fm, fs, true⟩ w) (Y := Y) (R := FdR.Ok ⟨fm, fs, true⟩) (fun s h => ⟨⟨h.ct.most, h.ct.runs0, h.ct.runs, h.ct.stuck0, h.ct.stuck⟩, h.outs, h.runs⟩) (fun p cut s h => leafR_ok h) n (p ++ [t]) (sl'.filter fun q => indy q.uses (Y.foot p t)) (left - c) S hok'
      generalize goX (leafR Y ⟨fm, fs, true⟩ w) Y ⟨fm, fs, true⟩ n (p ++ [t]) (sl'.filter fun q => indy q.uses (Y.foot p t)) (left - c) S = G at hcall hT hokG
      refine ⟨by omega, by omega, hcall.mono ?_⟩
      rintro _ ⟨q2, hq2, rfl⟩
      simp [hwi]
      refine ⟨by omega, by omega, ?_⟩
      exact ⟨(Y.en p).length - (i + 1), by omega, _, .mk (i + 1) (sl' ++ [⟨t, Y.foot p t⟩]) G q2 hlt hT (by simp; omega) (fun s hs => (List.mem_append.1 hs).elim (hso' s) fun h => by simp at h; subst h; exact hY.uses p t) hokG hq2, [.view 2], _, (by simp [Prep.all, Prep.run]; rfl), by simp [extMem, List.take_of_length_le]⟩

    ·have hany : (sl'.any fun q => true && q.task == t) = true := by simpa using ha
     rw [hany] at hT
     simp only [if_true] at hT
     simp [hwi]
     exact ⟨(Y.en p).length - (i + 1), by omega, _, .mk (i + 1) sl' S q' hlt ((hback _ rfl).trans hT) (by omega) hso' hok' hq', [], _, rfl, by simp [extMem, hS]⟩
end Go.Proofs.YtplooifpgmlofaaGreat
