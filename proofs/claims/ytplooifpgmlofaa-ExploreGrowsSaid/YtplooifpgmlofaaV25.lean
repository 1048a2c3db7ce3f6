/- A function's contract, ahead of which a nil slice in a box of the caller's is said to be a row. No condition. -/
import Derived.Test.YtplooifpgmlofaaV24
namespace Go.Proofs.Ytplooifpgmlofaa
open Go.RowKit

section
variable {P : Program} {tb : Tab}
theorem meets_prep (pr : List Prep) {σ1 : Sta} (hT : TabOk P tb) {D : DrawT} (hD : DrawOk P D) {f : Nat} {fn : Func} {c : Code} (hf : P.funcs[f]? = some fn) (hb : fn.body = some c) (hp : Plain P f) {args : List PV} {ext : List MObj} {Q : Res → Prop}
    (hc : (decide (fn.ntmps < 10000) && decide (args.length ≤ fn.ntmps) && decide (ext.length < 1000000)) = true) (hpr : Prep.all ⟨fn.ntmps, argSlots 0 args, extMem 1000000 ext⟩ pr = some σ1) (hv : vcCode P tb D c (kEnd tb ext.length fn.results.toList Q) σ1) : Meets P f args ext Q := by
  simp only [Bool.and_eq_true, decide_eq_true_eq] at hc
  obtain ⟨⟨hs, hl⟩, hx⟩ := hc
  refine ⟨hp, fun w S m T vs ha hM => callsIn_wide.1 (callsIn_of_wp_marks (F := rd none) (n := 0) hf hb trivial ?_)⟩
  have hvl : vs.size = args.length := by rw [← Array.length_toList, ha.len]
  have hdom : ∀ k l, m k = some l → 1000000 ≤ k ∧ k < 1000000 + ext.length := fun k l hk => by
    have := hM.dom k l hk
    rw [look_ext] at this
    split at this
    · rename_i h1
      obtain ⟨o, ho⟩ := Option.isSome_iff_exists.1 this
      have := (List.getElem?_eq_some_iff.1 ho).1
      omega
    · cases this
  have hwid : wid fn.ntmps = fn.ntmps := Nat.mod_eq_of_lt hs
  have hsim : Sim (Base.wm ⟨w, T, S, m, [], [], fun _ => none, w⟩ []) m S ⟨fn.ntmps, argSlots 0 args, extMem 1000000 ext⟩ { tmps := vs ++ Array.replicate (fn.ntmps - vs.size) undef, defers := [] } w := by
    refine { hM with defers := rfl, size := ?_, frozen := fun i hi => absurd hi (by show ¬ froz fn.ntmps i = true; unfold froz; rw [if_pos hs]; exact Bool.false_ne_true), slots := fun i p hp => ?_ }
    · show (vs ++ Array.replicate (fn.ntmps - vs.size) undef).size = wid fn.ntmps
      rw [hwid]
      simp; omega
    · obtain ⟨_, h2⟩ := look_args hp
      obtain ⟨v, h3, h4⟩ := ha.get (i := i) (by simpa using h2)
      refine ⟨v, ?_, h4⟩
      have hi := (List.getElem?_eq_some_iff.1 h3).1
      show (vs ++ Array.replicate (fn.ntmps - vs.size) undef)[i]? = some v
      rw [Array.getElem?_append_left (by simpa using hi)]
      simpa using h3
  have fin : ∀ L m' S' σ a w', L.Nodup → Sim (Base.wm ⟨w, T, S, m, [], [], fun _ => none, w⟩ L) m' S' σ a w' → vcRet tb ext.length fn.results.toList Q σ → LeavesInM (rd none) 0 P fn a.tmps (fun e w' => ∃ r v m' S', Q r ∧ e = .returned v ∧ Rep m' w' S' v r.val ∧ MemOk ⟨w, T, S, m', [], [], fun _ => none, w⟩ m' S' (extMem 1000000 r.ext ++ extMem 2000000 r.new) w' ∧ KeptM w m m' r.ext ∧ r.ext.length = ext.length ∧ r.new.length ≤ 90) a.defers .returning w' := fun L m' S' σ a w' hL h hr => by
    obtain ⟨pr, σ1, hpr, hr⟩ := hr
    obtain ⟨m1, S1, h⟩ := preps_ok h hpr
    have hd : a.defers = L.map fun d => { target := .collected d, args := #[] } := h.defers
    rw [hd]
    refine leaves_marks (B := ⟨w, T, S, m, [], [], fun _ => none, w⟩) (df := L.map fun d => { target := .collected d, args := #[] }) h hL ?_
    intro w2 h2
    obtain ⟨r, v, m2, S2, g1, g2, g3, g4, g5⟩ := ret_ok (P := P) (fn := fn) hT h2 hdom hx hr
    exact ⟨v, g2, r, v, m2, S2, g1, rfl, g3, g4.other, g5⟩
  obtain ⟨m0, S0, hsim⟩ := preps_ok hsim hpr
  refine vcCode_ok hT hD c (K := kEnd tb ext.length fn.results.toList Q) ?_ hsim hv
  intro L e m' S' σ a w' hL h hk
  cases e with
  | normal => exact fin L m' S' σ a w' hL h hk
  | ret => exact fin L m' S' σ a w' hL h hk
  | _ => exact hk.elim
theorem meetsHP (hs : List (Nat × List (Bool × Nat))) (pr : List Prep) {P : Program} {tb : Tab} {σ1 : Sta} (hT : TabOk P tb) (hm : P.follows .mixedOrders = true) {f : Nat} {fn : Func} {c : Code} (hf : P.funcs[f]? = some fn) (hp : Plain P f) {args : List PV} {ext : List MObj} {Q : Res → Prop} (hb : fn.body = some c)
    (hc : (decide (fn.ntmps < 10000) && decide (args.length ≤ fn.ntmps) && decide (ext.length < 1000000)) = true) (hpr : Prep.all ⟨fn.ntmps, argSlots 0 args, extMem 1000000 ext⟩ pr = some σ1) (hv : vcCode P tb (vcDrawH hs P tb) c (kEnd tb ext.length fn.results.toList Q) σ1) : Meets P f args ext Q :=
  meets_prep pr hT (drawH_ok hs hT hm) hf hb hp hc hpr hv
end
end Go.Proofs.Ytplooifpgmlofaa
