/- Code, shown: within a round, and outside of any, where loops over functions leave their marks. No condition. -/
import Derived.Test.YtplooifpgmlofaaGreatV14
import Derived.RangeFuncLeaves
namespace Go.Proofs.YtplooifpgmlofaaGreat
open Go.RowKit

section
variable {P : Program} {tb : Tab} {B : Base} {m : Map} {S : Cells} {σ σ' : Sta} {a : Act} {w : World} {D : DrawT}
def RangeRule (P : Program) (tb : Tab) (D : DrawT) (F : Base → Prop) (ro : Option Nat) : Prop :=
  ∀ (g : Operand) (ps : Array Tmp) (x y : Code) (K : Exit → Sta → Prop) (Q : Exit → Act → World → Prop), (∀ B e m S σ a w, F B → Sim B m S σ a w → K e σ → Q e a w) →
    ∀ B m S σ a w, F B → Sim B m S σ a w → vcCode P tb D (.rangeFunc g ps x y) K σ → (Code.rangeFunc g ps x y).wpIn (rd ro) 0 P Q a w
theorem code_ok (hT : TabOk P tb) (hD : DrawOk P D) (F : Base → Prop) (ro : Option Nat) : ∀ (c : Code), (calmC c = true ∨ (ro = none ∧ RangeRule P tb D F ro)) → ∀ {K : Exit → Sta → Prop} {Q : Exit → Act → World → Prop}, (∀ B e m S σ a w, F B → Sim B m S σ a w → K e σ → Q e a w) →
    ∀ {B : Base} {m : Map} {S : Cells} {σ : Sta} {a : Act} {w : World}, F B → Sim B m S σ a w → vcCode P tb D c K σ → c.wpIn (rd ro) 0 P Q a w
  | .skip, _, K, Q, hK, B, m, S, σ, a, w, hF, h, hv => wpIn_skip (hK _ _ _ _ _ _ _ hF h hv)
  | .label _, _, K, Q, hK, B, m, S, σ, a, w, hF, h, hv => wpIn_label (hK _ _ _ _ _ _ _ hF h hv)
  | .region id ops draw, hc, K, Q, hK, B, m, S, σ, a, w, hF, h, hv => by
    have hcc : ro = none ∨ calmOps ops = true := hc.elim .inr fun h => .inl h.1
    unfold vcCode at hv
    obtain ⟨m1, S1, σ1, h1, hv1⟩ := preK_ok h hv
    split at hv1
    · rename_i hd
      subst hd
      exact region_any_in hD.1 hcc (hD.2 B ops (K .normal) (normalQ Q) (fun m S σ a w h hk => hK _ _ _ _ _ _ _ hF h hk) m1 S1 σ1 a w h1 hv1)
    · rename_i hd
      have hd : draw = false := by simpa using hd
      subst hd
      exact region_list_in hcc (vcOps_ok (Q := normalQ Q) hT (fun m S σ a w h hk => hK B .normal m S σ a w hF h hk) ops.toList h1 hv1)
  | .seq x y, hc, K, Q, hK, B, m, S, σ, a, w, hF, h, hv => by
    have h1 : calmC x = true ∨ (ro = none ∧ RangeRule P tb D F ro) := hc.imp (fun h => by simp only [calmC, Bool.and_eq_true] at h; exact h.1) fun h => h
    have h2 : calmC y = true ∨ (ro = none ∧ RangeRule P tb D F ro) := hc.imp (fun h => by simp only [calmC, Bool.and_eq_true] at h; exact h.2) fun h => h
    refine wpIn_seq (code_ok hT hD F ro x h1 (K := kSeq (vcCode P tb D y K) K) ?_ hF h hv)
    intro B e m S σ a w hF h hk
    cases e with
    | normal => exact code_ok hT hD F ro y h2 hK hF h hk
    | _ => exact hK _ _ _ _ _ _ _ hF h hk
  | .cond c x y, hc, K, Q, hK, B, m, S, σ, a, w, hF, h, hv => by
    have h1 : calmC x = true ∨ (ro = none ∧ RangeRule P tb D F ro) := hc.imp (fun h => by simp only [calmC, Bool.and_eq_true] at h; exact h.1) fun h => h
    have h2 : calmC y = true ∨ (ro = none ∧ RangeRule P tb D F ro) := hc.imp (fun h => by simp only [calmC, Bool.and_eq_true] at h; exact h.2) fun h => h
    unfold vcCode at hv
    split at hv
    · rename_i t ht
      refine wpIn_cond_split (t := t) (ev_v h ht) (fun e => code_ok hT hD F ro x h1 hK hF h (hv.1 e)) fun e => code_ok hT hD F ro y h2 hK hF h (hv.2 e)
    · exact hv.elim
  | .block id c, hc, K, Q, hK, B, m, S, σ, a, w, hF, h, hv => by
    have h1 : calmC c = true ∨ (ro = none ∧ RangeRule P tb D F ro) := hc.imp (fun h => by simpa only [calmC] using h) fun h => h
    refine wpIn_block (code_ok hT hD F ro c h1 (K := kBlock id K) ?_ hF h hv)
    intro B e m S σ a w hF h hk
    cases e with
    | exit j =>
      unfold kBlock at hk
      unfold Exit.inBlock
      dsimp only at hk ⊢
      split at hk
      · rename_i e; rw [if_pos e]; exact hK _ _ _ _ _ _ _ hF h hk
      · rename_i e; rw [if_neg e]; exact hK _ _ _ _ _ _ _ hF h hk
    | _ => exact hK _ _ _ _ _ _ _ hF h hk
  | .loop c, hc, K, Q, hK, B, m, S, σ, a, w, hF, h, hv => by
    have h1 : calmC c = true ∨ (ro = none ∧ RangeRule P tb D F ro) := hc.imp (fun h => by simpa only [calmC] using h) fun h => h
    obtain ⟨I, ⟨n0, σ0, h0, hl⟩, hr⟩ := hv
    refine wp_rounds_in (fun n a w => ∃ B m S σ, F B ∧ Sim B m S σ a w ∧ I n σ) ?_ (n := n0) ?_
    · rintro n a w ⟨B, m, S, σ, hF, hs, hi⟩
      refine code_ok hT hD F ro c h1 (K := kLoop I n K) ?_ hF hs (hr n σ hi)
      intro B e m S σ a w hF h hk
      cases e with
      | normal =>
        obtain ⟨n', σ', h1, h2, h3⟩ := hk
        obtain ⟨m', S', g⟩ := later_ok h h3
        exact ⟨n', h1, B, m', S', σ', hF, g, h2⟩
      | _ => exact hK _ _ _ _ _ _ _ hF h hk
    · obtain ⟨m', S', g⟩ := later_ok h hl
      exact ⟨B, m', S', σ0, hF, g, h0⟩
  | .exit id, _, K, Q, hK, B, m, S, σ, a, w, hF, h, hv => wpIn_exit (hK _ _ _ _ _ _ _ hF h hv)
  | .ret, _, K, Q, hK, B, m, S, σ, a, w, hF, h, hv => wpIn_ret (hK _ _ _ _ _ _ _ hF h hv)
  | .rangeFunc g ps x y, hc, K, Q, hK, B, m, S, σ, a, w, hF, h, hv => hc.elim (fun h => by cases h) fun hR => hR.2 g ps x y K Q hK B m S σ a w hF h hv
  | .scope _, _, _, _, _, _, _, _, _, _, _, _, _, hv => hv.elim
  | .goto _, _, _, _, _, _, _, _, _, _, _, _, _, hv => hv.elim
  | .refuse _, _, _, _, _, _, _, _, _, _, _, _, _, hv => hv.elim
theorem round_ok (hT : TabOk P tb) (hD : DrawOk P D) {c : Code} (l : Nat) (B : Base) (K : Exit → Sta → Prop) (Q : Exit → Act → World → Prop) (hc : calmC c = true) (hK : ∀ e m S σ a w, Sim B m S σ a w → K e σ → Q e a w) (m : Map) (S : Cells) (σ : Sta) (a : Act) (w : World) (h : Sim B m S σ a w) (hv : vcCode P tb D c K σ) : c.wpIn (rd (some l)) 0 P Q a w :=
  code_ok hT hD (· = B) (some l) c (.inl hc) (fun B' e m' S' σ' a' w' e1 h' hk' => hK e m' S' σ' a' w' (by rw [← show B' = B from e1]; exact h') hk') rfl h hv
theorem vcCode_ok (hT : TabOk P tb) (hD : DrawOk P D) (c : Code) {K : Exit → Sta → Prop} {Q : Exit → Act → World → Prop} (hK : ∀ L e m S σ a w, L.Nodup → Sim (B.wm L) m S σ a w → K e σ → Q e a w) (h : Sim (B.wm []) m S σ a w) (hv : vcCode P tb D c K σ) : c.wpIn (rd none) 0 P Q a w :=
  code_ok hT hD (fun B' => ∃ L : List Nat, L.Nodup ∧ B' = B.wm L) none c (.inr ⟨rfl, fun g ps x y K Q hK B' m S σ a w ⟨L, hL, e⟩ h hv => by
    subst e
    exact range_ok (fun l B' K' Q' hc hK' m S σ a w h hv => round_ok hT hD l B' K' Q' hc hK' m S σ a w h hv) (fun l B' K' Q' hc hK' m S σ a w h hv => round_ok hT hD l B' K' Q' hc hK' m S σ a w h hv)
      (fun L e m S σ a w hL h hk => hK _ e m S σ a w ⟨L, hL, rfl⟩ h hk) hL h hv⟩) (fun B' e m' S' σ' a' w' ⟨L, hL, e1⟩ h' hk' => hK L e m' S' σ' a' w' hL (by rw [← e1]; exact h') hk') ⟨[], List.nodup_nil, rfl⟩ h hv

theorem leaves_marks {fn : Func} {R : Ending → World → Prop} {df : List Deferred} : ∀ {L : List Nat} {w : World}, Sim { B with ds := L.map fun d => (d, .deferred (some [])), df := df } m S σ a w → L.Nodup →
    (∀ w', Sim { B with ds := [], df := df } m S σ a w' → ∃ v, (results fn a.tmps).run P w' = .ok v w' ∧ R (.returned v) w') → LeavesInM (rd none) 0 P fn a.tmps R (L.map fun d => { target := .collected d, args := #[] }) .returning w
  | [], w, h, _, hf => hf w h
  | d :: L, w, h, hnd, hf => by
    have hnd := List.nodup_cons.1 hnd
    have hne : ∀ y ∈ L.map (fun d => (d, Obj.deferred (some []))), y.1 ≠ d := fun y hy => by
      obtain ⟨d', hd, rfl⟩ := List.mem_map.1 hy
      exact fun e => hnd.1 (e ▸ hd)
    have hl := (h.marks (d, .deferred (some [])) (List.mem_cons_self ..)).2.1
    have h2 := (Sim.turn (B := { B with df := df }) (ds := L.map fun d => (d, .deferred (some []))) h (x := (d, .deferred (some []))) (o' := .deferred none) hne rfl).drop
    exact ⟨by simp, .inl ⟨d, _, rfl, run_takeDeferred hl, leaves_marks h2 hnd.2 hf⟩⟩
end
end Go.Proofs.YtplooifpgmlofaaGreat
