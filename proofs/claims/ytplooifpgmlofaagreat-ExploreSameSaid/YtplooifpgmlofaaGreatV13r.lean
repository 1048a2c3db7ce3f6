/- Frames of rounds (a range over a function) and of none: what is shown of operations holds in both. No condition. -/
import Derived.Test.YtplooifpgmlofaaGreatV13
import Derived.RangeFuncRecord
import Derived.TacticsIn
import Derived.OrdersIn
namespace Go.Proofs.YtplooifpgmlofaaGreat
open Go.RowKit

def rd (ro : Option Nat) : Fence := { Fence.wide with round := ro }
theorem rd_depth (ro : Option Nat) : ¬ (rd ro).depth.isSome = true := fun e => by simp [rd, Fence.wide] at e
theorem rows_in {P : Program} {ro : Option Nat} {n : Nat} {row : String} {args : Array Value} {w : World} {R : Value → World → Prop} (h : Rows P row args w R) : RowsIn (rd ro) n P row args w R :=
  fun c cs _ => by
    obtain ⟨v, w'', r, s⟩ := h c cs
    exact ⟨v, w'', r, stepsIn_wide.2 s⟩
def calmOp : Op → Bool
  | .defer _ => false
  | _ => true
def calmOps (ops : Array Oper) : Bool := ops.toList.all fun o => calmOp o.op
def calmC : Code → Bool
  | .skip | .label _ | .exit _ | .ret => true
  | .region _ ops _ => calmOps ops
  | .seq x y => calmC x && calmC y
  | .cond _ x y => calmC x && calmC y
  | .block _ c => calmC c
  | .loop c => calmC c
  | _ => false

section
variable {P : Program} {ro : Option Nat} {ops : Array Oper} {Q : Exit → Act → World → Prop}
theorem oper_in {o : Oper} (hnd : ro = none ∨ calmOp o.op = true) {a : Act} {w : World} {next : Act → World → Prop} (h : o.wp P a w next Q) : o.wpIn (rd ro) 0 P a w next Q := by
  refine ⟨fun _ _ => trivial, ?_⟩
  have hs : o.semAt (rd ro).round a.eval = execOp a.eval o := by
    rcases hnd with rfl | hc
    · rfl
    · exact Oper.semAt_eq _ _ _ fun c e => by rw [e] at hc; cases hc
  unfold Oper.wp at h
  rw [hs]
  generalize (execOp a.eval o).run P w = r at h ⊢
  cases r with
  | ok x w' =>
    cases x <;> simp only [Oper.upon, Oper.uponIn] at h ⊢ <;>
      first
        | exact h
        | exact h.elim
        | exact ⟨fun e => absurd e (rd_depth ro), CallsIn.mono (F := rd ro) (n := 0 - 1) ((callsIn_wide (n := 0 - 1)).2 h) fun e w'' he => (by cases e <;> exact he)⟩
        | exact ⟨fun e => absurd e (rd_depth ro), rows_in h⟩
  | halt x w' => cases x <;> simp only [Oper.upon, Oper.uponIn] at h ⊢ <;> exact h
theorem list_in (hQ : ¬ LetsOut Q) : ∀ {l : List Oper}, (ro = none ∨ l.all (fun o => calmOp o.op) = true) → ∀ {a : Act} {w : World}, wpList P ops Q l a w → wpListIn (rd ro) 0 P ops Q l a w
  | [], _, _, _, h => h
  | o :: r, hnd, a, w, h => by
    have h1 : ro = none ∨ calmOp o.op = true := hnd.imp id fun h => (by simp only [List.all_cons, Bool.and_eq_true] at h; exact h.1)
    have h2 : ro = none ∨ r.all (fun o => calmOp o.op) = true := hnd.imp id fun h => (by simp only [List.all_cons, Bool.and_eq_true] at h; exact h.2)
    unfold wpList at h
    unfold wpListIn
    split
    · rename_i hw
      rw [if_pos hw] at h
      rcases h with h | h
      · exact Oper.wpIn_mono (fun a w => list_in hQ h2) (oper_in h1 h)
      · exact (hQ h.2).elim
    · rename_i hw
      rw [if_neg hw] at h
      exact ⟨fun _ _ => trivial, list_in hQ h2 h⟩
theorem any_in (hQ : ¬ LetsOut Q) (hnd : ro = none ∨ calmOps ops = true) : ∀ {fuel : Nat} {listed : Array Bool} {a : Act} {w : World}, wpAny P .any ops Q fuel listed a w → wpAnyIn (rd ro) 0 P .any ops Q fuel listed a w
  | 0, _, _, _, h => h
  | fuel + 1, listed, a, w, h => by
    refine ⟨h.1, fun i hi => ?_⟩
    have hop := h.2 i hi
    unfold wpOp at hop
    unfold wpOpIn
    split
    · rename_i hn
      simp only [hn] at hop
      exact any_in hQ hnd hop
    · rename_i o ho
      simp only [ho] at hop
      have h1 : ro = none ∨ calmOp o.op = true := hnd.imp id fun h => List.all_eq_true.1 h o (Array.mem_toList_iff.2 (Array.mem_of_getElem? ho))
      split
      · rename_i hw
        rw [if_pos hw] at hop
        rcases hop with hop | hop
        · exact Oper.wpIn_mono (fun a w => any_in hQ hnd) (oper_in h1 hop)
        · exact (hQ hop.2).elim
      · rename_i hw
        rw [if_neg hw] at hop
        exact ⟨fun _ _ => trivial, any_in hQ hnd hop⟩
def normalQ (Q : Exit → Act → World → Prop) : Exit → Act → World → Prop
  | .normal, a, w => Q .normal a w
  | _, _, _ => False
theorem normalQ_out : ¬ LetsOut (normalQ Q) := fun ⟨_, _, h⟩ => h
theorem normalQ_imp : ∀ (e : Exit) (a : Act) (w : World), normalQ Q e a w → Q e a w
  | .normal, _, _, h => h
  | .exit _, _, _, h => h.elim
  | .goto _, _, _, h => h.elim
  | .ret, _, _, h => h.elim
  | .panic _, _, _, h => h.elim
  | .outgrown, _, _, h => h.elim
theorem region_list_in {id : Nat} (hnd : ro = none ∨ calmOps ops = true) {a : Act} {w : World} (h : wpList P ops (normalQ Q) ops.toList a w) : (Code.region id ops false).wpIn (rd ro) 0 P Q a w :=
  wpIn_mono (wpIn_region_list (list_in normalQ_out hnd h)) normalQ_imp
theorem region_any_in {id : Nat} (hm : P.follows .mixedOrders = true) (hnd : ro = none ∨ calmOps ops = true) {a : Act} {w : World} (h : wpAny P .any ops (normalQ Q) ops.size (Array.replicate ops.size false) a { w with drawn := w.drawn + 1 }) : (Code.region id ops true).wpIn (rd ro) 0 P Q a w :=
  wpIn_mono (wpIn_region_any hm (any_in normalQ_out hnd h)) normalQ_imp
theorem wp_rounds_in {F : Fence} {n0 : Nat} {c : Code} (J : Nat → Act → World → Prop) (round : ∀ n a w, J n a w → c.wpIn F n0 P (Exit.then (fun a' w' => ∃ n', n' < n ∧ J n' a' w') Q) a w) {n : Nat} {a : Act} {w : World} (h : J n a w) : (Code.loop c).wpIn F n0 P Q a w := by
  intro b k cs hro hb hr
  have key : ∀ n a w, J n a w → ∃ e a' w', Q e a' w' ∧ ArrivesIn (Machine.fenced P F) P (lone (b.atR a (.code c :: .inLoop c :: k)) cs w) b k cs e a' w' := by
    intro n
    induction n using Nat.strongRecOn with
    | _ n ih =>
      intro a w hJ
      obtain ⟨e, a₁, w₁, hq, harr⟩ := round n a w hJ b (.inLoop c :: k) cs hro hb hr
      cases e with
      | normal =>
        obtain ⟨n', hlt, hJ'⟩ := hq
        obtain ⟨e₂, a₂, w₂, hq₂, harr₂⟩ := ih n' hlt a₁ w₁ hJ'
        exact ⟨e₂, a₂, w₂, hq₂, .of_steps (StepsIn.trans harr (.one (fenced_calm hb hr rfl) stepR_inLoop)) harr₂⟩
      | exit id => exact ⟨_, a₁, w₁, hq, .pass (x := .inLoop c) rfl (fun _ _ => .inl (by simp)) harr⟩
      | goto l => exact ⟨_, a₁, w₁, hq, .pass (x := .inLoop c) rfl (fun _ _ => .inl (by simp)) harr⟩
      | ret => exact ⟨_, a₁, w₁, hq, .pass (x := .inLoop c) rfl (fun _ _ => .inl (by simp)) harr⟩
      | panic ch => exact ⟨_, a₁, w₁, hq, .pass (x := .inLoop c) rfl (fun _ _ => .inl (by simp)) harr⟩
      | outgrown => exact ⟨_, a₁, w₁, hq, .pass (x := .inLoop c) rfl (fun _ _ => .inl (by simp)) harr⟩
  obtain ⟨e, a', w', hq, harr⟩ := key n a w h
  exact ⟨e, a', w', hq, .of_steps (.one (fenced_calm hb hr rfl) stepR_loop) harr⟩
end
end Go.Proofs.YtplooifpgmlofaaGreat
