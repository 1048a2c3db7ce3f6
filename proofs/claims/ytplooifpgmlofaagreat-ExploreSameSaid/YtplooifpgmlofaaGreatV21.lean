/- Regions that draw their order, ahead of which rows are let go as data, as a list of hints says. No condition. -/
import Derived.Test.YtplooifpgmlofaaGreatV20
namespace Go.Proofs.YtplooifpgmlofaaGreat
open Go.RowKit

def see1 (e : Bool × Nat) (σ : Sta) (K : Sta → Prop) : Prop := match e.1 with
  | true => match look e.2 σ.slots with
    | some p => p.is2 = true ∧ (viewA σ.mem p).1 ∧ K ⟨σ.n, (e.2, (viewA σ.mem p).2.2) :: σ.slots, (viewA σ.mem p).2.1⟩
    | none => False
  | false => match look e.2 σ.mem with
    | some (.box t cells) => (viewL σ.mem cells).1 ∧ look e.2 (viewL σ.mem cells).2.1 = some (.box t cells) ∧ K ⟨σ.n, σ.slots, (e.2, .box t (viewL σ.mem cells).2.2) :: (viewL σ.mem cells).2.1⟩
    | _ => False
def sees : List (Bool × Nat) → (Sta → Prop) → Sta → Prop
  | [], K, σ => K σ
  | e :: r, K, σ => see1 e σ (sees r K)
section
variable {P : Program} {tb : Tab} {B : Base} {m : Map} {S : Cells} {σ : Sta} {a : Act} {w : World}
theorem see1_ok (h : Sim B m S σ a w) {e : Bool × Nat} {K : Sta → Prop} (hv : see1 e σ K) : ∃ S' σ', Sim B m S' σ' a w ∧ K σ' := by
  obtain ⟨b, k⟩ := e
  cases b with
  | true =>
    unfold see1 at hv
    simp only at hv
    split at hv
    · rename_i p hp
      obtain ⟨h1, h2, h3⟩ := hv
      obtain ⟨v, g1, g2⟩ := h.slots k p hp
      obtain ⟨S', k1, k2, k3⟩ := viewA_ok h g2 h1 h2
      refine ⟨S', ⟨σ.n, (k, (viewA σ.mem p).2.2) :: σ.slots, (viewA σ.mem p).2.1⟩, { toMemOk := k1.toMemOk, defers := k1.defers, size := k1.size, frozen := k1.frozen, slots := fun i q hq => ?_ }, h3⟩
      rcases look_cons hq with ⟨rfl, rfl⟩ | ⟨_, hq⟩
      · exact ⟨v, g1, k3⟩
      · exact k1.slots i q hq
    · exact hv.elim
  | false =>
    unfold see1 at hv
    simp only at hv
    split at hv
    · rename_i t cells hk
      obtain ⟨h1, h2, h3⟩ := hv
      obtain ⟨b, c, arr, o1, o2, o3, o4⟩ := h.objs k _ hk
      obtain ⟨S', k1, k2, k3⟩ := viewL_ok h o3 h1
      obtain ⟨b', c', arr', p1, p2, p3, p4⟩ := k1.objs k _ h2
      rw [o1] at p1; cases p1
      rw [o2] at p2; cases p2
      refine ⟨S', ⟨σ.n, σ.slots, (k, .box t (viewL σ.mem cells).2.2) :: (viewL σ.mem cells).2.1⟩, { dom := fun j l hj => ?_, objs := fun j q hq => ?_, subs := k1.toMemOk.againS h2 (.inl rfl), subx := k1.toMemOk.againX h2, parts := k1.parts, young := k1.young, grow := k1.grow, sold := k1.sold, snew := k1.snew, sin := k1.sin, scell := k1.scell, ext := fun q l h1 h2 h3 => (k1.ext q l h1 h2 h3).imp id fun ⟨g1, g2⟩ => ⟨look_more g1, g2⟩, marks := k1.marks, defers := k1.defers, size := k1.size, frozen := k1.frozen, slots := k1.slots }, h3⟩
      · show (look j ((k, MObj.box t (viewL σ.mem cells).2.2) :: (viewL σ.mem cells).2.1)).isSome = true
        unfold look
        split
        · rfl
        · exact k1.dom j l hj
      · rcases look_cons hq with ⟨rfl, rfl⟩ | ⟨_, hq⟩
        · exact ⟨b, c, arr, o1, o2, k3, p4⟩
        · exact k1.objs j q hq
    · exact hv.elim
theorem sees_ok : ∀ {l : List (Bool × Nat)} {S : Cells} {σ : Sta} {K : Sta → Prop}, Sim B m S σ a w → sees l K σ → ∃ S' σ', Sim B m S' σ' a w ∧ K σ'
  | [], S, σ, K, h, hv => ⟨S, σ, h, hv⟩
  | e :: r, S, σ, K, h, hv => by
    obtain ⟨S', σ', h1, h2⟩ := see1_ok h hv
    exact sees_ok h1 h2
end
def vcDrawS (hs : List (Nat × List (Bool × Nat))) (P : Program) (tb : Tab) (ops : Array Oper) (K : Sta → Prop) (σ : Sta) : Prop :=
  match look (((ops[0]?).bind (·.dst)).getD 0) hs with
  | some l => sees l (vcDraw P tb ops K) σ
  | none => vcDraw P tb ops K σ
section
variable {P : Program} {tb : Tab} {hs : List (Nat × List (Bool × Nat))} {ops : Array Oper} {K : Sta → Prop} {σ : Sta}
@[simp] theorem vcDrawS_eq : vcDrawS hs P tb ops K σ = (match look (((ops[0]?).bind (·.dst)).getD 0) hs with
  | some l => sees l (vcDraw P tb ops K) σ
  | none => vcDraw P tb ops K σ) := _root_.id rfl
@[simp] theorem sees_nil : sees [] K σ = K σ := _root_.id rfl
@[simp] theorem sees_cons {e : Bool × Nat} {r : List (Bool × Nat)} : sees (e :: r) K σ = see1 e σ (sees r K) := _root_.id rfl
@[simp] theorem see1_slot {k : Nat} : see1 (true, k) σ K = (match look k σ.slots with
    | some p => p.is2 = true ∧ (viewA σ.mem p).1 ∧ K ⟨σ.n, (k, (viewA σ.mem p).2.2) :: σ.slots, (viewA σ.mem p).2.1⟩
    | none => False) := rfl
@[simp] theorem see1_box {k : Nat} : see1 (false, k) σ K = (match look k σ.mem with
    | some (.box t cells) => (viewL σ.mem cells).1 ∧ look k (viewL σ.mem cells).2.1 = some (.box t cells) ∧ K ⟨σ.n, σ.slots, (k, .box t (viewL σ.mem cells).2.2) :: (viewL σ.mem cells).2.1⟩
    | _ => False) := rfl
theorem vc_cut {D : DrawT} {x z : Code} {K : Exit → Sta → Prop} {σ : Sta} (T : Sta → Prop) (hT : ∀ σ', T σ' → vcCode P tb D z K σ')
    (h : ∀ T' : Sta → Prop, (∀ σ', T σ' → T' σ') → vcCode P tb D x (kSeq T' K) σ) : vcCode P tb D (.seq x z) K σ := h _ hT
end
end Go.Proofs.YtplooifpgmlofaaGreat
