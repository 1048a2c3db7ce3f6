/- What is to be shown of code, of a function's end, of a function: a contract out of its body. No condition. -/
import Derived.Test.YtakmipccgpgfgaaV13
namespace Go.Proofs.Ytakmipccgpgfgaa
open Go.RowKit

/-- Round after round, each of a smaller number. -/
theorem wp_rounds {P : Program} {c : Code} {Q : Exit → Act → World → Prop} (J : Nat → Act → World → Prop) (round : ∀ n a w, J n a w → c.wp P (Exit.then (fun a' w' => ∃ n', n' < n ∧ J n' a' w') Q) a w) {n : Nat} {a : Act} {w : World} (h : J n a w) : (Code.loop c).wp P Q a w := by
  intro b k cs
  have key : ∀ n a w, J n a w → ∃ e a' w', Q e a' w' ∧ Arrives P (lone (b.at a (.code c :: .inLoop c :: k)) cs w) b k cs e a' w' := by
    intro n
    induction n using Nat.strongRecOn with
    | _ n ih =>
      intro a w hJ
      obtain ⟨e, a₁, w₁, hq, harr⟩ := round n a w hJ b (.inLoop c :: k) cs
      cases e with
      | normal =>
        obtain ⟨n', hlt, hJ'⟩ := hq
        obtain ⟨e₂, a₂, w₂, hq₂, harr₂⟩ := ih n' hlt a₁ w₁ hJ'
        exact ⟨e₂, a₂, w₂, hq₂, .of_steps (Steps.trans harr (.one step_inLoop)) harr₂⟩
      | _ => exact ⟨_, a₁, w₁, hq, .pass (x := .inLoop c) rfl (fun _ _ => .inl (by simp)) harr⟩
  obtain ⟨e, a', w', hq, harr⟩ := key n a w h
  exact ⟨e, a', w', hq, .of_steps (.one step_loop) harr⟩

section
variable (P : Program) (tb : Tab)
def kSeq (N : Sta → Prop) (K : Exit → Sta → Prop) : Exit → Sta → Prop
  | .normal, σ => N σ
  | e, σ => K e σ
def kBlock (id : Nat) (K : Exit → Sta → Prop) : Exit → Sta → Prop
  | .exit j, σ => if j = id then K .normal σ else K (.exit j) σ
  | e, σ => K e σ
/-- A loop: what holds before each round, by a number that grows less. -/
def kLoop (I : Nat → Sta → Prop) (n : Nat) (K : Exit → Sta → Prop) : Exit → Sta → Prop := kSeq (fun σ => ∃ n' σ', n' < n ∧ I n' σ' ∧ Later σ σ') K
/-- A region that draws its order: to be said elsewhere. -/
def vcCode (D : Array Oper → (Sta → Prop) → Sta → Prop) : Code → (Exit → Sta → Prop) → Sta → Prop
  | .skip, K, σ => K .normal σ
  | .label _, K, σ => K .normal σ
  | .region _ ops draw, K, σ => if draw then D ops (K .normal) σ else vcOps P tb ops ops.toList (K .normal) σ
  | .seq x y, K, σ => vcCode D x (kSeq (vcCode D y K) K) σ
  | .cond c x y, K, σ => match σ.ev c with
    | some (.d (.v (.bool t))) => (t = true → vcCode D x K σ) ∧ (t = false → vcCode D y K σ)
    | _ => False
  | .block id c, K, σ => vcCode D c (kBlock id K) σ
  | .loop c, K, σ => ∃ I : Nat → Sta → Prop, (∃ n σ', I n σ' ∧ Later σ σ') ∧ ∀ n σ', I n σ' → vcCode D c (kLoop I n K) σ'
  | .exit id, K, σ => K (.exit id) σ
  | .ret, K, σ => K .ret σ
  | _, _, _ => False
end

section
variable {P : Program} {tb : Tab} {B : Base} {m : Map} {S : Cells} {σ σ' : Sta} {a : Act} {w : World}
/-- The drawn regions' rule. -/
def DrawOk (P : Program) (D : Array Oper → (Sta → Prop) → Sta → Prop) : Prop :=
  ∀ (B : Base) (id : Nat) (ops : Array Oper) (K : Sta → Prop) (Q : Exit → Act → World → Prop), (∀ m S σ a w, Sim B m S σ a w → K σ → Q .normal a w) → ∀ m S σ a w, Sim B m S σ a w → D ops K σ → (Code.region id ops true).wp P Q a w

theorem vcCode_ok (hT : TabOk P tb) {D : Array Oper → (Sta → Prop) → Sta → Prop} (hD : DrawOk P D) : ∀ (c : Code) {K : Exit → Sta → Prop} {Q : Exit → Act → World → Prop}, (∀ e m S σ a w, Sim B m S σ a w → K e σ → Q e a w) → ∀ {m : Map} {S : Cells} {σ : Sta} {a : Act} {w : World}, Sim B m S σ a w → vcCode P tb D c K σ → c.wp P Q a w
  | .skip, K, Q, hK, m, S, σ, a, w, h, hv => wp_skip (hK _ _ _ _ _ _ h hv)
  | .label _, K, Q, hK, m, S, σ, a, w, h, hv => wp_label (hK _ _ _ _ _ _ h hv)
  | .region id ops draw, K, Q, hK, m, S, σ, a, w, h, hv => by
    unfold vcCode at hv
    split at hv
    · rename_i hd
      subst hd
      exact hD B id ops (K .normal) Q (fun m S σ a w h hk => hK _ _ _ _ _ _ h hk) m S σ a w h hv
    · rename_i hd
      have hd : draw = false := by simpa using hd
      subst hd
      exact wp_region_list (vcOps_ok hT (fun m S σ a w h hk => hK .normal m S σ a w h hk) ops.toList h hv)
  | .seq x y, K, Q, hK, m, S, σ, a, w, h, hv => by
    refine wp_seq (vcCode_ok hT hD x (K := kSeq (vcCode P tb D y K) K) ?_ h hv)
    intro e m S σ a w h hk
    cases e with
    | normal => exact vcCode_ok hT hD y hK h hk
    | _ => exact hK _ _ _ _ _ _ h hk
  | .cond c x y, K, Q, hK, m, S, σ, a, w, h, hv => by
    unfold vcCode at hv
    split at hv
    · rename_i t ht
      refine wp_cond_split (t := t) (ev_v h ht) (fun e => vcCode_ok hT hD x hK h (hv.1 e)) fun e => vcCode_ok hT hD y hK h (hv.2 e)
    · exact hv.elim
  | .block id c, K, Q, hK, m, S, σ, a, w, h, hv => by
    refine wp_block (vcCode_ok hT hD c (K := kBlock id K) ?_ h hv)
    intro e m S σ a w h hk
    cases e with
    | exit j =>
      unfold kBlock at hk
      unfold Exit.inBlock
      dsimp only at hk ⊢
      split at hk
      · rename_i e; rw [if_pos e]; exact hK _ _ _ _ _ _ h hk
      · rename_i e; rw [if_neg e]; exact hK _ _ _ _ _ _ h hk
    | _ => exact hK _ _ _ _ _ _ h hk
  | .loop c, K, Q, hK, m, S, σ, a, w, h, hv => by
    obtain ⟨I, ⟨n0, σ0, h0, hl⟩, hr⟩ := hv
    refine wp_rounds (fun n a w => ∃ m S σ, Sim B m S σ a w ∧ I n σ) ?_ (n := n0) ?_
    · rintro n a w ⟨m, S, σ, hs, hi⟩
      refine vcCode_ok hT hD c (K := kLoop I n K) ?_ hs (hr n σ hi)
      intro e m S σ a w h hk
      cases e with
      | normal =>
        obtain ⟨n', σ', h1, h2, h3⟩ := hk
        obtain ⟨m', S', g⟩ := later_ok h h3
        exact ⟨n', h1, m', S', σ', g, h2⟩
      | _ => exact hK _ _ _ _ _ _ h hk
    · obtain ⟨m', S', g⟩ := later_ok h hl
      exact ⟨m', S', σ0, g, h0⟩
  | .exit id, K, Q, hK, m, S, σ, a, w, h, hv => wp_exit (hK _ _ _ _ _ _ h hv)
  | .ret, K, Q, hK, m, S, σ, a, w, h, hv => wp_ret (hK _ _ _ _ _ _ h hv)
  | .rangeFunc .., _, _, _, _, _, _, _, _, _, hv => hv.elim
  | .scope _, _, _, _, _, _, _, _, _, _, hv => hv.elim
  | .goto _, _, _, _, _, _, _, _, _, _, hv => hv.elim
  | .refuse _, _, _, _, _, _, _, _, _, _, hv => hv.elim
end

/-! ### The end of a function -/
def resVals (tb : Tab) (σ : Sta) : List ResultVar → Option (Prop × List PV)
  | [] => some (True, [])
  | .tmp t :: r => match look t σ.slots, resVals tb σ r with
    | some p, some (c, ps) => if p.is2 then some (c, p :: ps) else none
    | _, _ => none
  | .cell x t :: r => match look x σ.slots, resVals tb σ r with
    | some p, some (c, ps) => match vLoad tb σ t p with
      | some (c', q) => if q.is2 then some (c' ∧ c, q :: ps) else none
      | none => none
    | _, _ => none
/-- What is handed back is data, but the rows that are handed over. -/
def viewR1 (nk : List Nat) (mem : Mem) : PV → Prop × Mem × PV
  | .rw k n => if nk.contains k || decide (1000000 ≤ k) then (True, mem, .rw k n) else view1 mem (.rw k n)
  | p => view1 mem p
def viewRL (nk : List Nat) (mem : Mem) : List PV → Prop × Mem × List PV
  | [] => (True, mem, [])
  | p :: r => ((viewR1 nk mem p).1 ∧ (viewRL nk (viewR1 nk mem p).2.1 r).1, (viewRL nk (viewR1 nk mem p).2.1 r).2.1, (viewR1 nk mem p).2.2 :: (viewRL nk (viewR1 nk mem p).2.1 r).2.2)
def viewR (nk : List Nat) (mem : Mem) : PV → Prop × Mem × PV
  | .agg cs => ((viewRL nk mem cs).1, (viewRL nk mem cs).2.1, .agg (viewRL nk mem cs).2.2)
  | p => viewR1 nk mem p
def viewRs (nk : List Nat) (mem : Mem) : List PV → Prop × Mem × List PV
  | [] => (True, mem, [])
  | p :: r => ((viewR nk mem p).1 ∧ (viewRs nk (viewR nk mem p).2.1 r).1, (viewRs nk (viewR nk mem p).2.1 r).2.1, (viewR nk mem p).2.2 :: (viewRs nk (viewR nk mem p).2.1 r).2.2)
def oneV (ps : List PV) : PV := match ps with
  | [p] => p
  | ps => .tup ps
/-- The number outside of an object that is handed over. -/
def toR (nk : List Nat) (k : Nat) : Nat := if nk.contains k then 2000000 + nk.idxOf k else k
def exts (mem : Mem) : Nat → Nat → List MObj
  | 0, _ => []
  | n + 1, k => ((look k mem).getD default) :: exts mem n (k + 1)
def outOk (nx : Nat) (nk : List Nat) (mem : Mem) (ps : List PV) : Bool :=
  nodupB nk && nk.all (fun k => decide (k < 1000000) && (look k mem).isSome && (objKeys mem k).all fun j => nk.contains j) && decide (nk.length ≤ 90) &&
  (List.range nx).all (fun i => (look (1000000 + i) mem).isSome && (objKeys mem (1000000 + i)).all fun j => nk.contains j || (decide (1000000 ≤ j) && decide (j < 1000000 + nx))) &&
  ps.all fun p => p.keys.all fun j => nk.contains j || (decide (1000000 ≤ j) && decide (j < 1000000 + nx))
def vcRet0 (tb : Tab) (nx : Nat) (rs : List ResultVar) (Q : Res → Prop) (σ : Sta) : Prop := ∃ nk : List Nat, ∃ r : Res,
  match resVals tb σ rs with
  | some (c, ps) => c ∧ (viewRs nk σ.mem ps).1 ∧ outOk nx nk (viewRs nk σ.mem ps).2.1 (viewRs nk σ.mem ps).2.2 = true ∧
      Q r ∧ Le ((oneV (viewRs nk σ.mem ps).2.2).ren (toR nk)) r.val ∧ All2 LeO ((exts (viewRs nk σ.mem ps).2.1 nx 1000000).map (MObj.ren (toR nk))) r.ext ∧ All2 LeO (nk.map fun k => ((look k (viewRs nk σ.mem ps).2.1).getD default).ren (toR nk)) r.new
  | none => False
/-- .. said otherwise before, where that helps. -/
def vcRet (tb : Tab) (nx : Nat) (rs : List ResultVar) (Q : Res → Prop) (σ : Sta) : Prop := ∃ pr σ1, Prep.all σ pr = some σ1 ∧ vcRet0 tb nx rs Q σ1
end Go.Proofs.Ytakmipccgpgfgaa
