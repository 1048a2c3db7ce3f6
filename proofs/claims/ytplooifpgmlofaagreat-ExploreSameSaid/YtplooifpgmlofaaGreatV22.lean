/- Regions that draw their order, of which only what is read and written is kept. No condition. -/
import Derived.Test.YtplooifpgmlofaaGreatV21
namespace Go.Proofs.YtplooifpgmlofaaGreat
open Go.RowKit

def flag : Bool → PV
  | true => .d (.v (.bool true))
  | false => .any
def strip (e : Eff) : Eff := ⟨True, .agg (flag e.val.sure :: e.names.map fun k => .ptr k 0), e.set.map fun x => (x.1, .box 0 []), e.kill, e.reads⟩
section
variable {P : Program} {tb : Tab} {ops : Array Oper} {B : Base} {m : Map} {S : Cells} {σ : Sta} {a : Act} {w : World}
theorem strip_writes (e : Eff) : (strip e).writes = e.writes := by
  obtain ⟨c, v, s, k, r⟩ := e
  simp [strip, Eff.writes, List.map_map, Function.comp_def]
theorem strip_foot (e : Eff) : (strip e).foot = e.foot := by
  have hw := strip_writes e
  show e.reads ++ (strip e).writes = _
  rw [hw]; rfl
theorem strip_names (e : Eff) : (strip e).names = e.names := by
  have h0 : List.flatMap (fun x : Nat × MObj => x.2.keys) (strip e).set = [] := by
    simp [strip, MObj.keys, List.flatMap_map]
  show (strip e).val.keys ++ _ = _
  rw [h0, List.append_nil]
  show (flag e.val.sure :: e.names.map fun k => PV.ptr k 0).flatMap PV.keys1 = e.names
  rw [List.flatMap_cons, show (flag e.val.sure).keys1 = [] by cases e.val.sure <;> rfl, List.nil_append, List.flatMap_map]
  generalize e.names = l
  induction l with
  | nil => rfl
  | cons k l ih => rw [List.flatMap_cons, ih]; rfl
theorem strip_sure (e : Eff) : (strip e).val.sure = e.val.sure := by
  show (flag e.val.sure :: e.names.map fun k => PV.ptr k 0).all PV.sure1 = _
  rw [List.all_cons, List.all_map, show (flag e.val.sure).sure1 = e.val.sure by cases e.val.sure <;> rfl]
  have : (e.names.all (PV.sure1 ∘ fun k => PV.ptr k 0)) = true := List.all_eq_true.2 fun x _ => rfl
  rw [this, Bool.and_true]
theorem getD_strip (E : List Eff) (k : Nat) : ((E.map strip).getD k default).writes = (E.getD k default).writes ∧ ((E.map strip).getD k default).foot = (E.getD k default).foot ∧ ((E.map strip).getD k default).names = (E.getD k default).names ∧ ((E.map strip).getD k default).kill = (E.getD k default).kill ∧ ((E.map strip).getD k default).reads = (E.getD k default).reads ∧ ((E.map strip).getD k default).val.sure = (E.getD k default).val.sure := by
  rw [List.getD_eq_getElem?_getD, List.getD_eq_getElem?_getD, List.getElem?_map]
  cases E[k]? with
  | none => exact ⟨rfl, rfl, rfl, rfl, rfl, rfl⟩
  | some e => exact ⟨strip_writes e, strip_foot e, strip_names e, rfl, rfl, strip_sure e⟩
theorem freeB_strip (E : List Eff) (k : Nat) (listed : Array Bool) : freeB ops (E.map strip) k listed = freeB ops E k listed := by
  have h : ∀ oi oj j, indep ops oi oj ((E.map strip).getD k default) ((E.map strip).getD j default) = indep ops oi oj (E.getD k default) (E.getD j default) := fun oi oj j => by
    unfold indep clearB loadB
    obtain ⟨a1, a2, a3, a4, a5, a6⟩ := getD_strip E k
    obtain ⟨b1, b2, b3, b4, b5, b6⟩ := getD_strip E j
    rw [a1, a2, a3, a4, a5, a6, b1, b2, b3, b4, b5, b6]
  simp only [freeB, h]
theorem textB_strip (E : List Eff) : ∀ (n k : Nat) (listed : Array Bool), textB ops (E.map strip) n k listed = textB ops E n k listed
  | 0, _, _ => rfl
  | n + 1, k, listed => by
    unfold textB
    rw [freeB_strip, textB_strip E n]
end
section
variable (P : Program) (tb : Tab)
def vcQ (ops : Array Oper) (K : List Eff → Sta → Prop) : List Oper → List Eff → Sta → Prop
  | [], acc, σ => K acc.reverse σ
  | o :: r, acc, σ => σ.has o.dst = true ∧ match o.guard with
    | none => vcEff P tb o σ fun e σ' => vcQ ops K r (strip e :: acc) σ'
    | some (j, want) => match (ops[j]?).bind (·.dst) with
      | some d => match look d σ.slots with
        | some (.d (.v (.bool b))) => (b = want → vcEff P tb o σ fun e σ' => vcQ ops K r (strip e :: acc) σ') ∧ (b = !want → vcQ ops K r (strip idleEff :: acc) (σ.put o.dst idleV))
        | some (.d (.v (.tuple _))) => vcQ ops K r (strip idleEff :: acc) (σ.put o.dst idleV)
        | _ => False
      | none => False
def vcDrawQ (ops : Array Oper) (K : Sta → Prop) (σ : Sta) : Prop := vcQ P tb ops (fun E σ' => textB ops E ops.size 0 (Array.replicate ops.size false) = true ∧ K σ') ops.toList [] σ
end
section
variable {P : Program} {tb : Tab} {ops : Array Oper} {B : Base} {m : Map} {S : Cells} {σ : Sta} {a : Act} {w : World}
theorem vcQ_ok {K' : List Eff → Sta → Prop} : ∀ {l : List Oper} {acc : List Eff} {σ : Sta}, vcQ P tb ops K' l acc σ → ∃ es σ', Walk P tb ops (fun s => s = σ') l es σ ∧ K' (acc.reverse ++ es.map strip) σ'
  | [], acc, σ, h => ⟨[], σ, rfl, by rw [List.map_nil, List.append_nil]; exact h⟩
  | o :: r, acc, σ, h => by
    obtain ⟨hd, h⟩ := h
    have go : wantedS ops σ o = some true → (vcEff P tb o σ fun e σ' => vcQ P tb ops K' r (strip e :: acc) σ') → ∃ es σ', Walk P tb ops (fun s => s = σ') (o :: r) es σ ∧ K' (acc.reverse ++ es.map strip) σ' := fun hw hv => by
      obtain ⟨e, h1, h2, σ1, h3, rfl⟩ := vcEff_ok hd hw hv
      obtain ⟨es, σ', k1, k2⟩ := vcQ_ok h3
      exact ⟨e :: es, σ', ⟨h1, h2, k1⟩, by rw [List.reverse_cons, List.append_assoc] at k2; exact k2⟩
    split at h
    · rename_i hg
      exact go (by unfold wantedS; rw [hg]) h
    · rename_i j want hg
      split at h
      · rename_i d hdd
        split at h
        · rename_i b hb
          by_cases hbw : b = want
          · exact go (by unfold wantedS; rw [hg]; dsimp only; rw [hdd]; dsimp only; rw [hb]; simp only [hbw, beq_self_eq_true]) (h.1 hbw)
          · have hbn : b = !want := by cases b <;> cases want <;> first | rfl | exact absurd rfl hbw
            obtain ⟨es, σ', k1, k2⟩ := vcQ_ok (h.2 hbn)
            refine ⟨idleEff :: es, σ', ⟨⟨hd, .inr ⟨?_, rfl⟩⟩, trivial, ?_⟩, by rw [List.reverse_cons, List.append_assoc] at k2; exact k2⟩
            · unfold wantedS; rw [hg]; dsimp only; rw [hdd]; dsimp only; rw [hb, hbn]; cases want <;> rfl
            · unfold idleEff; rw [app_put]; exact k1
        · rename_i us hb
          obtain ⟨es, σ', k1, k2⟩ := vcQ_ok h
          refine ⟨idleEff :: es, σ', ⟨⟨hd, .inr ⟨?_, rfl⟩⟩, trivial, ?_⟩, by rw [List.reverse_cons, List.append_assoc] at k2; exact k2⟩
          · unfold wantedS; rw [hg]; dsimp only; rw [hdd]; dsimp only; rw [hb]
          · unfold idleEff; rw [app_put]; exact k1
        · exact h.elim
      · exact h.elim
theorem drawQ_ok (hT : TabOk P tb) (hm : P.follows .mixedOrders = true) : DrawOk P (vcDrawQ P tb) := by
  refine ⟨hm, fun B ops K Q hK m S σ a w h hv => ?_⟩
  obtain ⟨es, σ', h1, h2, h3⟩ := vcQ_ok hv
  have hKK : ∀ s s', Equ s s' → (∀ m S a w, Sim B m S s a w → Q .normal a w) → (∀ m S a w, Sim B m S s' a w → Q .normal a w) := fun s s' e hs m S a w h => hs m S a w (h.equ ⟨e.n.symm, fun i => (e.slots i).symm, fun k => (e.mem k).symm⟩)
  refine AnyS_ok (P := P) (tb := tb) (B := B) (E := fun i => es.getD i default) (K := fun s => ∀ m S a w, Sim B m S s a w → Q .normal a w) hT (fun σ m S a w h hs => hs m S a w h) _ _ σ m S a _ h.drewn ?_
  have hsz : ops.size = ops.toList.length := by simp
  rw [hsz]
  refine AnyS_text hKK ops.toList es 0 _ σ (by simp) (by simp) ?_ (Walk.imp (K := fun s => s = σ') (fun s hs m S a w h => hK m S s a w h (by rw [hs]; exact h3)) h1)
  rw [List.reverse_nil, List.nil_append, textB_strip] at h2
  simpa using h2
end
def vcDrawH (hs : List (Nat × List (Bool × Nat))) (P : Program) (tb : Tab) (ops : Array Oper) (K : Sta → Prop) (σ : Sta) : Prop :=
  match look (((ops[0]?).bind (·.dst)).getD 0) hs with
  | some l => sees l (vcDrawQ P tb ops K) σ
  | none => vcDrawQ P tb ops K σ
theorem drawH_ok {P : Program} {tb : Tab} (hs : List (Nat × List (Bool × Nat))) (hT : TabOk P tb) (hm : P.follows .mixedOrders = true) : DrawOk P (vcDrawH hs P tb) := by
  refine ⟨hm, fun B ops K Q hK m S σ a w h hv => ?_⟩
  have hv : vcDrawH hs P tb ops K σ := hv
  unfold vcDrawH at hv
  split at hv
  · obtain ⟨S', σ', h1, h2⟩ := sees_ok h hv
    exact (drawQ_ok hT hm).2 B ops K Q hK m S' σ' a w h1 h2
  · exact (drawQ_ok hT hm).2 B ops K Q hK m S σ a w h hv
theorem meetsH (hs : List (Nat × List (Bool × Nat))) {P : Program} {tb : Tab} (hT : TabOk P tb) (hm : P.follows .mixedOrders = true) {f : Nat} {fn : Func} {c : Code} (hf : P.funcs[f]? = some fn) (hp : Plain P f) {args : List PV} {ext : List MObj} {Q : Res → Prop} (hb : fn.body = some c)
    (hc : (decide (fn.ntmps < 10000) && decide (args.length ≤ fn.ntmps) && decide (ext.length < 1000000)) = true) (hv : vcCode P tb (vcDrawH hs P tb) c (kEnd tb ext.length fn.results.toList Q) ⟨fn.ntmps, argSlots 0 args, extMem 1000000 ext⟩) : Meets P f args ext Q :=
  meets_of hT (drawH_ok hs hT hm) hf hb hp hc hv
theorem meetsP (ps : List (Nat × List Prep)) {P : Program} {tb : Tab} (hT : TabOk P tb) (hm : P.follows .mixedOrders = true) {f : Nat} {fn : Func} {c : Code} (hf : P.funcs[f]? = some fn) (hp : Plain P f) {args : List PV} {ext : List MObj} {Q : Res → Prop} (hb : fn.body = some c)
    (hc : (decide (fn.ntmps < 10000) && decide (args.length ≤ fn.ntmps) && decide (ext.length < 1000000)) = true) (hv : vcCode P tb ⟨vcDrawH [] P tb, ps⟩ c (kEnd tb ext.length fn.results.toList Q) ⟨fn.ntmps, argSlots 0 args, extMem 1000000 ext⟩) : Meets P f args ext Q :=
  meets_of hT (show DrawOk P ⟨vcDrawH [] P tb, ps⟩ from drawH_ok [] hT hm) hf hb hp hc hv
def stepQ (P : Program) (tb : Tab) (ops : Array Oper) (K : List Eff → Sta → Prop) (r : List Oper) (acc : List Eff) : Eff → Sta → Prop := fun e σ => vcQ P tb ops K r (strip e :: acc) σ
section
variable {P : Program} {tb : Tab} {hs : List (Nat × List (Bool × Nat))} {ops : Array Oper} {σ : Sta} {r : List Oper} {acc : List Eff}
@[simp] theorem vcDrawH_eq {K : Sta → Prop} : vcDrawH hs P tb ops K σ = (match look (((ops[0]?).bind (·.dst)).getD 0) hs with
  | some l => sees l (vcDrawQ P tb ops K) σ
  | none => vcDrawQ P tb ops K σ) := _root_.id rfl
@[simp] theorem vcDrawQ_eq {K : Sta → Prop} : vcDrawQ P tb ops K σ = vcQ P tb ops (drawEnd ops K) ops.toList [] σ := _root_.id rfl
@[simp] theorem stepQ_app {K : List Eff → Sta → Prop} {e : Eff} : stepQ P tb ops K r acc e σ = vcQ P tb ops K r (strip e :: acc) σ := _root_.id rfl
@[simp] theorem strip_mk {c : Prop} {v : PV} {s : Mem} {k : Option Nat} {rd : List Nat} : strip ⟨c, v, s, k, rd⟩ = ⟨True, .agg (flag v.sure :: (v.keys ++ s.flatMap fun x => x.2.keys).map fun k => .ptr k 0), s.map fun x => (x.1, .box 0 []), k, rd⟩ := rfl
@[simp] theorem vcQ_nil {K : List Eff → Sta → Prop} : vcQ P tb ops K [] acc σ = K acc.reverse σ := _root_.id rfl
@[simp] theorem vcQ_cons {K : List Eff → Sta → Prop} {o : Oper} : vcQ P tb ops K (o :: r) acc σ = (σ.has o.dst = true ∧ match o.guard with
    | none => vcEff P tb o σ (stepQ P tb ops K r acc)
    | some (j, want) => match (ops[j]?).bind (·.dst) with
      | some d => match look d σ.slots with
        | some (.d (.v (.bool b))) => both b want (vcEff P tb o σ (stepQ P tb ops K r acc)) (vcQ P tb ops K r (strip idleEff :: acc) (σ.put o.dst idleV))
        | some (.d (.v (.tuple _))) => vcQ P tb ops K r (strip idleEff :: acc) (σ.put o.dst idleV)
        | _ => False
      | none => False) := _root_.id rfl
end
attribute [simp] flag PV.sure PV.sure1
end Go.Proofs.YtplooifpgmlofaaGreat
