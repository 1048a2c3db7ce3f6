/- Maps of the call's own, seen through plain values: what is under a key. No condition. -/
import Derived.Test.YtplooifpgmlofaaGreatV5
import Derived.MapKept
namespace Go.Proofs.YtplooifpgmlofaaGreat
open Go.RowKit

def mFind (kind : TypeDesc) (k : Value) : List (Value × Value) → Option (Option Value)
  | [] => some none
  | (k', v) :: r => match Instr.sameNow kind k k' with
    | some true => some (some v)
    | some false => mFind kind k r
    | none => none
def mPut (kind : TypeDesc) (k v : Value) : List (Value × Value) → Option (List (Value × Value))
  | [] => some [(k, v)]
  | (k', v') :: r => match Instr.sameNow kind k k' with
    | some true => some ((k, v) :: r)
    | some false => (mPut kind k v r).map ((k', v') :: ·)
    | none => none
def plainKey : TypeDesc → Value → Bool
  | .int _, .int _ _ => true
  | .string, .string _ => true
  | .bool, .bool _ => true
  | _, _ => false
def vLk (tb : Tab) (t : Nat) (ob : Option MObj) (q : PV) : Option (Prop × PV) :=
  match q, (look t tb).map TI.desc with
  | .d (.v k), some (.map kt et) => match look kt tb, look et tb, ob with
    | some ki, some ei, some (.map es) => match plainKey ki.desc k, isA ei.desc, ei.zero, mFind ki.desc k es with
      | true, false, [z], some r => some (True, .d (.v (r.getD z)))
      | _, _, _, _ => none
    | _, _, _ => none
  | _, _ => none
def vLookup (tb : Tab) (σ : Sta) (t : Nat) (p q : PV) : Option (Prop × PV) :=
  match p with
  | .mp key => vLk tb t (look key σ.mem) q
  | _ => none

section
variable {P : Program} {tb : Tab} {B : Base} {m : Map} {S : Cells} {σ : Sta} {a : Act} {w : World}
theorem findNow_ok {kind : TypeDesc} {k : Value} : ∀ {ents : List MapEntry} {i : Nat} {r : Option Value}, mFind kind k (ents.map fun e => (e.key, e.val)) = some r → ∃ r', Instr.findNow kind k ents i = some r' ∧ r'.map (·.2) = r
  | [], i, r, h => by cases h; exact ⟨none, rfl, rfl⟩
  | e :: es, i, r, h => by
    simp only [List.map_cons, mFind] at h
    unfold Instr.findNow
    split at h
    · rename_i hs
      cases h
      rw [hs]
      exact ⟨_, rfl, rfl⟩
    · rename_i hs
      rw [hs]
      exact findNow_ok h
    · cases h
theorem checkKey_plain {b : Bool} {n t : Nat} {d : TypeDesc} {k : Value} (hu : P.underlying t = some d) (h : plainKey d k = true) : (Instr.checkKey b (n + 1) t k).run P w = .ok () w := by
  unfold plainKey at h
  split at h <;> first | (cases h; done) | simp [Instr.checkKey, run_underlying hu]
theorem findKey_ok {t : Nat} {d : TypeDesc} {k : Value} {es : List MapEntry} {r : Option (Nat × Value)} (hu : P.underlying t = some d) (h : Instr.findNow d k es 0 = some r) : (Instr.findKey t k es).run P w = .ok r w := by
  simp [Instr.findKey, run_underlying hu, h]
theorem vLookup_ok (hT : TabOk P tb) (h : Sim B m S σ a w) {t : Nat} {p q r : PV} {c : Prop} (hv : vLookup tb σ t p q = some (c, r)) {u v : Value} (hu : Rep m w S u p) (hq : Rep m w S v q) : ∃ x, (Instr.lookup t u v false).run P w = .ok x w ∧ Rep m w S x r := by
  unfold vLookup at hv
  split at hv
  rotate_left
  · cases hv
  rename_i key
  unfold vLk at hv
  split at hv
  · rename_i k kt et ht
    split at hv
    · rename_i ki ei es h1 h2 h3
      split at hv
      · rename_i z r' g1 g2 g3 g4
        cases hv
        obtain ⟨ti, ht1, ht2⟩ := Option.map_eq_some_iff.1 ht
        have hund : P.underlying t = some (.map kt et) := by rw [← ht2]; exact (hT.get ht1).under
        obtain ⟨b, cc, k1, rfl⟩ := hu
        obtain ⟨b', c', ents, clock, k2, k3, k4, _⟩ := h.objs _ _ h3
        rw [k1] at k2; cases k2
        have hq' : RepD w S v (.v k) := hq
        cases hq'
        subst k4
        obtain ⟨r2, f1, rfl⟩ := findNow_ok (i := 0) g4
        refine ⟨(Option.map (fun x : Nat × Value => x.2) r2).getD z, ?_, RepD.v _⟩
        have e1 := checkKey_plain (P := P) (w := w) (b := ents.isEmpty) (n := 9999) (hT.get h1).under g1
        have e2 := findKey_ok (P := P) (w := w) (hT.get h1).under f1
        have e3 := (hT.get h2).zeroOne g3 g2 w
        have e4 := Go.MapKept.run_getObj_map (P := P) k3
        cases r2 with
        | none => simp [Instr.lookup, run_underlying hund, e4, e1, e2, e3]
        | some r3 => simp [Instr.lookup, run_underlying hund, e4, e1, e2]
      · cases hv
    · cases hv
  · cases hv
end
end Go.Proofs.YtplooifpgmlofaaGreat
