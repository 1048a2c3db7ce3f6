/- What an operation yields, seen through plain values, and that it does: the operations that leave the world alone. No condition. -/
import Derived.Test.YtplooifpgmlofaaGreatV1
namespace Go.Proofs.YtplooifpgmlofaaGreat
open Go.RowKit

structure TI where
  desc : TypeDesc
  size : Nat
  bytes : Nat
  zero : List Value
  eqs : Bool
  keep : List Nat
  meths : List (String × Nat)
def keepsOf : List (Nat × TI) → List Nat
  | e :: _ => e.2.keep
  | [] => []
def isA : TypeDesc → Bool
  | .struct _ | .array _ _ => true
  | _ => false
def aggV : Value → Bool
  | .agg _ => true
  | _ => false
def MethsOk (P : Program) (t : Nat) : List (String × Nat) → Prop
  | [] => True
  | x :: r => (∀ (b : Nat) (w : World), (method (P.types.size + Made.depth) t (.pointer (some ⟨b, 0, none⟩)) x.1).run P w = .ok (x.2, .pointer (some ⟨b, 0, none⟩)) w) ∧ MethsOk P t r
def findM (name : String) : List (String × Nat) → Option Nat
  | [] => none
  | x :: r => if x.1 = name then some x.2 else findM name r
theorem MethsOk.get {P : Program} {t g : Nat} {name : String} : ∀ {l : List (String × Nat)}, MethsOk P t l → findM name l = some g → ∀ (b : Nat) (w : World), (method (P.types.size + Made.depth) t (.pointer (some ⟨b, 0, none⟩)) name).run P w = .ok (g, .pointer (some ⟨b, 0, none⟩)) w
  | x :: r, ⟨h1, h2⟩, h => by
    unfold findM at h
    split at h
    · rename_i e; subst e; cases h; exact h1
    · exact MethsOk.get h2 h
def TIOk (P : Program) (e : Nat × TI) : Prop := P.underlying e.1 = some e.2.desc ∧ (P.info? e.1).map (fun i => (i.size, i.bytes)) = some (e.2.size, e.2.bytes) ∧ ((P.info? e.1).bind (·.zero)).map (fun v => (v.cells, aggV v)) = some (e.2.zero.toArray, isA e.2.desc) ∧
  (e.2.eqs = true → P.stoodInHeld e.1 = false ∧ P.eqGuardType P.depth e.1 = false) ∧ MethsOk P e.1 e.2.meths
def TabOk (P : Program) : List (Nat × TI) → Prop
  | [] => True
  | e :: r => TIOk P e ∧ TabOk P r
theorem TabOk.get {P : Program} {t : Nat} {i : TI} : ∀ {tb : List (Nat × TI)}, TabOk P tb → look t tb = some i → TIOk P (t, i)
  | (j, q) :: r, ⟨h1, h2⟩, h => by
    rcases look_cons h with ⟨rfl, rfl⟩ | ⟨_, h⟩
    · exact h1
    · exact h2.get h
theorem TIOk.under {P : Program} {t : Nat} {i : TI} (h : TIOk P (t, i)) : P.underlying t = some i.desc := h.1
theorem TIOk.info {P : Program} {t : Nat} {i : TI} (h : TIOk P (t, i)) : ∃ j z, P.info? t = some j ∧ j.size = i.size ∧ j.bytes = i.bytes ∧ j.zero = some z ∧ z.cells = i.zero.toArray := by
  obtain ⟨_, h1, h2, _⟩ := h
  cases hi : P.info? t with
  | none => rw [hi] at h1; cases h1
  | some j =>
    rw [hi] at h1 h2
    simp only [Option.map_some, Option.some.injEq, Prod.mk.injEq] at h1
    simp only [Option.bind_some, Option.map_eq_some_iff, Prod.mk.injEq] at h2
    obtain ⟨z, hz, hc, _⟩ := h2
    exact ⟨j, z, rfl, h1.1, h1.2, hz, hc⟩
theorem TIOk.zeroOne {P : Program} {t : Nat} {i : TI} (h : TIOk P (t, i)) {z : Value} (hz : i.zero = [z]) (ha : isA i.desc = false) (w : World) : (zeroValue t).run P w = .ok z w := by
  obtain ⟨_, _, h2, _, _⟩ := h
  cases hi : P.info? t with
  | none => rw [hi] at h2; cases h2
  | some j =>
    rw [hi] at h2
    simp only [Option.bind_some, Option.map_eq_some_iff, Prod.mk.injEq, hz, ha] at h2
    obtain ⟨u, hu, hc, hb⟩ := h2
    have e : u = z := by cases u <;> simp_all [aggV, Value.cells]
    subst e
    simp [zeroValue, typeInfo, hi, hu]
theorem TIOk.sizeOf {P : Program} {t : Nat} {i : TI} (h : TIOk P (t, i)) (w : World) : (sizeOf t).run P w = .ok i.size w := by
  obtain ⟨j, z, h1, h2, _⟩ := h.info
  simp [Go.sizeOf, typeInfo, h1, h2]

theorem TIOk.isAgg {P : Program} {t : Nat} {i : TI} (h : TIOk P (t, i)) (w : World) : (isAgg t).run P w = .ok (isA i.desc) w := by
  simp only [Go.isAgg, Sem.run_bind, run_underlying h.under, Result.andThen_ok]
  cases i.desc <;> rfl

section
variable {P : Program} {m : Map} {w : World} {S : Cells}

theorem run_loadVar_of {t : Nat} {i : TI} (h : TIOk P (t, i)) (b o : Nat) (us : List Value) (off : Nat) (hc : ∀ (j : Nat) (v : Value), us[j]? = some v → w.cell? ⟨b, o + j, none⟩ = some v) :
    (isA i.desc = true → off + i.size ≤ us.length → (loadVar t ⟨b, o + off, none⟩).run P w = .ok (.agg ((us.drop off).take i.size).toArray) w) ∧
    (isA i.desc = false → ∀ v, us[off]? = some v → (loadVar t ⟨b, o + off, none⟩).run P w = .ok v w) := by
  constructor
  · intro ha hl
    have hlen : ((us.drop off).take i.size).length = i.size := by rw [List.length_take, List.length_drop]; omega
    have := run_loadCells_list (P := P) w ⟨b, o + off, none⟩ ((us.drop off).take i.size) fun j v hj => by
      rw [Addr.add_lit, Nat.add_assoc]
      refine hc _ _ ?_
      rw [List.getElem?_take] at hj
      split at hj
      · rw [List.getElem?_drop] at hj; exact hj
      · cases hj
    rw [hlen] at this
    simp only [loadVar, Sem.run_bind, h.isAgg, Result.andThen_ok, ha, if_true, h.sizeOf, this, Sem.run_pure]
  · intro ha v hv
    simp only [loadVar, Sem.run_bind, h.isAgg, Result.andThen_ok, ha, Bool.false_eq_true, if_false, run_load, hc _ _ hv]

def readAt (i : TI) (cells : List PV) (off : Nat) : Prop × PV :=
  if isA i.desc then (off + i.size ≤ cells.length, .agg ((cells.drop off).take i.size)) else (off < cells.length, cells.getD off .any)
theorem Rep2.of1 {v : Value} {p : PV} (h : Rep1 m w S v p) : Rep2 m w S v p := by
  cases p <;> first | exact h | exact h.elim
theorem Rep.of2 {v : Value} {p : PV} (h : Rep2 m w S v p) : Rep m w S v p := by
  cases p <;> first | exact h | exact h.elim
theorem Rep1.of0 {v : Value} {p : PV} (h : Rep0 m w S v p) : Rep1 m w S v p := by
  cases p <;> first | exact h | exact h.elim
theorem Rep.of0 {v : Value} {p : PV} (h : Rep0 m w S v p) : Rep m w S v p := Rep.of2 (Rep2.of1 (Rep1.of0 h))
theorem readAt_ok {t : Nat} {i : TI} (h : TIOk P (t, i)) {b o : Nat} {us : List Value} {cells : List PV} {off : Nat} (hc : ∀ (j : Nat) (v : Value), us[j]? = some v → w.cell? ⟨b, o + j, none⟩ = some v) (ha : All2 (Rep1 m w S) us cells) (hok : (readAt i cells off).1) :
    ∃ v, (loadVar t ⟨b, o + off, none⟩).run P w = .ok v w ∧ Rep2 m w S v (readAt i cells off).2 := by
  obtain ⟨h1, h2⟩ := run_loadVar_of h b o us off hc
  unfold readAt at hok ⊢
  cases hi : isA i.desc
  · simp only [hi, Bool.false_eq_true, if_false] at hok ⊢
    obtain ⟨c, hcl⟩ : ∃ c, cells[off]? = some c := ⟨_, List.getElem?_eq_getElem hok⟩
    obtain ⟨v, hv, hr⟩ := ha.get hcl
    refine ⟨v, h2 hi v hv, ?_⟩
    rw [List.getD_eq_getElem?_getD, hcl, Option.getD_some]
    exact Rep2.of1 hr
  · simp only [hi, if_true] at hok ⊢
    exact ⟨_, h1 hi (by rw [ha.len]; exact hok), _, rfl, (ha.drop off).take i.size⟩
end

def ibin (op : BinOp) (k : IntKind) (x : Int) (k' : IntKind) (y : Int) : Option (Prop × Value) :=
  match op with
  | .shl => some (0 ≤ y, .int k (k.wrap (x * 2 ^ (min y.toNat k.bits))))
  | .shr => some (0 ≤ y, .int k (x.fdiv (2 ^ (min y.toNat k.bits))))
  | .add => if k = k' then some (True, .int k (k.wrap (x + y))) else none
  | .sub => if k = k' then some (True, .int k (k.wrap (x - y))) else none
  | .mul => if k = k' then some (True, .int k (k.wrap (x * y))) else none
  | .quo => if k = k' then some (y ≠ 0, .int k (k.wrap (x.tdiv y))) else none
  | .rem => if k = k' then some (y ≠ 0, .int k (x.tmod y)) else none
  | .eql => if k = k' then some (True, .bool (decide (x = y))) else none
  | .neq => if k = k' then some (True, .bool (!decide (x = y))) else none
  | .lss => if k = k' then some (True, .bool (decide (x < y))) else none
  | .leq => if k = k' then some (True, .bool (decide (x ≤ y))) else none
  | .gtr => if k = k' then some (True, .bool (decide (x > y))) else none
  | .geq => if k = k' then some (True, .bool (decide (x ≥ y))) else none
  | _ => none
theorem ibin_ok {P : Program} {op : BinOp} {t : TypeId} {k k' : IntKind} {x y : Int} {c : Prop} {v : Value} (h : ibin op k x k' y = some (c, v)) (hc : c) (w : World) : (binOp op t (.int k x) (.int k' y)).run P w = .ok v w := by
  cases op <;> simp only [ibin] at h
  all_goals first
    | (cases h; done)
    | (split at h
       · rename_i hk
         subst hk
         cases h
         simp [binOp, Op.intArith, Op.intDiv, Op.intCmp, hc, bne, BEq.beq]
       · cases h)
    | (cases h
       simp [binOp, Op.shift, Int.not_lt.2 hc])
theorem eqGuard_int {P : Program} (op : BinOp) (t : TypeId) (a b : Operand) (k k' : IntKind) (x y : Int) (w : World) : (eqGuard op t a b (.int k x) (.int k' y)).run P w = .ok () w := by
  cases op <;> simp [eqGuard]
theorem eqGuard_bool {P : Program} (op : BinOp) (t : TypeId) (a b : Operand) (x y : Bool) (w : World) : (eqGuard op t a b (.bool x) (.bool y)).run P w = .ok () w := by
  cases op <;> simp [eqGuard]
end Go.Proofs.YtplooifpgmlofaaGreat
