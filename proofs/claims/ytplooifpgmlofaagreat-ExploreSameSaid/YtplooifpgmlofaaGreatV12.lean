/- What is to be shown of an operation, of a region that keeps its order, of code; and that it is enough. No condition. -/
import Derived.Test.YtplooifpgmlofaaGreatV11
import Derived.Test.YtplooifpgmlofaaGreatV11m
import Derived.Test.YtplooifpgmlofaaGreatV11r
import Derived.Test.YtplooifpgmlofaaGreatV9e
import Derived.Test.YtplooifpgmlofaaGreatV10s
namespace Go.Proofs.YtplooifpgmlofaaGreat
open Go.RowKit

abbrev idleV : PV := .d (.v (.tuple #[]))
def both (b w : Bool) (X Y : Prop) : Prop := (b = w → X) ∧ (b = (!w) → Y)
section
variable {X Y : Prop}
@[simp ↓] theorem both_tt : both true true X Y = X := by simp [both]
@[simp ↓] theorem both_ff : both false false X Y = X := by simp [both]
@[simp ↓] theorem both_tf : both true false X Y = Y := by simp [both]
@[simp ↓] theorem both_ft : both false true X Y = Y := by simp [both]
@[simp] theorem both_t {b : Bool} : both b true X Y = ((b = true → X) ∧ (b = false → Y)) := rfl
@[simp] theorem both_f {b : Bool} : both b false X Y = ((b = false → X) ∧ (b = true → Y)) := rfl
end

def Sta.callee (σ : Sta) (x : Operand) : Option (Nat × List PV) :=
 match σ.ev x with
 | some (.clo f caps) => some (f, caps)
 | some (.d (.v (.func (.func f) ⟨[]⟩ ⟨[]⟩))) => some (f, [])
 | _ => none
def nextOk (H : Hid) (K0 : Prop) (K1 : List (Value × Value) → Nat → Value × Value → Prop) : Prop := ∃ left cur, H = iterH left cur ∧ (left = [] → K0) ∧ ∀ (i : Nat) (e : Value × Value), left[i]? = some e → K1 left i e
def entryOk (H : Hid) (K : Value × Value → Prop) : Prop := ∃ left e, H = iterH left (some e) ∧ K e
@[congr] theorem nextOk_still {H : Hid} {K0 : Prop} {K1 : List (Value × Value) → Nat → Value × Value → Prop} : nextOk H K0 K1 = nextOk H K0 K1 := rfl
@[congr] theorem entryOk_still {H : Hid} {K : Value × Value → Prop} : entryOk H K = entryOk H K := rfl
theorem nextOk.of {left : List (Value × Value)} {cur : Option (Value × Value)} {K0 : Prop} {K1 : List (Value × Value) → Nat → Value × Value → Prop} (h0 : left = [] → K0) (h1 : ∀ i e, left[i]? = some e → K1 left i e) : nextOk (iterH left cur) K0 K1 := ⟨left, cur, rfl, h0, h1⟩
theorem entryOk.of {left : List (Value × Value)} {e : Value × Value} {K : Value × Value → Prop} (h : K e) : entryOk (iterH left (some e)) K := ⟨left, e, rfl, h⟩
def methOf (tb : Tab) (t : Nat) (name : String) : Option Nat := (look t tb).bind fun i => findM name i.meths
def Sta.tgt (tb : Tab) (σ : Sta) (c : Call) : Option (Nat × List PV) :=
 match c.callee with
 | .value f => match σ.callee f, evs σ c.args.toList with
  | some (g, caps), some ps => some (g, ps ++ caps)
  | _, _ => none
 | .invoke r name => match σ.ev r, evs σ c.args.toList with
  | some (.ifc t k), some ps => match methOf tb t name with
   | some g => some (g, .ptr k 0 :: ps)
   | none => none
  | _, _ => none
 | .builtin _ => none
def viewA (mem : Mem) : PV → Prop × Mem × PV
 | .clo f cs => (True, mem, .clo f cs)
 | p => view2 mem p
def viewAs (mem : Mem) : List PV → Prop × Mem × List PV
 | [] => (True, mem, [])
 | p :: r => ((viewA mem p).1 ∧ (viewAs (viewA mem p).2.1 r).1, (viewAs (viewA mem p).2.1 r).2.1, (viewA mem p).2.2 :: (viewAs (viewA mem p).2.1 r).2.2)
def PV.isRow : PV → Bool
 | .rw .. => true
 | .rs .. => true
 | _ => false
def viewC (kept : Bool) (mem : Mem) (ps : List PV) : Prop × Mem × List PV := bif kept then (True, mem, ps) else viewAs mem ps
@[simp] theorem viewC_t {mem : Mem} {ps : List PV} : viewC true mem ps = (True, mem, ps) := rfl
@[simp] theorem viewC_f {mem : Mem} {ps : List PV} : viewC false mem ps = viewAs mem ps := rfl
def dedup : List Nat → List Nat
 | [] => []
 | k :: r => if (dedup r).contains k then dedup r else k :: dedup r
def nodupB : List Nat → Bool
 | [] => true
 | k :: r => !r.contains k && nodupB r
def objKeys (mem : Mem) (k : Nat) : List Nat := match look k mem with
 | some o => o.keys
 | none => []
def reach (mem : Mem) (ps : List PV) : List Nat :=
 let k0 := dedup (ps.flatMap PV.keys)
 let k1 := dedup (k0 ++ k0.flatMap (objKeys mem))
 if k1.length = k0.length then k0 else dedup (k1 ++ k1.flatMap (objKeys mem))
def here : Option MObj → Bool
 | some (.box ..) => true
 | some (.row ..) => true
 | some (.map _) => true
 | some (.grown ..) => false
 | some (.nest ..) => true
 | some (.sys _) => true
 | none => false
theorem here_some {o : Option MObj} (h : here o = true) : o.isSome = true := by
 unfold here at h
 split at h <;> first | rfl | cases h
theorem here_not {o : MObj} (h : here (some o) = true) : isGrown o = false := by
 cases o <;> first | rfl | cases h
def reachOk (mem : Mem) (ps : List PV) (ks : List Nat) : Bool :=
 nodupB ks && ks.all (fun k => here (look k mem) && (objKeys mem k).all fun j => ks.contains j) && ps.all (fun p => p.keys.all fun k => ks.contains k) && decide (ks.length < 1000000)

def zeroRow (ti : TI) : List D := ti.zero.map .v

def sliceLike : PV → Option (List (List D) ⊕ Nat)
 | .d (.sl _ xs) => some (.inl xs)
 | .rw _ n => some (.inr n)
 | _ => none

section
variable (P : Program) (tb : Tab)

def vcAppend (σ : Sta) (d : Option Nat) (t : Nat) (k n : Nat) (x : PV) (K : Sta → Prop) : Prop :=
 match look k σ.mem with
 | some (.row e sz xs l) => match look t tb, look e tb, srcOf sz σ.mem x with
  | some ti, some ei, some (c, ys) => ti.desc = .slice e ∧ ei.size = sz ∧ ei.zero.length = sz ∧ ei.bytes ≤ 4096 ∧ c ∧
    if n = xs.length then (k < 1000000 ∨ (k < 2000000 ∧ l = false)) ∧ xs.length + ys.length < 4294967296 ∧ K (Sta.put ⟨σ.n, eraseS k σ.slots, (k, .row e sz (xs ++ ys) l) :: eraseM k (markM k σ.mem)⟩ d (.rw k (xs ++ ys).length))
    else l = false ∧ n + ys.length ≤ xs.length ∧ K (Sta.put ⟨σ.n, σ.slots, (k, .row e sz (xs.take n ++ ys ++ xs.drop (n + ys.length)) false) :: σ.mem⟩ d (.rw k (n + ys.length)))
  | _, _, _ => False
 | _ => False

def vcAppendS (σ : Sta) (d : Option Nat) (t : Nat) (k sz2 off n fl : Nat) (x : PV) (K : Sta → Prop) : Prop :=
 match look k σ.mem with
 | some (.row e sz xs false) => match look t tb, look e tb, srcOf sz σ.mem x with
  | some ti, some ei, some (c, ys) => (ti.desc = .slice e ∧ ei.size = sz ∧ ei.zero.length = sz ∧ ei.bytes ≤ 4096 ∧ c ∧ sz2 = sz ∧ off + n = xs.length ∧ ys.length = 1 ∧ n + ys.length < 4294967296 ∧ k < 1000000) ∧
    if fl = 1 then K (Sta.put ⟨σ.n, eraseS k σ.slots, (k, .row e sz (xs.drop off ++ ys) false) :: eraseM k σ.mem⟩ d (.rs k sz 0 (n + ys.length) 0))
    else fl = 2 ∧ K (Sta.put ⟨σ.n, σ.slots, (k, .row e sz (xs ++ ys) false) :: σ.mem⟩ d (.rs k sz off (n + ys.length) 0))
  | _, _, _ => False
 | _ => False

def afterCall (σ : Sta) (d : Option Nat) (mem : Mem) (ks : List Nat) (K : Sta → Prop) : Res → Prop := fun r => (∀ i, i < r.new.length → look (d.getD 0 + 10000 * i) mem = none) ∧
  K (Sta.put ⟨σ.n, eraseSs (grownKs ks r.ext) σ.slots, backMem (ofE ks (d.getD 0)) ks r.ext ++ (newMem (ofE ks (d.getD 0)) (d.getD 0) 0 r.new ++ eraseMs (grownKs ks r.ext) (markMs (grownKs ks r.ext) (bif calmRes r then σ.mem else mem)))⟩ d (r.val.ren (ofE ks (d.getD 0))))
def vcCall (σ : Sta) (d : Option Nat) (g : Nat) (mem : Mem) (ps : List PV) (ks : List Nat) (K : Sta → Prop) : Prop :=
 reachOk mem ps ks = true ∧ Meets P g (ps.map (PV.ren (toE ks))) (ks.map fun k => ((look k mem).getD default).ren (toE ks)) (afterCall σ d mem ks K)

def vcOp (o : Oper) (σ : Sta) (K : Sta → Prop) : Prop :=
 σ.has o.dst = true ∧ match o.op with
 | .pick c x y => match σ.ev c, σ.ev x, σ.ev y with
  | some (.d (.v (.bool t))), some p, some q => both t true (K (σ.put o.dst p)) (K (σ.put o.dst q))
  | _, _, _ => False
 | .alloc e => match o.dst, look e tb with
  | some d, some ti => look d σ.mem = none ∧ K (Sta.put ⟨σ.n, σ.slots, (d, .box e (ti.zero.map fun v => .d (.v v))) :: σ.mem⟩ (some d) (.ptr d 0))
  | _, _ => False
 | .box e x => match o.dst, σ.ev x with
  | some d, some p => p.plain = true ∧ look d σ.mem = none ∧ K (Sta.put ⟨σ.n, σ.slots, (d, .box e p.cells) :: σ.mem⟩ (some d) (.ptr d 0))
  | _, _ => False
 | .buildSlice t len parts => match o.dst, vBuildSlice tb σ t len parts.toList with
  | some d, some (e, sz, xs) => look d σ.mem = none ∧ K (Sta.put ⟨σ.n, σ.slots, (d, .row e sz xs false) :: σ.mem⟩ (some d) (.rw d len))
  | _, _ => False
 | .store t x v => match σ.ev x, σ.ev v with
  | some p, some q => match vStoreR tb σ t p q with
   | some (c, mem') => c ∧ K (Sta.put ⟨σ.n, σ.slots, mem'⟩ o.dst .any)
   | none => False
  | _, _ => False
 | .binOp .eql t x y _ => match σ.ev x, σ.ev y with
  | some p, some (.d (.v (.slice none 0 0))) => match sliceLike p with
   | some (.inl xs) => esz tb t ≠ none ∧ ∀ b : Bool, (b = true → xs = []) → K (σ.put o.dst (.b b))
   | some (.inr n) => esz tb t ≠ none ∧ ∀ b : Bool, (b = true → n = 0) → K (σ.put o.dst (.b b))
   | none => False
  | some p, some q => match vBinY tb .eql t y p q with
   | some (c, r) => c ∧ K (σ.put o.dst r)
   | none => False
  | _, _ => False
 | .binOp .neq t x y _ => match σ.ev x, σ.ev y with
  | some p, some (.d (.v (.slice none 0 0))) => match sliceLike p with
   | some (.inl xs) => esz tb t ≠ none ∧ ∀ b : Bool, (b = true → xs = []) → K (σ.put o.dst (.b (!b)))
   | some (.inr n) => esz tb t ≠ none ∧ ∀ b : Bool, (b = true → n = 0) → K (σ.put o.dst (.b (!b)))
   | none => False
  | some p, some q => match vBinY tb .neq t y p q with
   | some (c, r) => c ∧ K (σ.put o.dst r)
   | none => False
  | _, _ => False
 | .call c => match c.callee with
  | .builtin .append => match c.args.toList, c.argTypes.toList with
   | [s, x], [t, t'] => t' = t ∧ match σ.ev s, σ.ev x with
    | some (.rw k n), some p => vcAppend tb σ o.dst t k n p K
    | some (.rs k sz2 off n fl), some p => vcAppendS tb σ o.dst t k sz2 off n fl p K
    | some (.fd sz xs), some p => match (look t tb).map TI.desc, srcOf sz σ.mem p with
     | some (TypeDesc.slice e), some (c, ys) => match look e tb with
      | some ei => (ei.size = sz ∧ ei.zero.length = sz ∧ ei.bytes ≤ 4096 ∧ 0 < sz ∧ c ∧ 0 < ys.length ∧ xs.length + ys.length < 4294967296) ∧ K (σ.put o.dst (.d (.sl sz (xs ++ ys))))
      | none => False
     | _, _ => False
    | some (.d (.v (.slice none 0 0))), some p => match o.dst, (look t tb).map TI.desc with
     | some d, some (TypeDesc.slice e) => match look e tb with
      | some ei => look d σ.mem = none ∧ 0 < ei.size ∧ vcAppend tb ⟨σ.n, σ.slots, (d, .row e ei.size [] false) :: σ.mem⟩ o.dst t d 0 p K
      | none => False
     | _, _ => False
    | _, _ => False
   | _, _ => False
  | .builtin .clear => match c.args.toList, c.argTypes.toList with
   | [s], [t] => match σ.ev s with
    | some (.rs k sz off n _) => match look k σ.mem with
     | some (.row e sz' xs l) => match look t tb, look e tb with
      | some ti, some ei => ti.desc = .slice e ∧ sz' = sz ∧ ei.zero.length = sz ∧ ei.zero.all Value.oneCell' = true ∧ l = false ∧ off + n ≤ xs.length ∧
        K (Sta.put ⟨σ.n, σ.slots, (k, .row e sz (xs.take off ++ List.replicate n (ei.zero.map .v) ++ xs.drop (off + n)) false) :: σ.mem⟩ o.dst (.d (.v (.tuple #[]))))
      | _, _ => False
     | _ => False
    | _ => False
   | _, _ => False
  | .builtin _ => match valOp tb σ (.call c) with
   | some (cd, p) => cd ∧ K (σ.put o.dst p)
   | none => False
  | .value f => match σ.callee f, evs σ c.args.toList with
   | some (g, caps), some ps => (ps ++ caps).all PV.is2 = true ∧ (viewC ((ps ++ caps).any PV.isRow && (keepsOf tb).contains g) σ.mem (ps ++ caps)).1 ∧ vcCall P σ o.dst g (viewC ((ps ++ caps).any PV.isRow && (keepsOf tb).contains g) σ.mem (ps ++ caps)).2.1 (viewC ((ps ++ caps).any PV.isRow && (keepsOf tb).contains g) σ.mem (ps ++ caps)).2.2 (reach (viewC ((ps ++ caps).any PV.isRow && (keepsOf tb).contains g) σ.mem (ps ++ caps)).2.1 (viewC ((ps ++ caps).any PV.isRow && (keepsOf tb).contains g) σ.mem (ps ++ caps)).2.2) K
   | _, _ => False
  | .invoke r name => match σ.ev r, evs σ c.args.toList with
   | some (.ifc t k), some ps => match methOf tb t name with
    | some g => (PV.ptr k 0 :: ps).all PV.is2 = true ∧ (viewC ((PV.ptr k 0 :: ps).any PV.isRow && (keepsOf tb).contains g) σ.mem (PV.ptr k 0 :: ps)).1 ∧ vcCall P σ o.dst g (viewC ((PV.ptr k 0 :: ps).any PV.isRow && (keepsOf tb).contains g) σ.mem (PV.ptr k 0 :: ps)).2.1 (viewC ((PV.ptr k 0 :: ps).any PV.isRow && (keepsOf tb).contains g) σ.mem (PV.ptr k 0 :: ps)).2.2 (reach (viewC ((PV.ptr k 0 :: ps).any PV.isRow && (keepsOf tb).contains g) σ.mem (PV.ptr k 0 :: ps)).2.1 (viewC ((PV.ptr k 0 :: ps).any PV.isRow && (keepsOf tb).contains g) σ.mem (PV.ptr k 0 :: ps)).2.2) K
    | none => False
   | _, _ => False
 | .makeSlice t l c => match o.dst, σ.ev l, σ.ev c with
  | some d, some p, some q => match vMake tb t p q with
   | some (cd, ob, n) => cd ∧ look d σ.mem = none ∧ K (Sta.put ⟨σ.n, σ.slots, (d, ob) :: σ.mem⟩ (some d) (.rw d n))
   | none => False
  | _, _, _ => False
 | .makeMap _ none => match o.dst with
  | some d => look d σ.mem = none ∧ K (Sta.put ⟨σ.n, σ.slots, (d, .map []) :: σ.mem⟩ (some d) (.mp d))
  | none => False
 | .mapUpdate t x k v => match σ.ev x, σ.ev k, σ.ev v with
  | some p, some q, some r => match vUpdate tb σ t p q r with
   | some mem' => K (Sta.put ⟨σ.n, σ.slots, mem'⟩ o.dst .any)
   | none => False
  | _, _, _ => False
 | .range t x => match o.dst, σ.ev x, (look t tb).map TI.desc with
  | some d, some (.mp k), some (TypeDesc.map _ _) => match look k σ.mem with
   | some (.map es) => k < 1000000 ∧ look d σ.mem = none ∧ K (Sta.put ⟨σ.n, eraseS k σ.slots, (d, .sys (iterH es none)) :: (k, .row 0 1 [] false) :: eraseM k σ.mem⟩ (some d) (.ptr d 0))
   | _ => False
  | _, _, _ => False
 | .next x false => match σ.ev x with
  | some (.ptr k 0) => match look k σ.mem with
   | some (.sys H) => nextOk H (K (σ.put o.dst (.tup [.b false]))) fun left i e => K (Sta.put ⟨σ.n, σ.slots, (k, .sys (iterH (left.eraseIdx i) (some e))) :: σ.mem⟩ o.dst (.tup [.b true, .d (.v e.1), .d (.v e.2)]))
   | _ => False
  | _ => False
 | .entry x => match σ.ev x with
  | some (.ptr k 0) => match look k σ.mem with
   | some (.sys H) => entryOk H fun e => K (σ.put o.dst (.tup [.d (.v e.1), .d (.v e.2)]))
   | _ => False
  | _ => False
 | .convert src dst x => match σ.ev x with
  | some (.rw k n) => match look k σ.mem with
   | some (.row e sz xs lk) => (look src tb).map TI.desc = some (.slice e) ∧ (look e tb).map TI.desc = some (.int .u8) ∧ n ≤ xs.length ∧
    if src = dst then lk = false ∧ k < 1000000 ∧ 0 < xs.length ∧ K (Sta.put ⟨σ.n, eraseS k σ.slots, (k, .row e sz [] false) :: eraseM k σ.mem⟩ o.dst (.d (.sl sz (xs.take n))))
    else match numsOf (xs.take n) with
     | some ns => sz = 1 ∧ (look dst tb).map TI.desc = some .string ∧ K (σ.put o.dst (.d (.v (.string (strOfNums ns)))))
     | none => False
   | _ => False
  | _ => match valOp tb σ (.convert src dst x) with
   | some (cd, p) => cd ∧ K (σ.put o.dst p)
   | none => False
 | op => match valOp tb σ op with
  | some (cd, p) => cd ∧ K (σ.put o.dst p)
  | none => False

variable {P tb} {B : Base} {m : Map} {S : Cells} {σ : Sta} {a : Act} {w : World}

theorem dedup_iff {k : Nat} : ∀ {l : List Nat}, k ∈ dedup l ↔ k ∈ l
 | [] => Iff.rfl
 | j :: r => by
  unfold dedup
  split
  ·rename_i h
   rw [dedup_iff (l := r)]
   constructor
   ·exact fun h => List.mem_cons_of_mem _ h
   ·intro h'
    rcases List.mem_cons.1 h' with rfl | h'
    ·exact dedup_iff.1 (by simpa using h)
    ·exact h'
  ·rw [List.mem_cons, List.mem_cons, dedup_iff (l := r)]
theorem nodup_of : ∀ {l : List Nat}, nodupB l = true → l.Nodup
 | [], _ => List.nodup_nil
 | k :: r, h => by
  unfold nodupB at h
  simp only [Bool.and_eq_true, Bool.not_eq_true', List.contains_eq_mem, decide_eq_false_iff_not] at h
  exact List.nodup_cons.2 ⟨h.1, nodup_of h.2⟩

theorem viewA_ok (h : Sim B m S σ a w) {v : Value} {p : PV} (hv : Rep m w S v p) (hp : p.is2 = true) (hc : (viewA σ.mem p).1) :
  ∃ S', Sim B m S' { σ with mem := (viewA σ.mem p).2.1 } a w ∧ (∀ b o, S b o → S' b o) ∧ Rep m w S' v (viewA σ.mem p).2.2 := by
 unfold viewA at hc ⊢
 split at hc
 ·rename_i f cs
  exact ⟨S, h, fun _ _ hs => hs, hv⟩
 ·obtain ⟨S', h1, h2, h3⟩ := view2_ok h (Rep2.of hv hp) hc
  exact ⟨S', h1, h2, Rep.of2 h3⟩
theorem viewAs_ok : ∀ {ps : List PV} {σ : Sta} {S : Cells} {vs : List Value}, Sim B m S σ a w → All2 (Rep m w S) vs ps → ps.all PV.is2 = true → (viewAs σ.mem ps).1 →
  ∃ S', Sim B m S' { σ with mem := (viewAs σ.mem ps).2.1 } a w ∧ (∀ b o, S b o → S' b o) ∧ All2 (Rep m w S') vs (viewAs σ.mem ps).2.2
 | [], σ, S, [], h, _, _, _ => ⟨S, h, fun _ _ hs => hs, trivial⟩
 | p :: ps, σ, S, v :: vs, h, ⟨h1, h2⟩, ha, ⟨c1, c2⟩ => by
  simp only [List.all_cons, Bool.and_eq_true] at ha
  obtain ⟨S1, g1, g2, g3⟩ := viewA_ok h h1 ha.1 c1
  obtain ⟨S2, k1, k2, k3⟩ := viewAs_ok (ps := ps) (vs := vs) g1 (h2.imp fun _ _ _ hr => hr.keep g2 (fun _ _ _ => rfl) (fun _ _ _ hl => hl)) ha.2 c2
  exact ⟨S2, k1, fun b o hs => k2 b o (g2 b o hs), g3.keep k2 (fun _ _ _ => rfl) (fun _ _ _ hl => hl), k3⟩
 | [], _, _, _ :: _, _, h, _, _ => h.elim
 | _ :: _, _, _, [], _, h, _, _ => h.elim

theorem viewC_ok {kept : Bool} {ps : List PV} {σ : Sta} {S : Cells} {vs : List Value} (h : Sim B m S σ a w) (hp : All2 (Rep m w S) vs ps) (h2 : ps.all PV.is2 = true) (hc : (viewC kept σ.mem ps).1) :
  ∃ S', Sim B m S' { σ with mem := (viewC kept σ.mem ps).2.1 } a w ∧ (∀ b o, S b o → S' b o) ∧ All2 (Rep m w S') vs (viewC kept σ.mem ps).2.2 := by
 cases kept with
 | true => exact ⟨S, h, fun _ _ hs => hs, hp⟩
 | false => exact viewAs_ok h hp h2 hc

theorem callee_ok (h : Sim B m S σ a w) {x : Operand} {g : Nat} {caps : List PV} (hc : σ.callee x = some (g, caps)) : ∃ vs : List Value, a.eval x = .func (.func g) #[] vs.toArray ∧ All2 (Rep m w S) vs caps := by
 unfold Sta.callee at hc
 split at hc
 ·rename_i f cs hx
  cases hc
  obtain ⟨vs, e, ha⟩ := ev_ok h hx
  exact ⟨vs, e, ha.imp fun _ _ _ hr => Rep.of0 hr⟩
 ·rename_i f hx
  cases hc
  exact ⟨[], ev_v h hx, trivial⟩
 ·cases hc

theorem tgt_local {σ' : Sta} {c : Call} (h : ∀ x ∈ (Op.call c).operands.toList, σ'.ev x = σ.ev x) : σ'.tgt tb c = σ.tgt tb c := by
 obtain ⟨callee, args, ats⟩ := c
 have hargs : evs σ' args.toList = evs σ args.toList := by
  have : ∀ y ∈ args.toList, σ'.ev y = σ.ev y := fun y hy => h y (by simp [Op.operands, Call.operands] at hy ⊢; simp [hy])
  revert this
  generalize args.toList = l
  intro this
  induction l with
  | nil => rfl
  | cons x l ih => unfold evs; rw [this x (by simp), ih fun y hy => this y (by simp [hy])]
 cases callee with
 | value f =>
  have hf := h f (by simp [Op.operands, Call.operands])
  simp only [Sta.tgt, Sta.callee, hf, hargs]
 | invoke r name =>
  have hf := h r (by simp [Op.operands, Call.operands])
  simp only [Sta.tgt, hf, hargs]
 | builtin b => rfl
theorem tgt_keys {c : Call} {g : Nat} {as : List PV} (hc : σ.tgt tb c = some (g, as)) : ∀ x ∈ (Op.call c).operands.toList, ∀ p, σ.ev x = some p → ∀ k ∈ p.keys, k ∈ as.flatMap PV.keys := by
 obtain ⟨callee, args, ats⟩ := c
 intro x hx p hp k hk
 have hargs : ∀ {l : List Operand} {ps : List PV}, evs σ l = some ps → x ∈ l → ∃ q ∈ ps, σ.ev x = some q := by
  intro l
  induction l with
  | nil => intro ps _ hx; cases hx
  | cons y l ih =>
   intro ps he hx
   unfold evs at he
   split at he
   ·rename_i q qs h1 h2
    cases he
    rcases List.mem_cons.1 hx with rfl | hx
    ·exact ⟨q, by simp, h1⟩
    ·obtain ⟨q', h3, h4⟩ := ih h2 hx
     exact ⟨q', by simp [h3], h4⟩
   ·cases he
 rw [List.mem_flatMap]
 unfold Sta.tgt at hc
 dsimp only at hc
 split at hc
 ·rename_i f
  have hx' : x = f ∨ x ∈ args.toList := by simpa [Op.operands, Call.operands] using hx
  split at hc
  ·rename_i g' caps ps h2 h3
   cases hc
   rcases hx' with rfl | hx'
   ·unfold Sta.callee at h2
    rw [hp] at h2
    split at h2
    ·rename_i f' cs e
     cases e
     cases h2
     have hk' : k ∈ caps.flatMap PV.keys0 := hk
     obtain ⟨c, hc, hkc⟩ := List.mem_flatMap.1 hk'
     exact ⟨c, List.mem_append_right _ hc, keys_of0 hkc⟩
    ·rename_i e
     cases e
     cases hk
    ·cases h2
   ·obtain ⟨q', hq, he⟩ := hargs h3 hx'
    rw [hp] at he; cases he
    exact ⟨p, List.mem_append_left _ hq, hk⟩
  ·cases hc
 ·rename_i r name
  have hx' : x = r ∨ x ∈ args.toList := by simpa [Op.operands, Call.operands] using hx
  split at hc
  ·rename_i t k' ps h1 h2
   split at hc
   ·cases hc
    rcases hx' with rfl | hx'
    ·rw [hp] at h1; cases h1
     exact ⟨.ptr k' 0, by simp, hk⟩
    ·obtain ⟨q', hq, he⟩ := hargs h2 hx'
     rw [hp] at he; cases he
     exact ⟨p, by simp [hq], hk⟩
   ·cases hc
  ·cases hc
 ·cases hc
theorem tgt_ok (hT : TabOk P tb) (h : Sim B m S σ a w) {c : Call} {g : Nat} {as : List PV} (hc : σ.tgt tb c = some (g, as)) (hpl : Plain P g) :
  ∃ vs : List Value, All2 (Rep m w S) vs as ∧ ∀ dst ty pos after guard, (execOp a.eval ⟨dst, .call c, ty, pos, after, guard⟩).run P w = .ok (.enter g vs.toArray) w := by
 obtain ⟨callee, args, ats⟩ := c
 unfold Sta.tgt at hc
 dsimp only at hc
 split at hc
 ·rename_i f
  split at hc
  ·rename_i g' caps ps h1 h2
   cases hc
   obtain ⟨vs, e1, e2⟩ := callee_ok h h1
   refine ⟨args.toList.map a.eval ++ vs, (evs_ok h h2).app e2, fun dst ty pos after guard => ?_⟩
   simp only [execOp, resolve, e1, Deferred.ofValue, invoke, Sem.run_bind, Sem.run_pure, Result.andThen_ok]
   rw [← hpl]
   congr 2
   simp
  ·cases hc
 ·rename_i r name
  split at hc
  ·rename_i t k ps h1 h2
   split at hc
   ·rename_i g' h3
    cases hc
    obtain ⟨i, hi, hg⟩ := Option.bind_eq_some_iff.1 h3
    obtain ⟨b, c, hk, hv⟩ := ev_ok h h1
    refine ⟨.pointer (some ⟨b, 0, none⟩) :: args.toList.map a.eval, ⟨⟨b, c, hk, rfl⟩, evs_ok h h2⟩, fun dst ty pos after guard => ?_⟩
    have hm := ((hT.get hi).2.2.2.2).get hg b w
    have e1 : ((#[Value.iface t (.pointer (some ⟨b, 0, none⟩))] ++ args.map a.eval : Array Value)[0]?) = some (.iface t (.pointer (some ⟨b, 0, none⟩))) := by rw [Array.getElem?_append_left (by simp)]; rfl
    simp only [execOp, resolve, hv, invoke, Sem.run_bind, Sem.run_pure, Result.andThen_ok, e1, callMethod, run_program, hm]
    rw [← hpl]
    congr 2
    simp
    rw [List.take_of_length_le (by simp)]
   ·cases hc
  ·cases hc
 ·cases hc
theorem view1_dom {k : Nat} {mem : Mem} {p : PV} (h : (look k (view1 mem p).2.1).isSome = true) : (look k mem).isSome = true := by
 unfold view1 at h
 split at h
 ·split at h
  ·rename_i hk
   split at h
   ·dsimp only at h
    unfold look at h
    split at h
    ·rename_i e; subst e; rw [hk]; rfl
    ·exact h
   ·exact h
  ·exact h
 ·split at h
  ·rename_i hk
   split at h
   ·dsimp only at h
    unfold look at h
    split at h
    ·rename_i e; subst e; rw [hk]; rfl
    ·exact h
   ·exact h
  ·exact h
 ·exact h
 ·exact h
theorem viewL_dom {k : Nat} : ∀ {ps : List PV} {mem : Mem}, (look k (viewL mem ps).2.1).isSome = true → (look k mem).isSome = true
 | [], _, h => h
 | _ :: ps, _, h => view1_dom (viewL_dom (ps := ps) h)
theorem view2_dom {k : Nat} {mem : Mem} {p : PV} (h : (look k (view2 mem p).2.1).isSome = true) : (look k mem).isSome = true := by
 unfold view2 at h
 split at h
 ·exact viewL_dom h
 ·exact view1_dom h
theorem viewA_dom {k : Nat} {mem : Mem} {p : PV} (h : (look k (viewA mem p).2.1).isSome = true) : (look k mem).isSome = true := by
 unfold viewA at h
 split at h
 ·exact h
 ·exact view2_dom h
theorem viewAs_dom {k : Nat} : ∀ {ps : List PV} {mem : Mem}, (look k (viewAs mem ps).2.1).isSome = true → (look k mem).isSome = true
 | [], _, h => h
 | _ :: ps, _, h => viewA_dom (viewAs_dom (ps := ps) h)
theorem viewC_dom {k : Nat} {kept : Bool} {mem : Mem} {ps : List PV} (h : (look k (viewC kept mem ps).2.1).isSome = true) : (look k mem).isSome = true := by
 cases kept with
 | true => exact h
 | false => exact viewAs_dom h
theorem vcCall_ok {S0 : Cells} {mem : Mem} (h0 : Sim B m S0 σ a w) (h : Sim B m S { σ with mem := mem } a w) (hS0 : ∀ b o, S0 b o → S b o) (hdom0 : ∀ k, (look k mem).isSome = true → (look k σ.mem).isSome = true) {g : Nat} {ps : List PV} {ks : List Nat} {K : Sta → Prop} {vs : Array Value} (hps : All2 (Rep m w S) vs.toList ps) {o : Oper} {next : Act → World → Prop} {Q : Exit → Act → World → Prop} (hd : σ.has o.dst = true) (hv : vcCall P σ o.dst g mem ps ks K)
  (hK : ∀ m' S' σ' a' w', Sim B m' S' σ' a' w' → K σ' → next a' w') (hrun : (execOp a.eval o).run P w = .ok (.enter g vs) w) : o.wp P a w next Q := by
 obtain ⟨h1, h3⟩ := hv
 unfold reachOk at h1
 simp only [Bool.and_eq_true, List.all_eq_true, List.contains_eq_mem, decide_eq_true_eq] at h1
 obtain ⟨⟨⟨k1, k2⟩, k3⟩, k4⟩ := h1
 have hd2 : o.dst.getD 0 < 10000 := by
  cases hdst : o.dst with
  | none => simp
  | some d =>
   rw [hdst] at hd
   exact Sta.has_small hd
 unfold Oper.wp Oper.upon
 rw [hrun]
 refine (call_ok h (S0 := S0) (mem0 := σ.mem) h0 hS0 hdom0 hps (nodup_of k1) (fun k hk => here_some (k2 k hk).1) (fun k hk ob hob j hj => (k2 k hk).2 j (by simp only [objKeys, hob]; exact hj)) (fun p hp k hk => k3 p hp k hk) k4 (o.dst.getD 0) hd2 h3).mono ?_
 rintro e w' ⟨r, v, m', S', ⟨hnew, hk⟩, rfl, hs⟩
 obtain ⟨⟨s1, s2⟩, s3⟩ := hs hnew
 cases hc : calmRes r with
 | true =>
  rw [hc] at hk
  obtain ⟨s4, s5⟩ := s3 hc
  have hg : grownKs ks r.ext = [] := by
   unfold calmRes at hc
   simp only [Bool.and_eq_true] at hc
   exact grownKs_sc hc.1.2
  rw [hg] at hk
  exact hK _ _ _ _ _ (s4.put s5 o.dst hd) hk
 | false =>
  rw [hc] at hk
  exact hK _ _ _ _ _ (s1.put s2 o.dst hd) hk

theorem look_markM_same {k j : Nat} {mem : Mem} {o : MObj} (h : look j mem = some o) : look j (markM k mem) = some o := by
 by_cases hj : j = k + 3000000
 ·subst hj
  unfold markM
  split
  ·exact h
  ·rw [if_pos (by rw [h]; rfl)]; exact h
 ·rw [look_markM hj, h]
theorem srcOf_more {sz : Nat} {mem mem' : Mem} (hm : ∀ j o, look j mem = some o → look j mem' = some o) {p : PV} {r : Prop × List (List D)} (h : srcOf sz mem p = some r) : srcOf sz mem' p = some r := by
 unfold srcOf at h ⊢
 split at h
 ·exact h
 ·rename_i k n
  cases hl : look k mem with
  | none => rw [hl] at h; cases h
  | some o => rw [hl] at h; rw [hm k o hl]; exact h
 ·rename_i k sz2 off n _
  cases hl : look k mem with
  | none => rw [hl] at h; cases h
  | some o => rw [hl] at h; rw [hm k o hl]; exact h
 ·exact h
 ·cases h

theorem vcAppend_ok (hT : TabOk P tb) (h : Sim B m S σ a w) {d : Option Nat} {t k n ty : Nat} {x : PV} {K : Sta → Prop} (hd : σ.has d = true) {u v : Value} (hu : Rep m w S u (.rw k n)) (hx : Rep m w S v x) (hv : vcAppend tb σ d t k n x K) {next : Act → World → Prop}
  (hK : ∀ m' S' σ' a' w', Sim B m' S' σ' a' w' → K σ' → next a' w') : ∃ r w', (Builtin.append_ #[t, t] ty #[u, v]).run P w = .ok r w' ∧ next (a.put d r) w' := by
 unfold vcAppend at hv
 split at hv
 ·rename_i e sz xs l hk
  split at hv
  ·rename_i ti ei c ys h1 h2 h3
   obtain ⟨c1, c2, c3, c4, c7, hv⟩ := hv
   split at hv
   ·rename_i hn
    subst hn
    obtain ⟨c5, c8, c9⟩ := hv
    obtain ⟨m1, hM, hMm, _, _⟩ := h.markM k
    have kp : ∀ {v p}, Rep m w S v p → Rep m1 w S v p := fun hr => hr.keep (fun _ _ hs => hs) (fun _ _ _ => rfl) fun j _ l hl => hMm j l hl
    have c6 : k < 1000000 ∨ (k < 2000000 ∧ (look (k + 3000000) (markM k σ.mem)).isSome = true) := by
     by_cases hk0 : k < 1000000
     ·exact .inl hk0
     ·rcases c5 with c5 | c5
      ·exact .inl c5
      ·exact .inr ⟨c5.1, look_markM_has (by omega)⟩
    obtain ⟨r, w', m', S', g1, g2, g3⟩ := append_ok (P := P) (ty := ty) hT hM h1 c1 h2 c2 c3 c4 (look_markM_same hk) c6 (fun hl => c5.elim id fun c5 => by rw [c5.2] at hl; cases hl) (kp hu) (srcOf_more (fun j o => look_markM_same) h3) c7 (kp hx) c8
    exact ⟨r, w', g1, hK _ _ _ _ _ (g2.put g3 d hd) c9⟩
   ·obtain ⟨rfl, c8, c9⟩ := hv
    obtain ⟨r, w', m', S', g1, g2, g3⟩ := append_mid_ok (P := P) (ty := ty) hT h h1 c1 h2 c2 hk hu h3 c7 hx c8
    exact ⟨r, w', g1, hK _ _ _ _ _ (g2.put g3 d hd) c9⟩
  ·exact hv.elim
 ·exact hv.elim

theorem vcAppendS_ok (hT : TabOk P tb) (h : Sim B m S σ a w) {d : Option Nat} {t k sz2 off n fl ty : Nat} {x : PV} {K : Sta → Prop} (hd : σ.has d = true) {u v : Value} (hu : Rep m w S u (.rs k sz2 off n fl)) (hx : Rep m w S v x) (hv : vcAppendS tb σ d t k sz2 off n fl x K) {next : Act → World → Prop}
  (hK : ∀ m' S' σ' a' w', Sim B m' S' σ' a' w' → K σ' → next a' w') : ∃ r w', (Builtin.append_ #[t, t] ty #[u, v]).run P w = .ok r w' ∧ next (a.put d r) w' := by
 unfold vcAppendS at hv
 split at hv
 ·rename_i e sz xs hk
  split at hv
  ·rename_i ti ei c ys h1 h2 h3
   obtain ⟨⟨c1, c2, c3, c4, c5, c6, c7, c8, c9, c10⟩, hv⟩ := hv
   subst c6
   split at hv
   ·rename_i hf
    subst hf
    obtain ⟨r, w', m', S', g1, g2, g3⟩ := append_full_ok (P := P) (ty := ty) hT h h1 c1 h2 c2 c3 c4 hk c10 hu h3 c5 hx c7 c8 c9
    exact ⟨r, w', g1, hK _ _ _ _ _ (g2.put g3 d hd) hv⟩
   ·obtain ⟨hf, hv⟩ := hv
    subst hf
    obtain ⟨r, w', m', S', g1, g2, g3⟩ := append_room_ok (P := P) (ty := ty) hT h h1 c1 h2 c2 hk hu h3 c5 hx c7 c8
    exact ⟨r, w', g1, hK _ _ _ _ _ (g2.put g3 d hd) hv⟩
  ·exact hv.elim
 ·exact hv.elim

theorem toList_one2 {α : Type} {xs : Array α} {x y : α} (h : xs.toList = [x, y]) : xs = #[x, y] := by cases xs; simp_all
theorem upon_val {o : Oper} {next : Act → World → Prop} {Q : Exit → Act → World → Prop} {r : Value} {w' : World} (hr : (execOp a.eval o).run P w = .ok (.value r) w') (hn : next (a.put o.dst r) w') : o.wp P a w next Q := by
 unfold Oper.wp Oper.upon
 rw [hr]
 exact hn
theorem val_step (hT : TabOk P tb) (h : Sim B m S σ a w) {o : Oper} {K : Sta → Prop} (hd : σ.has o.dst = true) {c : Prop} {p : PV} (hv : valOp tb σ o.op = some (c, p)) (hc : c) (hk : K (σ.put o.dst p)) {next : Act → World → Prop} {Q : Exit → Act → World → Prop}
  (hK : ∀ m' S' σ' a' w', Sim B m' S' σ' a' w' → K σ' → next a' w') : o.wp P a w next Q := by
 obtain ⟨r, h1, h2⟩ := val_ok (o := o) hT h hv hc
 exact upon_val h1 (hK _ _ _ _ _ (h.put h2 o.dst hd) hk)
theorem eqGuard_slice (op : BinOp) (t : TypeId) (x y : Operand) (A A' : Option Addr) (n c n' c' : Nat) : (eqGuard op t x y (.slice A n c) (.slice A' n' c')).run P w = .ok () w := by
 cases op <;> simp [eqGuard]
theorem slice_nil (hT : TabOk P tb) {t : Nat} (he : esz tb t ≠ none) (x y : Operand) (A : Option Addr) (n c : Nat) :
  ((do eqGuard .eql t x y (.slice A n c) (.slice none 0 0); binOp .eql t (.slice A n c) (.slice none 0 0) : Sem Value).run P w = .ok (.bool A.isNone) w) ∧ ((do eqGuard .neq t x y (.slice A n c) (.slice none 0 0); binOp .neq t (.slice A n c) (.slice none 0 0) : Sem Value).run P w = .ok (.bool (!A.isNone)) w) := by
 obtain ⟨sz, hs⟩ := Option.ne_none_iff_exists'.1 he
 obtain ⟨e, h1, _⟩ := esz_ok hT hs
 have key : ∀ d : Nat, (Op.equalIn (d + 1) t (.slice A n c) (.slice none 0 0)).run P w = .ok A.isNone w := fun d => by
  cases A <;> simp [Op.equalIn, run_underlying h1]
 have key : (Op.equalIn 10000 t (.slice A n c) (.slice none 0 0)).run P w = .ok A.isNone w := key 9999
 constructor
 ·simp only [Sem.run_bind, eqGuard_slice, Result.andThen_ok, binOp, Op.equal, Op.maxDepth, key, Sem.run_pure]
 ·simp only [Sem.run_bind, eqGuard_slice, Result.andThen_ok, binOp, Op.equal, Op.maxDepth, key, Sem.run_pure]
theorem slice_form {p : PV} {v : Value} (hv : Rep m w S v p) : (∀ xs, sliceLike p = some (.inl xs) → ∃ A n c, v = .slice A n c ∧ (A.isNone = true → xs = [])) ∧ (∀ n, sliceLike p = some (.inr n) → ∃ A n' c, v = .slice A n' c ∧ (A.isNone = true → n = 0)) := by
 constructor
 ·intro xs hs
  unfold sliceLike at hs
  split at hs
  ·cases hs
   obtain ⟨A, c, rfl, h1, h2, _⟩ := RepD.len hv
   refine ⟨A, _, c, rfl, fun hA => ?_⟩
   have := h2 (by simpa using hA)
   exact List.eq_nil_of_length_eq_zero (by omega)
  ·cases hs
  ·cases hs
 ·intro n hs
  unfold sliceLike at hs
  split at hs
  ·cases hs
  ·cases hs
   obtain ⟨l, _, ⟨_, rfl, rfl⟩ | ⟨b, _, rfl, _⟩⟩ := hv
   ·exact ⟨none, 0, 0, rfl, fun _ => rfl⟩
   ·exact ⟨_, _, _, rfl, fun h => by cases h⟩
  ·cases hs

theorem has_lt (_h : Sim B m S σ a w) {d : Nat} (hd : σ.has (some d) = true) : d < 1000000 := by
 exact Nat.lt_trans (Sta.has_small hd) (by omega)
theorem vcOp_ok (hT : TabOk P tb) (h : Sim B m S σ a w) {o : Oper} {K : Sta → Prop} (hv : vcOp P tb o σ K) {next : Act → World → Prop} {Q : Exit → Act → World → Prop}
  (hK : ∀ m' S' σ' a' w', Sim B m' S' σ' a' w' → K σ' → next a' w') : o.wp P a w next Q := by
 obtain ⟨hd, hv⟩ := hv
 have val : ∀ {c : Prop} {p : PV}, valOp tb σ o.op = some (c, p) → c → K (σ.put o.dst p) → o.wp P a w next Q := fun h1 h2 h3 => val_step hT h hd h1 h2 h3 hK
 obtain ⟨dst, op, ty, pos, after, guard⟩ := o
 dsimp only at hv hd val
 split at hv
 ·-- pick
  rename_i c x y
  split at hv
  ·rename_i t p q h1 h2 h3
   cases t
   ·exact val (c := True) (p := q) (by simp only [valOp, h1, h2, h3]; rfl) trivial (hv.2 rfl)
   ·exact val (c := True) (p := p) (by simp only [valOp, h1, h2, h3]; rfl) trivial (hv.1 rfl)
  ·exact hv.elim
 ·-- alloc
  rename_i e
  split at hv
  ·rename_i d ti he
   obtain ⟨h1, h2⟩ := hv
   obtain ⟨z, hz, hzc⟩ := (hT.get he).zeroValue w
   obtain ⟨w', m', g1, g2, g3⟩ := var_ok (P := P) (t := e) h (has_lt h hd) h1 (v := z) (cells := ti.zero.map fun v => .d (.v v)) (by rw [hzc]; exact all2_v ti.zero)
   refine upon_val (r := .pointer (some ⟨w.heap.size, 0, none⟩)) (w' := w') ?_ (hK _ _ _ _ _ (g2.put g3 (some d) hd) h2)
   simp only [execOp, Instr.alloc, Sem.run_bind, hz, Result.andThen_ok, g1, Sem.run_pure]
  ·exact hv.elim
 ·-- box
  rename_i e x
  split at hv
  ·rename_i d p hx
   obtain ⟨h0, h1, h2⟩ := hv
   obtain ⟨w', m', g1, g2, g3⟩ := var_ok (P := P) (t := e) h (has_lt h hd) h1 (v := a.eval x) (cells := p.cells) (cells_plain (ev_ok h hx) h0)
   refine upon_val (r := .pointer (some ⟨w.heap.size, 0, none⟩)) (w' := w') ?_ (hK _ _ _ _ _ (g2.put g3 (some d) hd) h2)
   simp only [execOp, Instr.box, Sem.run_bind, Result.andThen_ok, g1, Sem.run_pure]
  ·exact hv.elim
 ·-- buildSlice
  rename_i t len parts
  split at hv
  ·rename_i d e sz xs hb
   obtain ⟨h1, h2⟩ := hv
   obtain ⟨r, w', m', g1, g2, g3⟩ := buildSlice_ok (P := P) hT h hb (has_lt h hd) h1
   refine upon_val (r := r) (w' := w') ?_ (hK _ _ _ _ _ (g2.put g3 (some d) hd) h2)
   simp only [execOp, Sem.run_bind, Result.andThen_ok, g1, Sem.run_pure]
  ·exact hv.elim
 ·-- store
  rename_i t x v
  split at hv
  ·rename_i p q h1 h2
   split at hv
   ·rename_i c mem' h3
    obtain ⟨hc, hk⟩ := hv
    obtain ⟨w', g1, g2⟩ := vStoreR_ok (P := P) hT h h3 hc (ev_ok h h1) (ev_ok h h2)
    unfold Oper.wp Oper.upon
    have e : (execOp a.eval { dst := dst, op := Op.store t x v, type := ty, pos := pos, after := after, guard := guard }).run P w = .ok .skip w' := by
     simp only [execOp, Sem.run_bind, Result.andThen_ok, g1, Sem.run_pure]
    rw [e]
    exact hK _ _ _ _ _ (g2.put (v := undef) (p := .any) trivial dst hd) hk
   ·exact hv.elim
  ·exact hv.elim
 ·-- eql
  rename_i t x y yt
  split at hv
  ·rename_i p h1 h2
   have hy := ev_v h h2
   split at hv
   ·rename_i xs hs
    obtain ⟨A, n, c, e1, e2⟩ := (slice_form (ev_ok h h1)).1 xs hs
    refine upon_val (r := .bool A.isNone) (w' := w) ?_ (hK _ _ _ _ _ (h.put (p := .b A.isNone) (.v _) dst hd) (hv.2 _ e2))
    have := (slice_nil (w := w) hT hv.1 x y A n c).1
    simp only [execOp, hy, e1, Sem.run_bind] at this ⊢
    rw [this]; rfl
   ·rename_i n hs
    obtain ⟨A, n', c, e1, e2⟩ := (slice_form (ev_ok h h1)).2 n hs
    refine upon_val (r := .bool A.isNone) (w' := w) ?_ (hK _ _ _ _ _ (h.put (p := .b A.isNone) (.v _) dst hd) (hv.2 _ e2))
    have := (slice_nil (w := w) hT hv.1 x y A n' c).1
    simp only [execOp, hy, e1, Sem.run_bind] at this ⊢
    rw [this]; rfl
   ·exact hv.elim
  ·rename_i p q _ h1 h2
   split at hv
   ·rename_i c r h3
    exact val (c := c) (p := r) (by simp only [valOp, h1, h2, h3]) hv.1 hv.2
   ·exact hv.elim
  ·exact hv.elim
 ·-- neq
  rename_i t x y yt
  split at hv
  ·rename_i p h1 h2
   have hy := ev_v h h2
   split at hv
   ·rename_i xs hs
    obtain ⟨A, n, c, e1, e2⟩ := (slice_form (ev_ok h h1)).1 xs hs
    refine upon_val (r := .bool (!A.isNone)) (w' := w) ?_ (hK _ _ _ _ _ (h.put (p := .b (!A.isNone)) (.v _) dst hd) (hv.2 _ e2))
    have := (slice_nil (w := w) hT hv.1 x y A n c).2
    simp only [execOp, hy, e1, Sem.run_bind] at this ⊢
    rw [this]; rfl
   ·rename_i n hs
    obtain ⟨A, n', c, e1, e2⟩ := (slice_form (ev_ok h h1)).2 n hs
    refine upon_val (r := .bool (!A.isNone)) (w' := w) ?_ (hK _ _ _ _ _ (h.put (p := .b (!A.isNone)) (.v _) dst hd) (hv.2 _ e2))
    have := (slice_nil (w := w) hT hv.1 x y A n' c).2
    simp only [execOp, hy, e1, Sem.run_bind] at this ⊢
    rw [this]; rfl
   ·exact hv.elim
  ·rename_i p q _ h1 h2
   split at hv
   ·rename_i c r h3
    exact val (c := c) (p := r) (by simp only [valOp, h1, h2, h3]) hv.1 hv.2
   ·exact hv.elim
  ·exact hv.elim
 ·-- call
  rename_i cl
  obtain ⟨callee, args, argTypes⟩ := cl
  dsimp only at hv
  split at hv
  ·split at hv
   ·rename_i s x t t' ha ht
    have e1 := toList_one2 ha
    have e2 := toList_one2 ht
    subst e1 e2
    obtain ⟨rfl, hv⟩ := hv
    have hrun : ∀ r w', (Builtin.append_ #[t', t'] ty #[a.eval s, a.eval x]).run P w = .ok r w' → (execOp a.eval { dst := dst, op := .call { callee := .builtin .append, args := #[s, x], argTypes := #[t', t'] }, type := ty, pos := pos, after := after, guard := guard }).run P w = .ok (.value r) w' := fun r w' h => by
     simp only [execOp, resolve, invoke, builtin, Sem.run_bind, Sem.run_pure, Result.andThen_ok, List.map_toArray, List.map_cons, List.map_nil, h]
    split at hv
    ·rename_i k n p h1 h2
     obtain ⟨r, w', g1, g2⟩ := vcAppend_ok (P := P) (ty := ty) hT h hd (ev_ok h h1) (ev_ok h h2) hv hK
     exact upon_val (hrun r w' g1) g2
    ·rename_i k sz2 off n fl p h1 h2
     obtain ⟨r, w', g1, g2⟩ := vcAppendS_ok (P := P) (ty := ty) hT h hd (ev_ok h h1) (ev_ok h h2) hv hK
     exact upon_val (hrun r w' g1) g2
    ·rename_i sz xs p h1 h2
     split at hv
     ·rename_i e c ys h3 h4
      split at hv
      ·rename_i ei he
       obtain ⟨ti, ht1, ht2⟩ := Option.map_eq_some_iff.1 h3
       obtain ⟨⟨c1, c2, c3, c4, c5, c6, c7⟩, hk⟩ := hv
       obtain ⟨r, w', S', g1, g2, g3⟩ := append_fd_ok (P := P) (ty := ty) hT h ht1 ht2 he c1 c2 c3 c4 (ev_ok h h1) h4 c5 (ev_ok h h2) c6 c7
       exact upon_val (hrun r w' g1) (hK _ _ _ _ _ (g2.put g3 dst hd) hk)
      ·exact hv.elim
     ·exact hv.elim
    ·rename_i p h1 h2
     split at hv
     ·rename_i d e hdd
      split at hv
      ·rename_i ei he
       obtain ⟨hk, h0, hv⟩ := hv
       obtain ⟨m', s1, s2, s3⟩ := nil_ok (e := e) h (has_lt h hd) hk h0
       have hxr : Rep m' w S (a.eval x) p := (ev_ok h h2).keep (fun _ _ hs => hs) (fun _ _ _ => rfl) fun k _ l hl => s3 k l hl
       rw [ev_v h h1] at hrun
       obtain ⟨r, w', g1, g2⟩ := vcAppend_ok (P := P) (ty := ty) (d := some d) hT s1 hd s2 hxr hv hK
       exact upon_val (hrun r w' g1) g2
      ·exact hv.elim
     ·exact hv.elim
    ·exact hv.elim
   ·exact hv.elim
  ·split at hv
   ·rename_i s t ha ht
    have e1 : args = #[s] := by cases args; simp_all
    have e2 : argTypes = #[t] := by cases argTypes; simp_all
    subst e1 e2
    split at hv
    ·rename_i k sz off n h1
     split at hv
     ·rename_i e sz' xs l hk
      split at hv
      ·rename_i ti ei k1 k2
       obtain ⟨c1, rfl, c2, c3, rfl, c4, c5⟩ := hv
       obtain ⟨w', g1, g2⟩ := clear_ok (P := P) (ty := ty) hT h k1 c1 k2 c2 c3 hk (ev_ok h h1) c4
       refine upon_val (r := .tuple #[]) (w' := w') ?_ (hK _ _ _ _ _ (g2.put (p := .d (.v (.tuple #[]))) (.v _) dst hd) c5)
       simp only [execOp, resolve, invoke, builtin, Sem.run_bind, Sem.run_pure, Result.andThen_ok, List.map_toArray, List.map_cons, List.map_nil, g1]
      ·exact hv.elim
     ·exact hv.elim
    ·exact hv.elim
   ·exact hv.elim
  ·split at hv
   ·rename_i c p h1
    exact val h1 hv.1 hv.2
   ·exact hv.elim
  ·rename_i f
   split at hv
   ·rename_i g caps ps h1 h2
    obtain ⟨c1, c2, c3⟩ := hv
    obtain ⟨vs, e1, e2⟩ := callee_ok h h1
    have hargs : All2 (Rep m w S) (args.toList.map a.eval ++ vs) (ps ++ caps) := (evs_ok h h2).app e2
    obtain ⟨S', s1, s2, s3⟩ := viewC_ok h hargs c1 c2
    have hpl : Plain P g := c3.2.1
    refine vcCall_ok (o := { dst := dst, op := .call { callee := .value f, args := args, argTypes := argTypes }, type := ty, pos := pos, after := after, guard := guard }) h s1 s2 (fun k hk => viewC_dom hk) (vs := (args.toList.map a.eval ++ vs).toArray) s3 hd c3 hK ?_
    simp only [execOp, resolve, e1, Deferred.ofValue, invoke, Sem.run_bind, Sem.run_pure, Result.andThen_ok]
    rw [← hpl]
    congr 2
    simp
   ·exact hv.elim
  ·rename_i r name
   split at hv
   ·rename_i t k ps h1 h2
    split at hv
    ·rename_i g h3
     obtain ⟨c1, c2, c3⟩ := hv
     obtain ⟨vs, e2, hrun⟩ := tgt_ok (P := P) (c := ⟨.invoke r name, args, argTypes⟩) (g := g) (as := .ptr k 0 :: ps) hT h (by simp only [Sta.tgt, h1, h2, h3]) c3.2.1
     obtain ⟨S', s1, s2, s3⟩ := viewC_ok h e2 c1 c2
     exact vcCall_ok (o := { dst := dst, op := .call { callee := .invoke r name, args := args, argTypes := argTypes }, type := ty, pos := pos, after := after, guard := guard }) h s1 s2 (fun k hk => viewC_dom hk) (vs := vs.toArray) s3 hd c3 hK (hrun ..)
    ·exact hv.elim
   ·exact hv.elim
 ·-- makeSlice
  rename_i t l c
  split at hv
  ·rename_i d p q h1 h2
   split at hv
   ·rename_i cd ob n h3
    obtain ⟨c1, c2, c3⟩ := hv
    obtain ⟨r, w', m', g1, g2, g3⟩ := vMake_ok (P := P) (d := d) hT h h3 c1 (ev_ok h h1) (ev_ok h h2) (has_lt h hd) c2
    refine upon_val (r := r) (w' := w') ?_ (hK _ _ _ _ _ (g2.put g3 (some d) hd) c3)
    simp only [execOp, Sem.run_bind, Result.andThen_ok, g1, Sem.run_pure]
   ·exact hv.elim
  ·exact hv.elim
 ·-- makeMap
  rename_i t
  split at hv
  ·rename_i d
   obtain ⟨c2, c3⟩ := hv
   obtain ⟨r, w', m', g1, g2, g3⟩ := makeMap_ok (P := P) (t := t) (d := d) h (has_lt h hd) c2
   refine upon_val (r := r) (w' := w') ?_ (hK _ _ _ _ _ (g2.put g3 (some d) hd) c3)
   simp only [execOp, Option.map_none, Sem.run_bind, Result.andThen_ok, g1, Sem.run_pure]
  ·exact hv.elim
 ·-- mapUpdate
  rename_i t x k v
  split at hv
  ·rename_i p q r h1 h2 h3
   split at hv
   ·rename_i mem' h4
    obtain ⟨w', g1, g2⟩ := vUpdate_ok (P := P) hT h h4 (ev_ok h h1) (ev_ok h h2) (ev_ok h h3)
    unfold Oper.wp Oper.upon
    have e : (execOp a.eval { dst := dst, op := Op.mapUpdate t x k v, type := ty, pos := pos, after := after, guard := guard }).run P w = .ok .skip w' := by
     simp only [execOp, Sem.run_bind, Result.andThen_ok, g1, Sem.run_pure]
    rw [e]
    exact hK _ _ _ _ _ (g2.put (v := undef) (p := .any) trivial dst hd) hv
   ·exact hv.elim
  ·exact hv.elim
 ·-- range
  rename_i t x
  split at hv
  ·rename_i d k kt et hx ht
   split at hv
   ·rename_i es hk
    obtain ⟨c1, c2, c3⟩ := hv
    obtain ⟨i, hi, hde⟩ := Option.map_eq_some_iff.1 ht
    have hu := (hT.get hi).under
    rw [hde] at hu
    obtain ⟨r, w', m', g1, g2, g3⟩ := mrange_ok (P := P) h hk c1 (has_lt h hd) c2 hu (ev_ok h hx)
    refine upon_val (r := r) (w' := w') ?_ (hK _ _ _ _ _ (g2.put g3 (some d) hd) c3)
    simp only [execOp, Sem.run_bind, Result.andThen_ok, g1, Sem.run_pure]
   ·exact hv.elim
  ·exact hv.elim
 ·-- next
  rename_i x
  split at hv
  ·rename_i k hx
   split at hv
   ·rename_i H hk
    obtain ⟨left, cur, rfl, c1, c2⟩ := hv
    rcases next_ok (P := P) h hk (ev_ok h hx) ty with ⟨h0, g1⟩ | ⟨i, e, w', h0, g1, g2⟩
    ·refine upon_val (r := .tuple #[.bool false]) (w' := w) ?_ (hK _ _ _ _ _ (h.put (p := .tup [.b false]) ⟨[.bool false], rfl, RepD.v _, trivial⟩ dst hd) (c1 h0))
     simp only [execOp, Sem.run_bind, Result.andThen_ok, g1, Sem.run_pure]
    ·refine upon_val (r := .tuple #[.bool true, e.1, e.2]) (w' := w') ?_ (hK _ _ _ _ _ (g2.put (p := .tup [.b true, .d (.v e.1), .d (.v e.2)]) ⟨[.bool true, e.1, e.2], rfl, RepD.v _, RepD.v _, RepD.v _, trivial⟩ dst hd) (c2 i e h0))
     simp only [execOp, Sem.run_bind, Result.andThen_ok, g1, Sem.run_pure]
   ·exact hv.elim
  ·exact hv.elim
 ·-- entry
  rename_i x
  split at hv
  ·rename_i k hx
   split at hv
   ·rename_i H hk
    obtain ⟨left, e, rfl, c1⟩ := hv
    have g1 := entry_ok (P := P) h hk (ev_ok h hx)
    refine upon_val (r := .tuple #[e.1, e.2]) (w' := w) ?_ (hK _ _ _ _ _ (h.put (p := .tup [.d (.v e.1), .d (.v e.2)]) ⟨[e.1, e.2], rfl, RepD.v _, RepD.v _, trivial⟩ dst hd) c1)
    simp only [execOp, Sem.run_bind, Result.andThen_ok, g1, Sem.run_pure]
   ·exact hv.elim
  ·exact hv.elim
 ·-- convert
  rename_i src dst' x
  split at hv
  ·rename_i k n h1
   split at hv
   ·rename_i e sz xs lk h2
    obtain ⟨c1, c2, c5, hv⟩ := hv
    obtain ⟨i1, j1, d1⟩ := Option.map_eq_some_iff.1 c1
    obtain ⟨i2, j2, d2⟩ := Option.map_eq_some_iff.1 c2
    have e1 := (hT.get j1).under
    rw [d1] at e1
    have e2 := (hT.get j2).under
    rw [d2] at e2
    split at hv
    ·rename_i hsd
     subst hsd
     obtain ⟨rfl, c3, c4, c6⟩ := hv
     obtain ⟨w', m', S', g1, g2, g3⟩ := bytes_ok (P := P) h e1 e2 h2 c3 c4 c5 (ev_ok h h1)
     refine upon_val (r := a.eval x) (w' := w') ?_ (hK _ _ _ _ _ (g2.put g3 dst hd) c6)
     simp only [execOp, Sem.run_bind, Result.andThen_ok, g1, Sem.run_pure]
    ·split at hv
     ·rename_i ns hns
      obtain ⟨rfl, c3, c6⟩ := hv
      obtain ⟨i3, j3, d3⟩ := Option.map_eq_some_iff.1 c3
      have e3 := (hT.get j3).under
      rw [d3] at e3
      have g1 := rowStr_ok (P := P) h e1 e2 e3 h2 c5 hns (ev_ok h h1)
      refine upon_val (r := .string (strOfNums ns)) (w' := w) ?_ (hK _ _ _ _ _ (h.put (p := .d (.v (.string (strOfNums ns)))) (RepD.v _) dst hd) c6)
      simp only [execOp, Sem.run_bind, Result.andThen_ok, g1, Sem.run_pure]
     ·exact hv.elim
   ·exact hv.elim
  ·split at hv
   ·rename_i c p h1
    exact val h1 hv.1 hv.2
   ·exact hv.elim
 ·rename_i op' _ _ _ _ _ _ _ _ _ _ _ _ _ _ _ 
  split at hv
  ·rename_i c p h1
   exact val h1 hv.1 hv.2
  ·exact hv.elim
end
end Go.Proofs.YtplooifpgmlofaaGreat
