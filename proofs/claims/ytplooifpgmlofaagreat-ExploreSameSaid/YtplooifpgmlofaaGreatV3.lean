/- What an operation that leaves the world alone yields, operation by operation; and that it does. No condition. -/
import Derived.Test.YtplooifpgmlofaaGreatV2
import Derived.Laws.StructEq
import Derived.Laws.BytesArg
import Derived.Laws.Strings3
namespace Go.Proofs.YtplooifpgmlofaaGreat
open Go.RowKit

abbrev Tab := List (Nat × TI)
def Sta.ev (σ : Sta) : Operand → Option PV
 | .tmp t => look t σ.slots
 | .const v => some (.d (.v v))
 | .func f => some (.clo f [])
 | .global _ => none
abbrev PV.i (n : Int) : PV := .d (.v (.int .i64 n))
abbrev PV.b (b : Bool) : PV := .d (.v (.bool b))

section
variable {P : Program} {tb : Tab} {B : Base} {m : Map} {S : Cells} {σ : Sta} {a : Act} {w : World}

theorem ev_ok (h : Sim B m S σ a w) {x : Operand} {p : PV} (hx : σ.ev x = some p) : Rep m w S (a.eval x) p := by
 cases x with
 | tmp t =>
  obtain ⟨v, hv, hr⟩ := h.slots t p hx
  have : a.eval (.tmp t) = v := by simp [Act.eval, Array.getD_eq_getD_getElem?, hv]
  rw [this]; exact hr
 | const v => cases hx; exact .v v
 | func f => cases hx; exact ⟨[], rfl, trivial⟩
 | global g => cases hx
theorem ev_v (h : Sim B m S σ a w) {x : Operand} {v : Value} (hx : σ.ev x = some (.d (.v v))) : a.eval x = v := by
 have h2 : RepD w S (a.eval x) (.v v) := ev_ok h hx
 generalize a.eval x = u at h2
 cases h2; rfl

def evInts (σ : Sta) : List Operand → Option (List (IntKind × Int))
 | [] => some []
 | x :: r => match σ.ev x, evInts σ r with
  | some (.d (.v (.int k n))), some l => some ((k, n) :: l)
  | _, _ => none
theorem evInts_ok (h : Sim B m S σ a w) : ∀ {xs : List Operand} {l : List (IntKind × Int)}, evInts σ xs = some l → xs.map a.eval = l.map fun e => .int e.1 e.2
 | [], l, hl => by cases hl; rfl
 | x :: r, l, hl => by
  unfold evInts at hl
  split at hl
  ·rename_i k n l' h1 h2
   cases hl
   simp [ev_v h h1, evInts_ok h h2]
  ·cases hl

def ptrNil : PV → Option Bool
 | .d (.v (.pointer none)) => some true
 | .ptr .. => some false
 | .rp .. => some false
 | .ep .. => some false
 | _ => none
def vBin0 (tb : Tab) (op : BinOp) (t : Nat) (x y : PV) : Option (Prop × PV) :=
 match x, y with
 | .d (.v (.int k a)), .d (.v (.int k' b)) => (ibin op k a k' b).map fun e => (e.1, .d (.v e.2))
 | .d (.v (.bool a)), .d (.v (.bool b)) =>
  match op, (look t tb).map TI.desc with
  | .eql, some TypeDesc.bool => some (True, .b (decide (a = b)))
  | .neq, some TypeDesc.bool => some (True, .b (!decide (a = b)))
  | _, _ => none
 | .d (.v (.string a)), .d (.v (.string b)) =>
  match op, (look t tb).map TI.desc with
  | .eql, some TypeDesc.string => some (True, .b (a.toList == b.toList))
  | .neq, some TypeDesc.string => some (True, .b (!(a.toList == b.toList)))
  | .add, some TypeDesc.string => some (a.size + b.size ≤ 4611686018427387904, .d (.v (.string (a ++ b))))
  | .lss, some TypeDesc.string => some (True, .b (Op.bytesLess a.toList b.toList))
  | _, _ => none
 | x, .d (.v (.pointer none)) =>
  match op, ptrNil x, (look t tb).map TI.desc with
  | .eql, some b, some (TypeDesc.pointer _) => some (True, .b b)
  | .neq, some b, some (TypeDesc.pointer _) => some (True, .b (!b))
  | _, _, _ => none
 | _, _ => none
theorem ptrNil_ok {x : PV} {b : Bool} (h : ptrNil x = some b) {v : Value} (hv : Rep m w S v x) : ∃ A : Option Addr, v = .pointer A ∧ A.isNone = b := by
 unfold ptrNil at h
 split at h
 ·cases h
  have hv : RepD w S v (.v (.pointer none)) := hv
  cases hv
  exact ⟨none, rfl, rfl⟩
 ·cases h; obtain ⟨_, _, _, rfl⟩ := hv; exact ⟨_, rfl, rfl⟩
 ·cases h; obtain ⟨_, _, _, rfl⟩ := hv; exact ⟨_, rfl, rfl⟩
 ·cases h; obtain ⟨_, _, rfl, _⟩ := hv; exact ⟨_, rfl, rfl⟩
 ·cases h
theorem eqGuard_ptr (op : BinOp) (t : TypeId) (x y : Operand) (A B : Option Addr) : (eqGuard op t x y (.pointer A) (.pointer B)).run P w = .ok () w := by
 cases op <;> simp [eqGuard]
theorem ptr_nil (hT : TabOk P tb) {t e : Nat} (h : (look t tb).map TI.desc = some (TypeDesc.pointer e)) (x y : Operand) (A : Option Addr) :
  ((do eqGuard .eql t x y (.pointer A) (.pointer none); binOp .eql t (.pointer A) (.pointer none) : Sem Value).run P w = .ok (.bool A.isNone) w) ∧ ((do eqGuard .neq t x y (.pointer A) (.pointer none); binOp .neq t (.pointer A) (.pointer none) : Sem Value).run P w = .ok (.bool (!A.isNone)) w) := by
 obtain ⟨i, hi, hd⟩ := Option.map_eq_some_iff.1 h
 have h1 := (hT.get hi).under
 rw [hd] at h1
 have key : ∀ d : Nat, (Op.equalIn (d + 1) t (.pointer A) (.pointer none)).run P w = .ok A.isNone w := fun d => by
  cases A <;> simp [Op.equalIn, run_underlying h1]
 have key : (Op.equalIn 10000 t (.pointer A) (.pointer none)).run P w = .ok A.isNone w := key 9999
 constructor
 ·simp only [Sem.run_bind, eqGuard_ptr, Result.andThen_ok, binOp, Op.equal, Op.maxDepth, key, Sem.run_pure]
 ·simp only [Sem.run_bind, eqGuard_ptr, Result.andThen_ok, binOp, Op.equal, Op.maxDepth, key, Sem.run_pure]
theorem vBin0_ok (hT : TabOk P tb) {op : BinOp} {t : Nat} {x y : PV} {c : Prop} {p : PV} (hv : vBin0 tb op t x y = some (c, p)) (hc : c) {u v : Value} (hu : Rep m w S u x) (hw : Rep m w S v y) (ox oy : Operand) :
  ∃ r, (do eqGuard op t ox oy u v; binOp op t u v : Sem Value).run P w = .ok r w ∧ Rep m w S r p := by
 unfold vBin0 at hv
 split at hv
 ·rename_i k a k' b
  have hu : RepD w S u (.v (.int k a)) := hu
  have hw : RepD w S v (.v (.int k' b)) := hw
  cases hu; cases hw
  simp only [Option.map_eq_some_iff] at hv
  obtain ⟨⟨c', r⟩, h1, h2⟩ := hv
  cases h2
  refine ⟨r, ?_, .v r⟩
  simp only [Sem.run_bind, eqGuard_int, Result.andThen_ok, ibin_ok h1 hc]
 ·rename_i a b
  have hu : RepD w S u (.v (.bool a)) := hu
  have hw : RepD w S v (.v (.bool b)) := hw
  cases hu; cases hw
  split at hv
  ·rename_i hb
   cases hv
   obtain ⟨i, hi, hd⟩ := Option.map_eq_some_iff.1 hb
   have := (hT.get hi).under
   rw [hd] at this
   refine ⟨.bool (decide (a = b)), ?_, .v _⟩
   simp only [Sem.run_bind, eqGuard_bool, Result.andThen_ok]
   simp [binOp, Op.equal, Op.maxDepth, run_equalIn_bool' w _ t a b this]
   cases a <;> cases b <;> rfl
  ·rename_i hb
   cases hv
   obtain ⟨i, hi, hd⟩ := Option.map_eq_some_iff.1 hb
   have := (hT.get hi).under
   rw [hd] at this
   refine ⟨.bool (!decide (a = b)), ?_, .v _⟩
   simp only [Sem.run_bind, eqGuard_bool, Result.andThen_ok]
   simp [binOp, Op.equal, Op.maxDepth, run_equalIn_bool' w _ t a b this]
   cases a <;> cases b <;> rfl
  ·cases hv
 ·rename_i a b
  have hu : RepD w S u (.v (.string a)) := hu
  have hw : RepD w S v (.v (.string b)) := hw
  cases hu; cases hw
  have hg : ∀ op, (eqGuard op t ox oy (.string a) (.string b)).run P w = .ok () w := fun op => by cases op <;> simp [eqGuard]
  split at hv
  ·rename_i hb
   cases hv
   refine ⟨.bool (a.toList == b.toList), ?_, .v _⟩
   simp only [Sem.run_bind, hg, Result.andThen_ok]
   simp [binOp, Op.stringOp]
  ·rename_i hb
   cases hv
   refine ⟨.bool (!(a.toList == b.toList)), ?_, .v _⟩
   simp only [Sem.run_bind, hg, Result.andThen_ok]
   simp [binOp, Op.stringOp]
  ·rename_i hb
   cases hv
   refine ⟨.string (a ++ b), ?_, .v _⟩
   simp only [Sem.run_bind, hg, Result.andThen_ok]
   have hm : ¬ ((a.size + b.size : Nat) : Int) > IntKind.i64.max := by
    have : IntKind.i64.max = 9223372036854775807 := by decide
    omega
   simp only [binOp, Op.stringOp, if_neg hm, Sem.run_pure]
  ·rename_i hb
   cases hv
   refine ⟨.bool (Op.bytesLess a.toList b.toList), ?_, .v _⟩
   simp only [Sem.run_bind, hg, Result.andThen_ok]
   simp [binOp, Op.stringOp]
  ·cases hv
 ·rename_i hp
  obtain rfl : v = .pointer none := by
   have hw : RepD w S v (.v (.pointer none)) := hw
   cases hw; rfl
  split at hv
  ·rename_i b e h1 h2
   cases hv
   obtain ⟨A, rfl, rfl⟩ := ptrNil_ok h1 hu
   exact ⟨_, (ptr_nil hT h2 ox oy A).1, .v _⟩
  ·rename_i b e h1 h2
   cases hv
   obtain ⟨A, rfl, rfl⟩ := ptrNil_ok h1 hu
   exact ⟨_, (ptr_nil hT h2 ox oy A).2, .v _⟩
  ·cases hv
 ·cases hv

def vUn (op : UnOp) (x : PV) : Option (Prop × PV) :=
 match op, x with
 | .not, .d (.v (.bool b)) => some (True, .b (!b))
 | .neg, .d (.v (.int k n)) => some (True, .d (.v (.int k (k.wrap (0 - n)))))
 | _, _ => none
theorem vUn_ok {op : UnOp} {x : PV} {c : Prop} {p : PV} (hv : vUn op x = some (c, p)) {u : Value} (hu : Rep m w S u x) : ∃ r, (Op.unary op u).run P w = .ok r w ∧ Rep m w S r p := by
 unfold vUn at hv
 split at hv
 ·rename_i b
  have hu : RepD w S u (.v (.bool b)) := hu
  cases hu; cases hv
  exact ⟨_, rfl, .v _⟩
 ·rename_i k n
  have hu : RepD w S u (.v (.int k n)) := hu
  cases hu; cases hv
  exact ⟨_, rfl, .v _⟩
 ·cases hv

def numsOf : List (List D) → Option (List Int)
 | [] => some []
 | [.v (.int .u8 n)] :: r => (numsOf r).map (n :: ·)
 | _ => none
theorem numsOf_at : ∀ {xs : List (List D)} {ns : List Int}, numsOf xs = some ns → xs = ns.map fun n => [.v (.int .u8 n)]
 | [], ns, h => by cases h; rfl
 | x :: r, ns, h => by
  unfold numsOf at h
  split at h
  ·rename_i e; cases e
  ·rename_i n r' e
   cases e
   obtain ⟨l, h1, rfl⟩ := Option.map_eq_some_iff.1 h
   rw [numsOf_at h1]; rfl
  ·cases h
def vConvert (tb : Tab) (src dst : Nat) (x : PV) : Option (Prop × PV) :=
 match x, (look src tb).map TI.desc, (look dst tb).map TI.desc with
 | .d (.v (.int _ n)), some _, some (TypeDesc.int k) => some (True, .d (.v (.int k (k.wrap n))))
 | .d (.v (.slice none 0 0)), some (TypeDesc.slice e), some TypeDesc.string => match (look e tb).map TI.desc with
  | some (.int .u8) => some (True, .d (.v (.string (strOfNums []))))
  | _ => none
 | .d (.sl 1 xs), some (TypeDesc.slice e), some TypeDesc.string => match (look e tb).map TI.desc with
  | some (.int .u8) => (numsOf xs).map fun ns => (True, .d (.v (.string (strOfNums ns))))
  | _ => none
 | _, _, _ => none
theorem bytes_str {xs : List (List D)} {ns : List Int} {u : Value} (hn : numsOf xs = some ns) (hu : RepD w S u (.sl 1 xs)) {src e : TypeId} (hs : P.underlying src = some (.slice e)) (he : P.underlying e = some (.int .u8)) {dst : TypeId} (hd : P.underlying dst = some .string) :
  (convert src dst u).run P w = .ok (.string (strOfNums ns)) w := by
 cases hu with
 | sl A n c sz xs f hl hlen hmax hnil hsz hrow hat hone hrep =>
  have hxs := numsOf_at hn
  have hle : n = ns.length := by rw [hl, hxs, List.length_map]
  by_cases h0 : 0 < xs.length
  ·obtain ⟨b, o, rfl, hc⟩ := hat h0
   refine run_convert_bytes_arg w src e hs he b o n c ns hle.symm (fun i hi => ?_) dst hd
   have hi' : i < xs.length := by omega
   obtain ⟨_, h1⟩ := hc i 0 hi' (by omega)
   rw [show o + i * 1 + 0 = o + i by omega] at h1
   rw [h1]
   have hin : i < ns.length := by omega
   have hx : xs[i]? = some [.v (.int .u8 (ns.getD i 0))] := by
    rw [hxs, List.getElem?_map, List.getD_eq_getElem?_getD, List.getElem?_eq_getElem hin]; rfl
   have hr := hrep i _ 0 _ hx rfl
   generalize f i 0 = v at hr
   cases hr; rfl
  ·have hz : xs = [] := List.length_eq_zero_iff.1 (by omega)
   subst hz
   cases hn
   have hn0 : n = 0 := by simpa using hl
   subst hn0
   cases A with
   | none => rw [run_convert_bytes_nil w src e hs he 0 c dst hd]; rfl
   | some ad =>
    rw [run_convert_bytes_string w src dst e _ 0 c hs he hd, run_bytesToString w ad 0 c [] (by have := run_loadCells_list (P := P) w ad [] (fun j v hj => by simp at hj); simpa using this)]
    rfl
theorem vConvert_ok (hT : TabOk P tb) {src dst : Nat} {x : PV} {c : Prop} {p : PV} (hv : vConvert tb src dst x = some (c, p)) {u : Value} (hu : Rep m w S u x) : ∃ r, (convert src dst u).run P w = .ok r w ∧ Rep m w S r p := by
 unfold vConvert at hv
 split at hv
 ·rename_i k0 n d0 k h1 h2
  have hu : RepD w S u (.v (.int k0 n)) := hu
  cases hu; cases hv
  obtain ⟨i, hi, hd⟩ := Option.map_eq_some_iff.1 h2
  obtain ⟨i1, hi1, _⟩ := Option.map_eq_some_iff.1 h1
  have e1 := (hT.get hi).under
  rw [hd] at e1
  have e2 := (hT.get hi1).under
  refine ⟨.int k (k.wrap n), ?_, .v _⟩
  simp [convert, run_underlying e1, run_underlying e2, Conv.intToInt]
 ·rename_i e h1 h2
  have hu : RepD w S u (.v (.slice none 0 0)) := hu
  cases hu
  split at hv
  ·rename_i h3
   cases hv
   obtain ⟨i, hi, hd⟩ := Option.map_eq_some_iff.1 h2
   obtain ⟨i1, hi1, hd1⟩ := Option.map_eq_some_iff.1 h1
   obtain ⟨i3, hi3, hd3⟩ := Option.map_eq_some_iff.1 h3
   have e1 := (hT.get hi).under
   rw [hd] at e1
   have e2 := (hT.get hi1).under
   rw [hd1] at e2
   have e3 := (hT.get hi3).under
   rw [hd3] at e3
   refine ⟨_, ?_, .v _⟩
   rw [run_convert_bytes_nil w src e e2 e3 0 0 dst e1]; rfl
  ·cases hv
 ·rename_i xs e h1 h2
  split at hv
  ·rename_i h3
   obtain ⟨ns, hn, h4⟩ := Option.map_eq_some_iff.1 hv
   cases h4
   obtain ⟨i, hi, hd⟩ := Option.map_eq_some_iff.1 h2
   obtain ⟨i1, hi1, hd1⟩ := Option.map_eq_some_iff.1 h1
   obtain ⟨i3, hi3, hd3⟩ := Option.map_eq_some_iff.1 h3
   have e1 := (hT.get hi).under
   rw [hd] at e1
   have e2 := (hT.get hi1).under
   rw [hd1] at e2
   have e3 := (hT.get hi3).under
   rw [hd3] at e3
   exact ⟨_, bytes_str hn hu e2 e3 e1, .v _⟩
  ·cases hv
 ·cases hv

def maskC (cs : List (Nat × Nat)) : Nat → List D → List PV
 | _, [] => []
 | c, p :: r => (match lookN c cs with | some _ => .any | none => .d p) :: maskC cs (c + 1) r
theorem maskC_len {cs : List (Nat × Nat)} : ∀ {r : List D} {c : Nat}, (maskC cs c r).length = r.length
 | [], _ => rfl
 | _ :: r, c => by unfold maskC; rw [List.length_cons, maskC_len, List.length_cons]
theorem maskC_get {cs : List (Nat × Nat)} : ∀ {r : List D} {c j : Nat} {q : PV}, (maskC cs c r)[j]? = some q → q = .any ∨ ∃ p, r[j]? = some p ∧ q = .d p ∧ lookN (c + j) cs = none
 | [], _, _, _, h => by simp [maskC] at h
 | p :: r, c, 0, q, h => by
  unfold maskC at h
  simp only [List.getElem?_cons_zero, Option.some.injEq] at h
  split at h
  ·exact .inl h.symm
  ·rename_i hn; exact .inr ⟨p, rfl, h.symm, hn⟩
 | p :: r, c, j + 1, q, h => by
  unfold maskC at h
  rw [List.getElem?_cons_succ] at h
  rcases maskC_get h with h | ⟨p', h1, h2, h3⟩
  ·exact .inl h
  ·exact .inr ⟨p', by simpa using h1, h2, by rw [show c + (j + 1) = c + 1 + j from by omega]; exact h3⟩
theorem All2.of_index' {α β : Type} {R : α → β → Prop} : ∀ {as : List α} {bs : List β}, as.length = bs.length → (∀ (i : Nat) (a : α) (b : β), as[i]? = some a → bs[i]? = some b → R a b) → All2 R as bs
 | [], [], _, _ => trivial
 | a :: as, b :: bs, hl, h => ⟨h 0 a b rfl rfl, All2.of_index' (by simpa using hl) fun i x y hx hy => h (i + 1) x y (by simpa using hx) (by simpa using hy)⟩
 | [], _ :: _, hl, _ => by simp at hl
 | _ :: _, [], hl, _ => by simp at hl
def vCells (σ : Sta) : PV → Option (List PV × Nat)
 | .ptr k off => match look k σ.mem with
  | some (.box _ cells) => some (cells, off)
  | _ => none
 | .ep row off => some (row.map .d, off)
 | .rp k sz i off => match look k σ.mem with
  | some (.row _ sz' xs _) => if sz = sz' then some ((xs.getD i []).map .d, off) else none
  | some (.nest _ sz' xs _ cs foc) => if sz = sz' then (match foc with
    | some (j, ps) => some (if i = j then ps else maskC cs 0 (xs.getD i []), off)
    | none => some (maskC cs 0 (xs.getD i []), off)) else none
  | _ => none
 | _ => none
theorem all2_map_d {us : List Value} {row : List D} (h : All2 (RepD w S) us row) : All2 (Rep1 m w S) us (row.map .d) := by
 induction us generalizing row with
 | nil => cases row with
  | nil => trivial
  | cons _ _ => exact h.elim
 | cons u us ih => cases row with
  | nil => exact h.elim
  | cons r row => exact ⟨h.1, ih h.2⟩
theorem flatten_get (sz : Nat) : ∀ (xs : List (List D)), (∀ x ∈ xs, x.length = sz) → ∀ i, i < xs.length → (xs.flatten.drop (i * sz)).take sz = xs.getD i []
 | [], _, i, hi => by simp at hi
 | x :: xs, h, 0, _ => by
  simp only [Nat.zero_mul, List.drop_zero, List.flatten_cons, List.getD_cons_zero]
  rw [List.take_append_of_le_length (by rw [h x (by simp)]; exact Nat.le_refl _), ← h x (by simp), List.take_length]
 | x :: xs, h, i + 1, hi => by
  have hx := h x (by simp)
  rw [List.flatten_cons, List.getD_cons_succ, ← flatten_get sz xs (fun y hy => h y (by simp [hy])) i (by simpa using hi)]
  rw [show (i + 1) * sz = sz + i * sz from by rw [Nat.add_mul]; omega, ← List.drop_drop, ← hx, List.drop_left]
theorem flatten_len (sz : Nat) : ∀ (xs : List (List D)), (∀ x ∈ xs, x.length = sz) → xs.flatten.length = xs.length * sz
 | [], _ => by simp
 | x :: xs, h => by rw [List.flatten_cons, List.length_append, flatten_len sz xs fun y hy => h y (by simp [hy]), h x (by simp), List.length_cons, Nat.add_mul]; omega
theorem getD_nil_lt {xs : List (List D)} {i : Nat} {j : Nat} (h : j < (xs.getD i []).length) : i < xs.length := by
 rcases Nat.lt_or_ge i xs.length with h' | h'
 ·exact h'
 ·rw [List.getD_eq_getElem?_getD, List.getElem?_eq_none h'] at h; simp at h
theorem vCells_ok (h : Sim B m S σ a w) {x : PV} {cells : List PV} {off : Nat} (hv : vCells σ x = some (cells, off)) (hne : 0 < cells.length) {u : Value} (hu : Rep m w S u x) :
  ∃ b o us, u = .pointer (some ⟨b, o + off, none⟩) ∧ All2 (Rep1 m w S) us cells ∧ ∀ (j : Nat) (v : Value), us[j]? = some v → w.cell? ⟨b, o + j, none⟩ = some v := by
 unfold vCells at hv
 split at hv
 ·rename_i k off'
  split at hv
  ·rename_i t cs hk
   cases hv
   obtain ⟨b, c, h1, rfl⟩ := hu
   obtain ⟨b', c', arr, h2, h3, h4, _⟩ := h.objs _ _ hk
   rw [h1] at h2; cases h2
   refine ⟨b, 0, arr.toList, by rw [Nat.zero_add], h4, fun j v hj => ?_⟩
   rw [Nat.zero_add]
   simp only [World.cell?, h3]
   simpa using hj
  ·cases hv
 ·rename_i row off'
  cases hv
  obtain ⟨b, o, rfl, us, h1, h2⟩ := hu
  exact ⟨b, o, us, rfl, all2_map_d h1, fun j v hj => (h2 j v hj).2⟩
 ·rename_i k sz i off'
  split at hv
  ·rename_i t sz' xs l hk
   split at hv
   ·rename_i e
    subst e
    cases hv
    rw [List.length_map] at hne
    have hi := getD_nil_lt hne
    obtain ⟨b, c, h1, rfl⟩ := hu
    obtain ⟨g0, g1, l', g2, g3⟩ := h.objs _ _ hk
    rw [h1] at g2; cases g2
    rcases g3 with ⟨g3, _⟩ | ⟨b', arr, us, e, g4, _, _, _, g5, _, g6, _⟩
    ·cases g3
    cases e
    refine ⟨b, i * sz, (us.drop (i * sz)).take sz, rfl, all2_map_d ?_, fun j v hj => ?_⟩
    ·rw [← flatten_get sz xs g1 i hi]; exact (g5.drop _).take _
    ·rw [List.getElem?_take] at hj
     split at hj
     ·rw [List.getElem?_drop] at hj
      simp only [World.cell?, g4]
      simpa using g6 _ _ hj
     ·cases hj
   ·cases hv
  ·rename_i t sz' xs pr cs foc hk
   split at hv
   ·rename_i e
    subst e
    obtain ⟨b, c, h1, rfl⟩ := hu
    obtain ⟨g0, g1, l', g2, g3⟩ := h.objs _ _ hk
    rw [h1] at g2; cases g2
    rcases g3 with ⟨g3, _⟩ | ⟨b', arr, us, e, g4, g5, g6, g7, g8, g9, g10, g11, g12, g13, g14, g15⟩
    ·cases g3
    cases e
    have hread : ∀ i, i < xs.length → ∀ (j : Nat) (v : Value), ((us.drop (i * sz)).take sz)[j]? = some v → w.cell? ⟨b, i * sz + j, none⟩ = some v ∧ us[i * sz + j]? = some v ∧ j < sz := fun i hi j v hj => by
     rw [List.getElem?_take] at hj
     split at hj
     ·rw [List.getElem?_drop] at hj
      refine ⟨?_, hj, by assumption⟩
      simp only [World.cell?, g4]
      simpa using g10 _ _ hj
     ·cases hj
    have hul : ∀ i, i < xs.length → ((us.drop (i * sz)).take sz).length = sz := fun i hi => by
     have := flat_lt (sz := sz) (c := sz - 1) hi (by omega)
     rw [List.length_take, List.length_drop]; omega
    have masked : ∀ i, i < xs.length → focAt foc i = none → All2 (Rep1 m w S) ((us.drop (i * sz)).take sz) (maskC cs 0 (xs.getD i [])) := fun i hi hfoc => by
     obtain ⟨x, hx⟩ : ∃ x, xs[i]? = some x := ⟨_, List.getElem?_eq_getElem hi⟩
     have hxl := g1 x (List.mem_of_getElem? hx)
     rw [List.getD_eq_getElem?_getD, hx, Option.getD_some]
     refine All2.of_index' (by rw [hul i hi, maskC_len, hxl]) fun c u q hu hq => ?_
     obtain ⟨_, f2, f3⟩ := hread i hi c u hu
     rcases maskC_get hq with rfl | ⟨p, k1, rfl, k3⟩
     ·trivial
     ·rw [Nat.zero_add] at k3
      have hn := g12 i x hx c p u k1 f2
      unfold NCell at hn
      rw [hfoc] at hn
      dsimp only at hn
      rw [k3] at hn
      exact hn
    cases foc with
    | some e =>
     obtain ⟨j, ps⟩ := e
     dsimp only at hv
     by_cases hij : i = j
     ·subst hij
      rw [if_pos rfl] at hv
      obtain ⟨e1, e2⟩ := Prod.mk.inj (Option.some.inj hv)
      subst e1 e2
      have hfoc : focAt (some (i, ps)) i = some ps := focAt_self
      obtain ⟨hpl, hi⟩ := g15 ps i hfoc
      obtain ⟨x, hx⟩ : ∃ x, xs[i]? = some x := ⟨_, List.getElem?_eq_getElem hi⟩
      have hxl := g1 x (List.mem_of_getElem? hx)
      refine ⟨b, i * sz, _, rfl, All2.of_index' (by rw [hul i hi, hpl]) fun c u q hu hq => ?_, fun j v hj => (hread i hi j v hj).1⟩
      obtain ⟨_, f2, f3⟩ := hread i hi c u hu
      obtain ⟨p, hp⟩ : ∃ p, x[c]? = some p := ⟨_, List.getElem?_eq_getElem (by omega)⟩
      have hn := g12 i x hx c p u hp f2
      unfold NCell at hn
      rw [hfoc] at hn
      obtain ⟨q', hq', hr⟩ := hn
      rw [hq] at hq'; cases hq'
      exact hr
     ·rw [if_neg hij] at hv
      cases hv
      rw [maskC_len] at hne
      have hi := getD_nil_lt hne
      exact ⟨b, i * sz, _, rfl, masked i hi (focAt_ne hij), fun j v hj => (hread i hi j v hj).1⟩
    | none =>
     cases hv
     rw [maskC_len] at hne
     have hi := getD_nil_lt hne
     exact ⟨b, i * sz, _, rfl, masked i hi rfl, fun j v hj => (hread i hi j v hj).1⟩
   ·cases hv
  ·cases hv
 ·cases hv

theorem ObjOk.focRep {k t sz : Nat} {xs : List (List D)} {pr : Nat → Bool} {cs : List (Nat × Nat)} {i : Nat} {ps : List PV} (h : ObjOk m w S k (.nest t sz xs pr cs (some (i, ps)))) {c : Nat} {q : PV} (hq : ps[c]? = some q) : ∃ v, Rep1 m w S v q := by
 obtain ⟨g0, g1, l', g2, g3⟩ := h
 rcases g3 with ⟨_, _, _, g3⟩ | ⟨b', arr, us, e, g4, g5, g6, g7, g8, g9, g10, g11, g12, g13, g14, g15⟩
 ·cases g3
 have hfoc : focAt (some (i, ps)) i = some ps := focAt_self
 obtain ⟨hpl, hi⟩ := g15 ps i hfoc
 obtain ⟨x, hx⟩ : ∃ x, xs[i]? = some x := ⟨_, List.getElem?_eq_getElem hi⟩
 have hxl := g1 x (List.mem_of_getElem? hx)
 have hc : c < sz := by rw [← hpl]; exact (List.getElem?_eq_some_iff.1 hq).1
 obtain ⟨p, hp⟩ : ∃ p, x[c]? = some p := ⟨_, List.getElem?_eq_getElem (by omega)⟩
 obtain ⟨u, hu⟩ : ∃ u, us[i * sz + c]? = some u := ⟨_, List.getElem?_eq_getElem (by rw [g8]; exact flat_lt hi hc)⟩
 have hn := g12 i x hx c p u hp hu
 unfold NCell at hn
 rw [hfoc] at hn
 obtain ⟨q', hq', hr⟩ := hn
 rw [hq] at hq'; cases hq'
 exact ⟨u, hr⟩
def vLoad (tb : Tab) (σ : Sta) (t : Nat) (x : PV) : Option (Prop × PV) :=
 match vCells σ x, look t tb with
 | some (cells, off), some i => if i.size = 0 then none else some (readAt i cells off)
 | _, _ => none
theorem readAt_pos {i : TI} (hs : i.size ≠ 0) {cells : List PV} {off : Nat} (h : (readAt i cells off).1) : 0 < cells.length := by
 unfold readAt at h
 split at h
 ·have : off + i.size ≤ cells.length := h
  omega
 ·have : off < cells.length := h
  omega
theorem vLoad_ok (hT : TabOk P tb) (h : Sim B m S σ a w) {t : Nat} {x : PV} {c : Prop} {p : PV} (hv : vLoad tb σ t x = some (c, p)) (hc : c) {u : Value} (hu : Rep m w S u x) : ∃ r, (Instr.loadAt t u).run P w = .ok r w ∧ Rep m w S r p := by
 unfold vLoad at hv
 split at hv
 ·rename_i cells off i h1 h2
  split at hv
  ·cases hv
  rename_i hs
  have hv := Option.some.inj hv
  have hc' : (readAt i cells off).1 := by rw [hv]; exact hc
  obtain ⟨b, o, us, rfl, ha, hcell⟩ := vCells_ok h h1 (readAt_pos hs hc') hu
  obtain ⟨v, hr, hrep⟩ := readAt_ok (hT.get h2) hcell ha hc'
  rw [hv] at hrep
  exact ⟨v, by simp only [Instr.loadAt, Instr.sureAddr, Sem.run_bind, Sem.run_pure, Result.andThen_ok, hr], Rep.of2 hrep⟩
 ·cases hv

def PV.shift (n : Nat) : PV → Option PV
 | .ptr k off => some (.ptr k (off + n))
 | .ep row off => some (.ep row (off + n))
 | .rp k sz i off => some (.rp k sz i (off + n))
 | _ => none
theorem shift_ok {n : Nat} {x p : PV} (hs : x.shift n = some p) {u : Value} (hu : Rep m w S u x) : ∃ ad : Addr, ad.spot = none ∧ u = .pointer (some ad) ∧ Rep m w S (.pointer (some (ad.add n))) p := by
 cases x <;> simp only [PV.shift] at hs <;> try (cases hs; done)
 ·cases hs
  obtain ⟨b, c, h1, rfl⟩ := hu
  exact ⟨_, rfl, rfl, b, c, h1, by rw [Addr.add_lit]⟩
 ·cases hs
  obtain ⟨b, c, h1, rfl⟩ := hu
  exact ⟨_, rfl, rfl, b, c, h1, by rw [Addr.add_lit, Nat.add_assoc]⟩
 ·cases hs
  obtain ⟨b, o, rfl, h1⟩ := hu
  exact ⟨_, rfl, rfl, b, o, by rw [Addr.add_lit, Nat.add_assoc], h1⟩

def vFieldAddr (tb : Tab) (s f : Nat) (x : PV) : Option (Prop × PV) :=
 match (look s tb).map TI.desc with
 | some (TypeDesc.struct fs) => match fs[f]? with
  | some fd => match look fd.type tb, x.shift fd.offset with
   | some i, some p => if i.size = 0 then none else some (True, p)
   | _, _ => none
  | none => none
 | _ => none
theorem vFieldAddr_ok (hT : TabOk P tb) {s f : Nat} {x : PV} {c : Prop} {p : PV} (hv : vFieldAddr tb s f x = some (c, p)) {u : Value} (hu : Rep m w S u x) : ∃ r, (Instr.fieldAt s u f).run P w = .ok r w ∧ Rep m w S r p := by
 unfold vFieldAddr at hv
 split at hv
 ·rename_i fs hs
  obtain ⟨i, hi, hd⟩ := Option.map_eq_some_iff.1 hs
  have e1 := (hT.get hi).under
  rw [hd] at e1
  split at hv
  ·rename_i fd hf
   split at hv
   ·rename_i i2 p2 h2 h3
    split at hv
    ·cases hv
    ·rename_i hne
     cases hv
     obtain ⟨ad, hsp, rfl, hr⟩ := shift_ok h3 hu
     refine ⟨_, ?_, hr⟩
     simp [Instr.fieldAt, run_underlying e1, hf, Instr.sureAddr, fieldPlace, (hT.get h2).sizeOf, hne]
   ·cases hv
  ·cases hv
 ·cases hv

def vField (tb : Tab) (t f : Nat) (x : PV) : Option (Prop × PV) :=
 match (look t tb).map TI.desc, x with
 | some (TypeDesc.struct fs), .agg cs => match fs[f]? with
  | some fd => match look fd.type tb with
   | some i => some (readAt i cs fd.offset)
   | none => none
  | none => none
 | _, _ => none
theorem part_ok {t : Nat} {i : TI} (h : TIOk P (t, i)) {us : List Value} {cells : List PV} {off : Nat} (ha : All2 (Rep1 m w S) us cells) (hok : (readAt i cells off).1) : ∃ v, (part t us.toArray off).run P w = .ok v w ∧ Rep2 m w S v (readAt i cells off).2 := by
 unfold readAt at hok ⊢
 cases hi : isA i.desc
 ·simp only [hi, Bool.false_eq_true, if_false] at hok ⊢
  obtain ⟨c, hcl⟩ : ∃ c, cells[off]? = some c := ⟨_, List.getElem?_eq_getElem hok⟩
  obtain ⟨v, hv, hr⟩ := ha.get hcl
  refine ⟨v, ?_, ?_⟩
  ·have e : us.toArray[off]? = some v := by simpa using hv
   simp only [part, Sem.run_bind, h.isAgg, Result.andThen_ok, hi, Bool.false_eq_true, if_false, e, Sem.run_pure]
  ·rw [List.getD_eq_getElem?_getD, hcl, Option.getD_some]
   exact Rep2.of1 hr
 ·simp only [hi, if_true] at hok ⊢
  refine ⟨.agg ((us.drop off).take i.size).toArray, ?_, _, rfl, (ha.drop off).take i.size⟩
  simp only [part, Sem.run_bind, h.isAgg, Result.andThen_ok, hi, if_true, h.sizeOf, Sem.run_pure]
  rw [List.extract_toArray, List.extract_eq_take_drop]
  congr 4
  omega
/-! ### Structs compared -/
def vEqFs (tb : Tab) (E : Nat → PV → PV → Option (Prop × Bool)) (xs ys : List PV) : List Field → Option (Prop × Bool)
 | [] => some (True, true)
 | f :: fs => match look f.type tb with
  | some j => if f.name = "_" then none else match E f.type (readAt j xs f.offset).2 (readAt j ys f.offset).2, vEqFs tb E xs ys fs with
   | some (c1, b1), some (c2, b2) => some (((readAt j xs f.offset).1 ∧ (readAt j ys f.offset).1 ∧ c1) ∧ c2, b1 && b2)
   | _, _ => none
  | none => none
def vEqIn (tb : Tab) : Nat → Nat → PV → PV → Option (Prop × Bool)
 | 0, _, _, _ => none
 | d + 1, t, x, y => match look t tb with
  | some i => match i.desc, x, y with
   | .int _, .d (.v (.int k a)), .d (.v (.int k' b)) => if k = k' then some (True, decide (a = b)) else none
   | .bool, .d (.v (.bool a)), .d (.v (.bool b)) => some (True, decide (a = b))
   | .struct fs, .agg xs, .agg ys => if i.eqs = true then vEqFs tb (vEqIn tb d) xs ys fs.toList else none
   | _, _, _ => none
  | none => none
theorem vEqFs_ok (hT : TabOk P tb) {E : Nat → PV → PV → Option (Prop × Bool)} {n : Nat} (hE : ∀ t x y c b, E t x y = some (c, b) → c → ∀ u v, Rep2 m w S u x → Rep2 m w S v y → (Op.equalIn n t u v).run P w = .ok b w) {xs ys : List PV} {us vs : List Value}
  (hu : All2 (Rep1 m w S) us xs) (hw : All2 (Rep1 m w S) vs ys) : ∀ {fs : List Field} {c : Prop} {b : Bool}, vEqFs tb E xs ys fs = some (c, b) → c → (Op.eqFields n us.toArray vs.toArray fs).run P w = .ok b w
 | [], c, b, h, _ => by cases h; rfl
 | f :: fs, c, b, h, hc => by
  unfold vEqFs at h
  split at h
  ·rename_i j hj
   split at h
   ·cases h
   ·rename_i hname
    split at h
    ·rename_i c1 b1 c2 b2 h1 h2
     cases h
     obtain ⟨⟨g1, g2, g3⟩, g4⟩ := hc
     obtain ⟨u, k1, k2⟩ := part_ok (hT.get hj) hu g1
     obtain ⟨v, k3, k4⟩ := part_ok (hT.get hj) hw g2
     have ih := vEqFs_ok hT hE hu hw h2 g4
     simp only [Op.eqFields, ne_eq, hname, not_false_eq_true, if_true, Sem.run_bind, k1, k3, Result.andThen_ok, hE _ _ _ _ _ h1 g3 u v k2 k4]
     cases b1
     ·rfl
     ·simpa using ih
    ·cases h
  ·cases h
theorem vEqIn_ok (hT : TabOk P tb) : ∀ (d : Nat) {n : Nat}, d ≤ n → ∀ t x y c b, vEqIn tb d t x y = some (c, b) → c → ∀ u v, Rep2 m w S u x → Rep2 m w S v y → (Op.equalIn n t u v).run P w = .ok b w
 | 0, _, _, _, _, _, _, _, h, _, _, _, _, _ => by cases h
 | d + 1, n, hn, t, x, y, c, b, h, hc, u, v, hu, hw => by
  obtain ⟨n, rfl⟩ : ∃ k, n = k + 1 := ⟨n - 1, by omega⟩
  unfold vEqIn at h
  split at h
  ·rename_i i hi
   have e := (hT.get hi).under
   split at h
   ·rename_i k0 ka a kb b' hd
    rw [hd] at e
    have hu : RepD w S u (.v (.int ka a)) := hu
    have hw : RepD w S v (.v (.int kb b')) := hw
    cases hu; cases hw
    split at h
    ·rename_i hk
     subst hk
     cases h
     rw [run_equalIn_int w n t _ _ _ _ e]
     congr 1
    ·cases h
   ·rename_i a b' hd
    rw [hd] at e
    have hu : RepD w S u (.v (.bool a)) := hu
    have hw : RepD w S v (.v (.bool b')) := hw
    cases hu; cases hw; cases h
    rw [run_equalIn_bool' w n t a b' e]
    congr 1
   ·rename_i fs xs ys hd
    rw [hd] at e
    obtain ⟨us, rfl, hu⟩ := hu
    obtain ⟨vs, rfl, hw⟩ := hw
    split at h
    ·rename_i hs
     have hf : P.fieldsOf t = fs := by simp [Program.fieldsOf, e]
     rw [run_equalIn_struct w n t _ _ (by rw [hf]; exact e) ((hT.get hi).2.2.2.1 hs).1, hf]
     exact vEqFs_ok hT (vEqIn_ok hT d (by omega)) hu hw h hc
    ·cases h
   ·cases h
  ·cases h
def vBin (tb : Tab) (op : BinOp) (t : Nat) (x y : PV) : Option (Prop × PV) :=
 match x, y with
 | .agg xs, .agg ys => match op, (look t tb).map TI.eqs, vEqIn tb 6 t (.agg xs) (.agg ys) with
  | .eql, some true, some (c, b) => some (c, .b b)
  | .neq, some true, some (c, b) => some (c, .b (!b))
  | _, _, _ => none
 | _, _ => vBin0 tb op t x y
theorem vBin_ok (hT : TabOk P tb) {op : BinOp} {t : Nat} {x y : PV} {c : Prop} {p : PV} (hv : vBin tb op t x y = some (c, p)) (hc : c) {u v : Value} (hu : Rep m w S u x) (hw : Rep m w S v y) (ox oy : Operand) :
  ∃ r, (do eqGuard op t ox oy u v; binOp op t u v : Sem Value).run P w = .ok r w ∧ Rep m w S r p := by
 unfold vBin at hv
 split at hv
 ·rename_i xs ys
  have hu : Rep2 m w S u (.agg xs) := hu
  have hw : Rep2 m w S v (.agg ys) := hw
  have key : ∀ {b : Bool}, (look t tb).map TI.eqs = some true → vEqIn tb 6 t (.agg xs) (.agg ys) = some (c, b) → (∃ us vs : List Value, u = .agg us.toArray ∧ v = .agg vs.toArray) ∧ P.eqGuardType P.depth t = false ∧ (Op.equalIn 10000 t u v).run P w = .ok b w := fun {b} h1 h2 => by
   obtain ⟨i, hi, hs⟩ := Option.map_eq_some_iff.1 h1
   obtain ⟨us, e1, _⟩ := hu
   obtain ⟨vs, e2, _⟩ := hw
   exact ⟨⟨us, vs, e1, e2⟩, ((hT.get hi).2.2.2.1 hs).2, vEqIn_ok hT 6 (by omega) t _ _ c b h2 hc u v hu hw⟩
  split at hv
  ·rename_i c' b h1 h2
   cases hv
   obtain ⟨⟨us, vs, rfl, rfl⟩, g1, g2⟩ := key h1 h2
   exact ⟨.bool b, by simp only [Sem.run_bind, run_eqGuard_agg w _ t ox oy _ _ g1, Result.andThen_ok, run_eql_struct, g2], .v _⟩
  ·rename_i c' b h1 h2
   cases hv
   obtain ⟨⟨us, vs, rfl, rfl⟩, g1, g2⟩ := key h1 h2
   exact ⟨.bool (!b), by simp only [Sem.run_bind, run_eqGuard_agg w _ t ox oy _ _ g1, Result.andThen_ok, run_neq_struct, g2], .v _⟩
  ·cases hv
 ·exact vBin0_ok hT hv hc hu hw ox oy
def nilEq (d : Option TypeDesc) (y : Operand) (p q : PV) : Option Bool :=
 match q with
 | .d (.v .nilIface) => match d, p, y with
  | some (.interface _), .ifc _ _, _ => some false
  | some (.interface _), .d (.v .nilIface), .const _ => some true
  | _, _, _ => none
 | .d (.v .nilFunc) => match d, p with
  | some (.func _ _ _), .clo _ _ => some false
  | some (.func _ _ _), .d (.v .nilFunc) => some true
  | _, _ => none
 | _ => none
def vBinY (tb : Tab) (op : BinOp) (t : Nat) (y : Operand) (p q : PV) : Option (Prop × PV) :=
 match op, nilEq ((look t tb).map TI.desc) y p q with
 | .eql, some b => some (True, .b b)
 | .neq, some b => some (True, .b (!b))
 | _, _ => vBin tb op t p q
theorem nilEq_ok (hT : TabOk P tb) {t : Nat} {p q : PV} {b : Bool} {u v : Value} (hu : Rep m w S u p) (hw : Rep m w S v q) (ox oy : Operand) (h : nilEq ((look t tb).map TI.desc) oy p q = some b) :
  (do eqGuard .eql t ox oy u v; binOp .eql t u v : Sem Value).run P w = .ok (.bool b) w ∧ (do eqGuard .neq t ox oy u v; binOp .neq t u v : Sem Value).run P w = .ok (.bool (!b)) w := by
 unfold nilEq at h
 split at h
 ·have hw : RepD w S v (.v .nilIface) := hw
  cases hw
  split at h
  ·rename_i t' k hd
   cases h
   obtain ⟨i, hi, hd⟩ := Option.map_eq_some_iff.1 hd
   have h1 := (hT.get hi).under
   rw [hd] at h1
   obtain ⟨b', c', _, rfl⟩ := hu
   have key : ∀ d : Nat, (Op.equalIn (d + 1) t (.iface t' (.pointer (some ⟨b', 0, none⟩))) .nilIface).run P w = .ok false w := fun d => by simp [Op.equalIn, run_underlying h1]
   have key := key 9999
   constructor <;> simp only [Sem.run_bind, eqGuard, binOp, Op.equal, Op.maxDepth, Sem.run_pure] <;> simp [key]
  ·rename_i c hd
   cases h
   obtain ⟨i, hi, hd⟩ := Option.map_eq_some_iff.1 hd
   have h1 := (hT.get hi).under
   rw [hd] at h1
   have hu : RepD w S u (.v .nilIface) := hu
   cases hu
   have key : ∀ d : Nat, (Op.equalIn (d + 1) t .nilIface .nilIface).run P w = .ok true w := fun d => by simp [Op.equalIn, run_underlying h1]
   have key := key 9999
   constructor <;> simp only [Sem.run_bind, eqGuard, binOp, Op.equal, Op.maxDepth, Sem.run_pure] <;> simp [key]
  ·cases h
 ·have hw : RepD w S v (.v .nilFunc) := hw
  cases hw
  split at h
  ·rename_i f cs hd
   cases h
   obtain ⟨i, hi, hd⟩ := Option.map_eq_some_iff.1 hd
   have h1 := (hT.get hi).under
   rw [hd] at h1
   obtain ⟨vs, rfl, _⟩ := hu
   have key : ∀ d : Nat, (Op.equalIn (d + 1) t (.func (.func f) #[] vs.toArray) .nilFunc).run P w = .ok false w := fun d => by simp [Op.equalIn, run_underlying h1]
   have key := key 9999
   constructor <;> simp only [Sem.run_bind, eqGuard, binOp, Op.equal, Op.maxDepth, Sem.run_pure] <;> simp [key]
  ·rename_i hd
   cases h
   obtain ⟨i, hi, hd⟩ := Option.map_eq_some_iff.1 hd
   have h1 := (hT.get hi).under
   rw [hd] at h1
   have hu : RepD w S u (.v .nilFunc) := hu
   cases hu
   have key : ∀ d : Nat, (Op.equalIn (d + 1) t .nilFunc .nilFunc).run P w = .ok true w := fun d => by simp [Op.equalIn, run_underlying h1]
   have key := key 9999
   constructor <;> simp only [Sem.run_bind, eqGuard, binOp, Op.equal, Op.maxDepth, Sem.run_pure] <;> simp [key]
  ·cases h
 ·cases h
theorem vBinY_ok (hT : TabOk P tb) {op : BinOp} {t : Nat} {x y : PV} {c : Prop} {p : PV} {ox oy : Operand} (hv : vBinY tb op t oy x y = some (c, p)) (hc : c) {u v : Value} (hu : Rep m w S u x) (hw : Rep m w S v y) :
  ∃ r, (do eqGuard op t ox oy u v; binOp op t u v : Sem Value).run P w = .ok r w ∧ Rep m w S r p := by
 unfold vBinY at hv
 split at hv
 ·rename_i b hn
  cases hv
  exact ⟨_, (nilEq_ok hT hu hw ox oy hn).1, .v _⟩
 ·rename_i b hn
  cases hv
  exact ⟨_, (nilEq_ok hT hu hw ox oy hn).2, .v _⟩
 ·exact vBin_ok hT hv hc hu hw ox oy
theorem vField_ok (hT : TabOk P tb) {t f : Nat} {x : PV} {c : Prop} {p : PV} (hv : vField tb t f x = some (c, p)) (hc : c) {u : Value} (hu : Rep m w S u x) : ∃ r, (Instr.field t u f).run P w = .ok r w ∧ Rep m w S r p := by
 unfold vField at hv
 split at hv
 ·rename_i fs cs hs
  obtain ⟨i, hi, hd⟩ := Option.map_eq_some_iff.1 hs
  have e1 := (hT.get hi).under
  rw [hd] at e1
  split at hv
  ·rename_i fd hf
   split at hv
   ·rename_i i2 h2
    have hv := Option.some.inj hv
    have hc' : (readAt i2 cs fd.offset).1 := by rw [hv]; exact hc
    obtain ⟨us, rfl, ha⟩ := hu
    obtain ⟨v, h3, h4⟩ := part_ok (hT.get h2) ha hc'
    rw [hv] at h4
    exact ⟨v, by simp [Instr.field, run_underlying e1, hf, asAgg, h3], Rep.of2 h4⟩
   ·cases hv
  ·cases hv
 ·cases hv

def vExtract (x : PV) (i : Nat) : Option (Prop × PV) :=
 match x with
 | .tup cs => match cs[i]? with
  | some p => some (True, p)
  | none => none
 | _ => none
theorem vExtract_ok {i : Nat} {x : PV} {c : Prop} {p : PV} (hv : vExtract x i = some (c, p)) {u : Value} (hu : Rep m w S u x) : ∃ r, (Instr.extract u i).run P w = .ok r w ∧ Rep m w S r p := by
 unfold vExtract at hv
 split at hv
 ·rename_i cs
  split at hv
  ·rename_i q hq
   cases hv
   obtain ⟨us, rfl, ha⟩ := hu
   obtain ⟨v, h1, h2⟩ := ha.get hq
   exact ⟨v, by simp [Instr.extract, h1], Rep.of2 h2⟩
  ·cases hv
 ·cases hv
end
end Go.Proofs.YtplooifpgmlofaaGreat
