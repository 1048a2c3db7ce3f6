/- Operations whose order is open: each has its effect wherever it comes up, if the others that may come up beside it do not touch what it touches. No condition. -/
import Derived.Test.YtplooifpgmlofaaGreatV15
namespace Go.Proofs.YtplooifpgmlofaaGreat
open Go.RowKit

structure Eff where
  cond : Prop
  val : PV
  set : Mem
  kill : Option Nat
  reads : List Nat
instance : Inhabited Eff := ⟨⟨False, .any, [], none, []⟩⟩
def eraseS? : Option Nat → Slots → Slots
  | none, l => l
  | some k, l => eraseS k l
def eraseC (k : Nat) (p : PV) : PV := if k ∈ p.keys1 then .any else p
def eraseN (k : Nat) : MObj → MObj
  | .box t cells => .box t (cells.map (eraseC k))
  | .nest t sz xs pr cs foc => .nest t sz xs pr cs (focMap (eraseC k) foc)
  | o => o
def eraseNs (k : Nat) : Mem → Mem
  | [] => []
  | (i, o) :: r => (i, eraseN k o) :: eraseNs k r
def eraseN? : Option Nat → Mem → Mem
  | none, l => l
  | some k, l => eraseNs k l
def killO : Option Nat → MObj → MObj
  | none, o => o
  | some k, o => eraseN k o
theorem look_eraseNs {k i : Nat} : ∀ {l : Mem}, look i (eraseNs k l) = (look i l).map (eraseN k)
  | [] => rfl
  | (j, o) :: r => by
    unfold eraseNs look
    split
    · rfl
    · exact look_eraseNs
theorem look_eraseN? {K : Option Nat} {i : Nat} {l : Mem} : look i (eraseN? K l) = (look i l).map (killO K) := by
  cases K with
  | none => cases h : look i l <;> simp [eraseN?, killO, h]
  | some k => exact look_eraseNs
theorem eraseC_keep {k : Nat} {p : PV} (h : k ∉ p.keys1) : eraseC k p = p := if_neg h
theorem map_keepC {k : Nat} {l : List PV} (h : k ∉ l.flatMap PV.keys1) : l.map (eraseC k) = l := by
  have : ∀ x ∈ l, eraseC k x = id x := fun x hx => eraseC_keep fun hk => h (List.mem_flatMap.2 ⟨x, hx, hk⟩)
  rw [List.map_congr_left this, List.map_id]
theorem eraseN_keep {k : Nat} {o : MObj} (h : k ∉ o.keys) : eraseN k o = o := by
  cases o with
  | box t cells => exact congrArg (MObj.box t) (map_keepC h)
  | nest t sz xs pr cs foc =>
    cases foc with
    | none => rfl
    | some e => exact congrArg (fun ps => MObj.nest t sz xs pr cs (some (e.1, ps))) (map_keepC h)
  | _ => rfl
theorem eraseC_comm {k l : Nat} {p : PV} : eraseC k (eraseC l p) = eraseC l (eraseC k p) := by
  have ha : ∀ j, eraseC j .any = .any := fun j => by unfold eraseC; split <;> rfl
  by_cases h1 : k ∈ p.keys1 <;> by_cases h2 : l ∈ p.keys1
  · have e1 : eraseC k p = .any := if_pos h1
    have e2 : eraseC l p = .any := if_pos h2
    rw [e1, e2, ha, ha]
  · have e1 : eraseC k p = .any := if_pos h1
    have e2 : eraseC l p = p := if_neg h2
    rw [e2, e1, ha]
  · have e1 : eraseC k p = p := if_neg h1
    have e2 : eraseC l p = .any := if_pos h2
    rw [e1, e2, ha]
  · have e1 : eraseC k p = p := if_neg h1
    have e2 : eraseC l p = p := if_neg h2
    rw [e2, e1, e2]
theorem eraseN_comm {k l : Nat} {o : MObj} : eraseN k (eraseN l o) = eraseN l (eraseN k o) := by
  have hc : ∀ ps : List PV, (ps.map (eraseC l)).map (eraseC k) = (ps.map (eraseC k)).map (eraseC l) := fun ps => by
    rw [List.map_map, List.map_map]
    exact List.map_congr_left fun x _ => eraseC_comm
  cases o with
  | box t cells => exact congrArg (MObj.box t) (hc cells)
  | nest t sz xs pr cs foc =>
    cases foc with
    | none => rfl
    | some e => exact congrArg (fun ps => MObj.nest t sz xs pr cs (some (e.1, ps))) (hc e.2)
  | _ => rfl
theorem killO_comm {K L : Option Nat} {o : MObj} : killO K (killO L o) = killO L (killO K o) := by
  cases K with
  | none => cases L <;> rfl
  | some k => cases L with
    | none => rfl
    | some l => exact eraseN_comm
theorem killO_keep {K : Option Nat} {o : MObj} (h : ∀ k ∈ K.toList, k ∉ o.keys) : killO K o = o := by
  cases K with
  | none => rfl
  | some k => exact eraseN_keep (h k (by simp))
def app (σ : Sta) (d : Option Nat) (e : Eff) : Sta :=
  ⟨σ.n, (match d with | some d => [(d, e.val)] | none => []) ++ eraseS? e.kill σ.slots, e.set ++ eraseN? e.kill σ.mem⟩

def wide (mem : Mem) (ks : List Nat) : List Nat := ks ++ ks.flatMap (objKeys mem)
def opKeys (σ : Sta) (xs : List Operand) : List Nat := xs.flatMap fun x => match σ.ev x with
  | some p => wide σ.mem p.keys
  | none => []
def PV.calm : PV → Bool
  | .tup _ => false
  | _ => true

def namesOnly : Op → Bool
  | .move _ | .assign _ | .fieldAddr .. | .indexAddr .. | .nilCheck _ => true
  | _ => false
def nameKeys (σ : Sta) (xs : List Operand) : List Nat := xs.flatMap fun x => match σ.ev x with
  | some p => p.keys
  | none => []
def loadsOnly : Op → Bool
  | .load .. => true
  | _ => false
def opReads (σ : Sta) (op : Op) (p : PV) : List Nat := if (namesOnly op && (nameKeys σ op.operands.toList).all fun k => p.keys.contains k) = true then [] else if loadsOnly op = true then nameKeys σ op.operands.toList else opKeys σ op.operands.toList
def markSet (mem : Mem) : Option Nat → Mem
  | none => []
  | some k => if k < 1000000 then [] else if (look (k + 3000000) mem).isSome = true then [] else [(k + 3000000, .row 0 1 [] false)]
def markKeys : Option Nat → List Nat
  | none => []
  | some k => if k < 1000000 then [] else [k + 3000000]
theorem markSet_eq {mem mem' : Mem} {K : Option Nat} (h : ∀ k ∈ markKeys K, look k mem' = look k mem) : markSet mem' K = markSet mem K := by
  cases K with
  | none => rfl
  | some k =>
    show (if k < 1000000 then [] else if (look (k + 3000000) mem').isSome = true then [] else [(k + 3000000, MObj.row 0 1 [] false)]) = (if k < 1000000 then [] else if (look (k + 3000000) mem).isSome = true then [] else [(k + 3000000, MObj.row 0 1 [] false)])
    by_cases hk0 : k < 1000000
    · rw [if_pos hk0, if_pos hk0]
    · rw [if_neg hk0, if_neg hk0, h (k + 3000000) (by show _ ∈ (if k < 1000000 then [] else [k + 3000000]); rw [if_neg hk0]; simp)]
theorem markSet_keys {mem : Mem} {K : Option Nat} {j : Nat} (h : j ∈ (markSet mem K).map (·.1)) : j ∈ markKeys K ∧ look j mem = none := by
  cases K with
  | none => cases h
  | some k =>
    have h : j ∈ (if k < 1000000 then [] else if (look (k + 3000000) mem).isSome = true then [] else [(k + 3000000, MObj.row 0 1 [] false)]).map (fun x : Nat × MObj => x.1) := h
    show j ∈ (if k < 1000000 then [] else [k + 3000000]) ∧ _
    split at h
    · cases h
    · rename_i h0
      split at h
      · cases h
      · rename_i h1
        rw [if_neg h0]
        simp at h
        subst h
        refine ⟨by simp, ?_⟩
        cases hl : look (k + 3000000) mem with
        | none => rfl
        | some o => rw [hl] at h1; exact absurd rfl h1
theorem markM_eq {mem : Mem} {k : Nat} : markM k mem = markSet mem (some k) ++ mem := by
  show (if k < 1000000 then mem else if (look (k + 3000000) mem).isSome = true then mem else (k + 3000000, .row 0 1 [] false) :: mem) = (if k < 1000000 then [] else if (look (k + 3000000) mem).isSome = true then [] else [(k + 3000000, MObj.row 0 1 [] false)]) ++ mem
  split
  · rfl
  · split <;> rfl
def opEff0 (tb : Tab) (o : Oper) (σ : Sta) : Option Eff :=
  match o.op with
  | .alloc e => match o.dst, look e tb with
    | some d, some ti => if (look d σ.mem).isNone then some ⟨True, .ptr d 0, [(d, .box e (ti.zero.map fun v => .d (.v v)))], none, [d]⟩ else none
    | _, _ => none
  | .box e x => match o.dst, σ.ev x with
    | some d, some p => if (look d σ.mem).isNone && p.plain then some ⟨True, .ptr d 0, [(d, .box e p.cells)], none, d :: wide σ.mem p.keys⟩ else none
    | _, _ => none
  | .buildSlice t len parts => match o.dst, vBuildSlice tb σ t len parts.toList with
    | some d, some (e, sz, xs) => if (look d σ.mem).isNone then (if parts.size = 0 ∨ (keepsOf tb).contains (1000000 + t) = true then some ⟨True, .rw d len, [(d, .row e sz xs false)], none, d :: opKeys σ (parts.toList.map (·.2))⟩
        else some ⟨len = xs.length, .d (.sl sz xs), [(d, .row e sz xs true)], none, d :: opKeys σ (parts.toList.map (·.2))⟩) else none
    | _, _ => none
  | .store t x v => match σ.ev x, σ.ev v with
    | some p, some q => match vStoreR tb σ t p q with
      | some (c, (k, ob) :: _) => some ⟨c, .any, [(k, ob)], none, (wide σ.mem p.keys ++ wide σ.mem q.keys)⟩
      | _ => none
    | _, _ => none
  | .mapUpdate t x k v => match σ.ev x, σ.ev k, σ.ev v with
    | some p, some q, some r => match vUpdate tb σ t p q r with
      | some ((j, ob) :: _) => some ⟨True, .any, [(j, ob)], none, wide σ.mem p.keys ++ (wide σ.mem q.keys ++ wide σ.mem r.keys)⟩
      | _ => none
    | _, _, _ => none
  | .call c => match c.callee with
    | .builtin .append => match c.args.toList, c.argTypes.toList with
      | [s, x], [t, t'] => match σ.ev s, σ.ev x with
        | some (.rw k n), some p => match look k σ.mem with
          | some (.row e sz xs l) => match look t tb, look e tb, srcOf sz σ.mem p with
            | some ti, some ei, some (c, ys) => if n = xs.length then some ⟨t' = t ∧ ti.desc = .slice e ∧ ei.size = sz ∧ ei.zero.length = sz ∧ ei.bytes ≤ 4096 ∧ (k < 1000000 ∨ (k < 2000000 ∧ l = false)) ∧ n = xs.length ∧ c ∧ xs.length + ys.length < 4294967296,
                .rw k (xs ++ ys).length, (k, .row e sz (xs ++ ys) l) :: markSet σ.mem (some k), some k, wide σ.mem [k] ++ (wide σ.mem p.keys ++ markKeys (some k))⟩
              else some ⟨t' = t ∧ ti.desc = .slice e ∧ ei.size = sz ∧ ei.zero.length = sz ∧ ei.bytes ≤ 4096 ∧ c ∧ l = false ∧ n + ys.length ≤ xs.length,
                .rw k (n + ys.length), [(k, .row e sz (xs.take n ++ ys ++ xs.drop (n + ys.length)) false)], none, wide σ.mem [k] ++ wide σ.mem p.keys⟩
            | _, _, _ => none
          | _ => none
        | some (.rs k sz2 off n fl), some p => match look k σ.mem with
          | some (.row e sz xs false) => match look t tb, look e tb, srcOf sz σ.mem p with
            | some ti, some ei, some (c, ys) => if fl = 1 then some ⟨t' = t ∧ (ti.desc = .slice e ∧ ei.size = sz ∧ ei.zero.length = sz ∧ ei.bytes ≤ 4096 ∧ c ∧ sz2 = sz ∧ off + n = xs.length ∧ ys.length = 1 ∧ n + ys.length < 4294967296 ∧ k < 1000000),
                .rs k sz 0 (n + ys.length) 0, [(k, .row e sz (xs.drop off ++ ys) false)], some k, wide σ.mem [k] ++ wide σ.mem p.keys⟩
              else some ⟨t' = t ∧ (ti.desc = .slice e ∧ ei.size = sz ∧ ei.zero.length = sz ∧ ei.bytes ≤ 4096 ∧ c ∧ sz2 = sz ∧ off + n = xs.length ∧ ys.length = 1 ∧ n + ys.length < 4294967296 ∧ k < 1000000) ∧ fl = 2,
                .rs k sz off (n + ys.length) 0, [(k, .row e sz (xs ++ ys) false)], none, wide σ.mem [k] ++ wide σ.mem p.keys⟩
            | _, _, _ => none
          | _ => none
        | some (.fd sz xs), some p => match (look t tb).map TI.desc, srcOf sz σ.mem p with
          | some (TypeDesc.slice e), some (c, ys) => match look e tb with
            | some ei => some ⟨t' = t ∧ (ei.size = sz ∧ ei.zero.length = sz ∧ ei.bytes ≤ 4096 ∧ 0 < sz ∧ c ∧ 0 < ys.length ∧ xs.length + ys.length < 4294967296), .d (.sl sz (xs ++ ys)), [], none, wide σ.mem p.keys⟩
            | none => none
          | _, _ => none
        | _, _ => none
      | _, _ => none
    | .builtin _ => match valOp tb σ (.call c) with
      | some (cd, p) => some ⟨cd, p, [], none, opKeys σ c.args.toList⟩
      | none => none
    | _ => none
  | .makeSlice t l c => match o.dst, σ.ev l, σ.ev c with
    | some d, some p, some q => match vMake tb t p q with
      | some (cd, ob, n) => if (look d σ.mem).isNone then some ⟨cd, .rw d n, [(d, ob)], none, d :: opKeys σ [l, c]⟩ else none
      | none => none
    | _, _, _ => none
  | op => match valOp tb σ op with
    | some (cd, p) => some ⟨cd, p, [], none, opReads σ op p⟩
    | none => none

def leakAt (tb : Tab) (o : Oper) : Bool := match o.op with
  | .call ⟨.builtin .append, _, ats⟩ => match o.dst, ats.toList with
    | some d, t :: _ => (keepsOf tb).contains (2000000 + 1000 * d + t)
    | _, _ => false
  | _ => false
def leakE (e : Eff) : Option Eff := match e.val, e.set, e.kill with
  | .rw k n, (j, .row t sz xs _) :: r, some q => if k = j ∧ q = k ∧ k < 1000000 ∧ e.reads.contains k = true then some ⟨e.cond ∧ n = xs.length, .d (.sl sz xs), (j, .row t sz xs true) :: r, some q, e.reads⟩ else none
  | _, _, _ => none
def opEff (tb : Tab) (o : Oper) (σ : Sta) : Option Eff := if leakAt tb o = true then (opEff0 tb o σ).bind leakE else opEff0 tb o σ
theorem leakE_spec {e0 e : Eff} (h : leakE e0 = some e) : ∃ k n t sz xs l r, e0.val = .rw k n ∧ e0.set = (k, .row t sz xs l) :: r ∧ e0.kill = some k ∧ k < 1000000 ∧ k ∈ e0.reads ∧ e = ⟨e0.cond ∧ n = xs.length, .d (.sl sz xs), (k, .row t sz xs true) :: r, some k, e0.reads⟩ := by
  unfold leakE at h
  split at h
  · rename_i k n j t sz xs l r q h1 h2 h3
    split at h
    · rename_i hc
      obtain ⟨rfl, rfl, hc3, hc4⟩ := hc
      cases h
      exact ⟨_, _, _, _, _, _, _, h1, h2, h3, hc3, by simpa using hc4, rfl⟩
    · cases h
  · cases h
theorem leakAt_dst {tb : Tab} {o : Oper} (h : leakAt tb o = true) : ∃ d, o.dst = some d := by
  unfold leakAt at h
  split at h
  · split at h
    · rename_i d t r h1 h2; exact ⟨d, h1⟩
    · cases h
  · cases h

def newKeys (d : Nat) : Nat → List MObj → List Nat
  | _, [] => []
  | j, _ :: os => (d + 10000 * j) :: newKeys d (j + 1) os
theorem newKeys_map {g : Nat → Nat} {d : Nat} : ∀ {j : Nat} {os : List MObj}, (newMem g d j os).map (·.1) = newKeys d j os
  | _, [] => rfl
  | j, _ :: os => by show (d + 10000 * j) :: _ = _; rw [newKeys_map]; rfl
theorem newKeys_mem {d : Nat} : ∀ {j i : Nat} {os : List MObj}, i < os.length → d + 10000 * (j + i) ∈ newKeys d j os
  | _, _, [], h => by simp at h
  | j, 0, _ :: os, _ => by simp [newKeys]
  | j, i + 1, _ :: os, h => by
    have := newKeys_mem (d := d) (j := j + 1) (i := i) (os := os) (by simpa using h)
    rw [show j + 1 + i = j + (i + 1) by omega] at this
    exact List.mem_cons_of_mem _ this
theorem backMem_keys {g : Nat → Nat} : ∀ {ks : List Nat} {os : List MObj} {k : Nat}, k ∈ (backMem g ks os).map (·.1) → k ∈ ks
  | [], [], _, h => by simp [backMem] at h
  | [], _ :: _, _, h => by simp [backMem] at h
  | _ :: _, [], _, h => by simp [backMem] at h
  | k :: ks, o :: os, j, h => by
    rcases List.mem_cons.1 (show j ∈ k :: (backMem g ks os).map (·.1) from h) with rfl | h
    · simp
    · exact List.mem_cons_of_mem _ (backMem_keys h)
def CallEff (P : Program) (tb : Tab) (o : Oper) (σ : Sta) (e : Eff) : Prop :=
  ∃ cl g as q, o.op = .call cl ∧ σ.tgt tb cl = some (g, as) ∧ as.all PV.calm = true ∧ reachOk σ.mem as (reach σ.mem as) = true ∧
    Meets P g (as.map (PV.ren (toE (reach σ.mem as)))) ((reach σ.mem as).map fun k => ((look k σ.mem).getD default).ren (toE (reach σ.mem as)))
      (fun r => r = ⟨q, (reach σ.mem as).map fun k => ((look k σ.mem).getD default).ren (toE (reach σ.mem as)), []⟩) ∧
    e = ⟨True, q.ren (ofE (reach σ.mem as) 0), [], none, wide σ.mem (reach σ.mem as) ++ (wide σ.mem (as.flatMap PV.keys))⟩
def callE (σ : Sta) (d : Nat) (ks wd : List Nat) (r : Res) : Eff :=
  ⟨True, r.val.ren (ofE ks d), backMem (ofE ks d) ks r.ext ++ (newMem (ofE ks d) d 0 r.new ++ markSet σ.mem (grownKs ks r.ext).head?), (grownKs ks r.ext).head?, wd ++ (newKeys d 0 r.new ++ markKeys (grownKs ks r.ext).head?)⟩
def CallN0 (P : Program) (tb : Tab) (o : Oper) (σ : Sta) (e : Eff) : Prop :=
  ∃ cl g as r, o.op = .call cl ∧ σ.tgt tb cl = some (g, as) ∧ as.all PV.calm = true ∧ reachOk σ.mem as (reach σ.mem as) = true ∧
    Meets P g (as.map (PV.ren (toE (reach σ.mem as)))) ((reach σ.mem as).map fun k => ((look k σ.mem).getD default).ren (toE (reach σ.mem as))) (fun r' => r' = r) ∧
    ((∀ k ∈ newKeys (o.dst.getD 0) 0 r.new, look k σ.mem = none) ∧ (grownKs (reach σ.mem as) r.ext).length ≤ 1 ∧ r.new.length ≤ 90) ∧
    e = callE σ (o.dst.getD 0) (reach σ.mem as) (wide σ.mem (reach σ.mem as) ++ (wide σ.mem (as.flatMap PV.keys))) r
def coC (k : Nat) (ps : List PV) : List Nat := (ps.filter fun p => p.keys1.contains k).flatMap PV.keys1
def coKeys (k : Nat) : MObj → List Nat
  | .box _ cells => coC k cells
  | .nest _ _ _ _ _ foc => match foc with
    | some e => coC k e.2
    | none => []
  | _ => []
def more (l : List Nat) (e : Eff) : Eff := match e.kill with
  | some k => ⟨e.cond, e.val, e.set, some k, e.reads ++ l⟩
  | none => e
def hitOk (mem : Mem) (e : Eff) : Prop := ∀ k, e.kill = some k → ∀ j ob, look j mem = some ob → k ∈ ob.keys → j ∈ e.set.map (·.1) ∨ (j + 5000000 ∈ e.reads ∧ ∀ x ∈ coKeys k ob, x ∈ e.reads)
def OwnEff (tb : Tab) (o : Oper) (σ : Sta) (e : Eff) : Prop := ∃ l e0, opEff tb o σ = some e0 ∧ e = more l e0
def CallEffN (P : Program) (tb : Tab) (o : Oper) (σ : Sta) (e : Eff) : Prop := ∃ l e0, CallN0 P tb o σ e0 ∧ e = more l e0
theorem OwnEff.of {tb : Tab} {o : Oper} {σ : Sta} {e : Eff} (h : opEff tb o σ = some e) : OwnEff tb o σ e := ⟨[], e, h, by
  obtain ⟨c, v, s, k, r⟩ := e
  cases k with
  | none => rfl
  | some k => show _ = (⟨c, v, s, some k, r ++ []⟩ : Eff); rw [List.append_nil]⟩
theorem more_val {l : List Nat} {e : Eff} : (more l e).val = e.val ∧ (more l e).set = e.set ∧ (more l e).kill = e.kill ∧ (more l e).cond = e.cond ∧ ∀ k ∈ e.reads, k ∈ (more l e).reads := by
  unfold more
  split
  · rename_i h
    exact ⟨rfl, rfl, h.symm, rfl, fun k hk => List.mem_append_left _ hk⟩
  · exact ⟨rfl, rfl, rfl, rfl, fun k hk => hk⟩

def wantedS (ops : Array Oper) (σ : Sta) (o : Oper) : Option Bool :=
  match o.guard with
  | none => some true
  | some (j, want) => match (ops[j]?).bind (·.dst) with
    | some d => match look d σ.slots with
      | some (.d (.v (.bool b))) => some (b == want)
      | some (.d (.v (.tuple _))) => some false
      | _ => none
    | none => none
def idleEff : Eff := ⟨True, idleV, [], none, []⟩
def opsKnown (σ : Sta) (xs : List Operand) : Bool := xs.all fun x => match σ.ev x with
  | some .any => false
  | some _ => true
  | none => false
def EffAt (P : Program) (tb : Tab) (ops : Array Oper) (o : Oper) (σ : Sta) (e : Eff) : Prop :=
  σ.has o.dst = true ∧ ((wantedS ops σ o = some true ∧ opsKnown σ o.op.operands.toList = true ∧ hitOk σ.mem e ∧ (OwnEff tb o σ e ∨ CallEff P tb o σ e ∨ CallEffN P tb o σ e)) ∨ (wantedS ops σ o = some false ∧ e = idleEff))

structure Equ (σ σ' : Sta) : Prop where
  n : σ'.n = σ.n
  slots : ∀ i, look i σ'.slots = look i σ.slots
  mem : ∀ k, look k σ'.mem = look k σ.mem
theorem Sim.equ {B : Base} {m : Map} {S : Cells} {σ σ' : Sta} {a : Act} {w : World} (h : Sim B m S σ a w) (e : Equ σ σ') : Sim B m S σ' a w :=
  { dom := fun k l hk => by rw [e.mem]; exact h.dom k l hk, objs := fun k o ho => h.objs k o (by rw [← e.mem]; exact ho), subs := (by intro k i c b; rw [e.mem]; exact h.subs k i c b), subx := h.subx, parts := h.parts, young := h.young, grow := h.grow, sold := h.sold, snew := h.snew, sin := h.sin, scell := h.scell, ext := fun k l h1 h2 h3 => (by rw [e.mem]; exact h.ext k l h1 h2 h3), marks := h.marks,
    defers := h.defers, size := h.size.trans (by rw [e.n]), frozen := by rw [e.n]; exact h.frozen, slots := fun i p hp => h.slots i p (by rw [← e.slots]; exact hp) }

/-! ### An operation looks at its operands and at what they name -/
section
variable {P : Program} {tb : Tab} {σ σ' : Sta}

theorem objKeys_eq {k : Nat} (h : look k σ'.mem = look k σ.mem) : objKeys σ'.mem k = objKeys σ.mem k := by unfold objKeys; rw [h]
theorem mem_wide {mem : Mem} {ks : List Nat} {k : Nat} (h : k ∈ ks) : k ∈ wide mem ks := List.mem_append_left _ h
theorem wide_eq {ks : List Nat} (h : ∀ k ∈ ks, look k σ'.mem = look k σ.mem) : wide σ'.mem ks = wide σ.mem ks := by
  unfold wide
  congr 1
  induction ks with
  | nil => rfl
  | cons k ks ih => rw [List.flatMap_cons, List.flatMap_cons, objKeys_eq (h k (by simp)), ih fun j hj => h j (by simp [hj])]
theorem opKeys_sub {xs : List Operand} {x : Operand} (hx : x ∈ xs) {p : PV} (hp : σ.ev x = some p) {k : Nat} (hk : k ∈ p.keys) : k ∈ opKeys σ xs := by
  unfold opKeys
  rw [List.mem_flatMap]
  exact ⟨x, hx, by rw [hp]; exact mem_wide hk⟩
theorem opKeys_eq {xs : List Operand} (hev : ∀ x ∈ xs, σ'.ev x = σ.ev x) (hk : ∀ k ∈ opKeys σ xs, look k σ'.mem = look k σ.mem) : opKeys σ' xs = opKeys σ xs := by
  have hk' := hk
  unfold opKeys at hk' ⊢
  induction xs with
  | nil => rfl
  | cons x xs ih =>
    rw [List.flatMap_cons, List.flatMap_cons, hev x (by simp), ih (fun y hy => hev y (by simp [hy])) (fun k h => hk k (by unfold opKeys at h ⊢; rw [List.flatMap_cons]; exact List.mem_append_right _ h)) (fun k h => hk' k (by rw [List.flatMap_cons]; exact List.mem_append_right _ h))]
    congr 1
    cases hx : σ.ev x with
    | none => rfl
    | some p =>
      exact wide_eq fun k hkk => hk' k (by rw [List.flatMap_cons, hx]; exact List.mem_append_left _ (mem_wide hkk))
theorem evs_local : ∀ {xs : List Operand}, (∀ x ∈ xs, σ'.ev x = σ.ev x) → evs σ' xs = evs σ xs
  | [], _ => rfl
  | x :: xs, h => by unfold evs; rw [h x (by simp), evs_local fun y hy => h y (by simp [hy])]
theorem evInts_local : ∀ {xs : List Operand}, (∀ x ∈ xs, σ'.ev x = σ.ev x) → evInts σ' xs = evInts σ xs
  | [], _ => rfl
  | x :: xs, h => by unfold evInts; rw [h x (by simp), evInts_local fun y hy => h y (by simp [hy])]
theorem evParts_local : ∀ {xs : List (Nat × Operand)}, (∀ x ∈ xs.map (·.2), σ'.ev x = σ.ev x) → evParts σ' xs = evParts σ xs
  | [], _ => rfl
  | (i, x) :: xs, h => by unfold evParts; rw [h x (by simp), evParts_local fun y hy => h y (by simp at hy ⊢; exact .inr hy)]
theorem vBound_local {o : Option Operand} (h : ∀ x ∈ o.toList, σ'.ev x = σ.ev x) : vBound σ' o = vBound σ o := by
  cases o with
  | none => rfl
  | some x => simp only [vBound, h x (by simp)]
theorem vCells_local {p : PV} (h : ∀ k ∈ p.keys, look k σ'.mem = look k σ.mem) : vCells σ' p = vCells σ p := by
  cases p with
  | ptr k off =>
    have hk := h k (by simp [PV.keys, PV.keys2, PV.keys1, PV.keys0])
    simp only [vCells, hk]
  | rp k sz i off =>
    have hk := h k (by simp [PV.keys, PV.keys2, PV.keys1, PV.keys0])
    simp only [vCells, hk]
  | _ => rfl
theorem vLoad_local {t : Nat} {p : PV} (h : ∀ k ∈ p.keys, look k σ'.mem = look k σ.mem) : vLoad tb σ' t p = vLoad tb σ t p := by
  unfold vLoad
  rw [vCells_local h]
theorem vIndexAddr_local {t : Nat} {p q : PV} (h : ∀ k ∈ p.keys, look k σ'.mem = look k σ.mem) : vIndexAddr tb σ' t p q = vIndexAddr tb σ t p q := by
  cases p with
  | d x => cases x <;> rfl
  | _ => rfl
theorem vIndexAddr_free {t : Nat} {p q : PV} : vIndexAddr tb σ' t p q = vIndexAddr tb σ t p q := by
  cases p with
  | d x => cases x <;> rfl
  | _ => rfl
theorem valOp_names {op : Op} (hn : namesOnly op = true) (hev : ∀ x ∈ op.operands.toList, σ'.ev x = σ.ev x) : valOp tb σ' op = valOp tb σ op := by
  cases op with
  | move x => simp only [valOp, hev x (by simp [Op.operands])]
  | assign x => simp only [valOp, hev x (by simp [Op.operands])]
  | fieldAddr s x f => simp only [valOp, hev x (by simp [Op.operands])]
  | nilCheck x => simp only [valOp, hev x (by simp [Op.operands])]
  | indexAddr t x i =>
    simp only [valOp, hev x (by simp [Op.operands]), hev i (by simp [Op.operands])]
    cases σ.ev x with
    | none => rfl
    | some p => cases σ.ev i with
      | none => rfl
      | some q => exact vIndexAddr_free
  | _ => cases hn
theorem nameKeys_eq {xs : List Operand} (hev : ∀ x ∈ xs, σ'.ev x = σ.ev x) : nameKeys σ' xs = nameKeys σ xs := by
  unfold nameKeys
  induction xs with
  | nil => rfl
  | cons x xs ih => rw [List.flatMap_cons, List.flatMap_cons, hev x (by simp), ih fun y hy => hev y (by simp [hy])]
theorem nameKeys_sub {xs : List Operand} {x : Operand} (hx : x ∈ xs) {p : PV} (hp : σ.ev x = some p) {k : Nat} (hk : k ∈ p.keys) : k ∈ nameKeys σ xs := by
  unfold nameKeys
  rw [List.mem_flatMap]
  exact ⟨x, hx, by rw [hp]; exact hk⟩

theorem valOp_local {op : Op} (hev : ∀ x ∈ op.operands.toList, σ'.ev x = σ.ev x) (hk : ∀ k ∈ opKeys σ op.operands.toList, look k σ'.mem = look k σ.mem) : valOp tb σ' op = valOp tb σ op := by
  have key : ∀ {x : Operand} {p : PV}, x ∈ op.operands.toList → σ.ev x = some p → ∀ k ∈ p.keys, look k σ'.mem = look k σ.mem := fun hx hp k hkk => hk k (opKeys_sub hx hp hkk)
  cases op with
  | move x => simp only [valOp, hev x (by simp [Op.operands])]
  | assign x => simp only [valOp, hev x (by simp [Op.operands])]
  | pick c x y => simp only [valOp, hev c (by simp [Op.operands]), hev x (by simp [Op.operands]), hev y (by simp [Op.operands])]
  | binOp b t x y t' => simp only [valOp, hev x (by simp [Op.operands]), hev y (by simp [Op.operands])]
  | unOp b t x => simp only [valOp, hev x (by simp [Op.operands])]
  | convert s d x => simp only [valOp, hev x (by simp [Op.operands])]
  | load t x =>
    simp only [valOp, hev x (by simp [Op.operands])]
    cases hx : σ.ev x with
    | none => rfl
    | some p => exact vLoad_local (key (x := x) (by simp [Op.operands]) hx)
  | fieldAddr s x f => simp only [valOp, hev x (by simp [Op.operands])]
  | field s x f => simp only [valOp, hev x (by simp [Op.operands])]
  | extract x f => simp only [valOp, hev x (by simp [Op.operands])]
  | indexAddr t x i =>
    simp only [valOp, hev x (by simp [Op.operands]), hev i (by simp [Op.operands])]
    cases hx : σ.ev x with
    | none => rfl
    | some p => cases σ.ev i with
      | none => rfl
      | some q => exact vIndexAddr_local (key (x := x) (by simp [Op.operands]) hx)
  | lookup t x k ok =>
    cases ok with
    | true => rfl
    | false =>
      simp only [valOp, hev x (by simp [Op.operands]), hev k (by simp [Op.operands])]
      cases hx : σ.ev x with
      | none => rfl
      | some p => cases σ.ev k with
        | none => rfl
        | some q =>
          cases p with
          | mp j =>
            have := key (x := x) (by simp [Op.operands]) hx j (by simp [PV.keys, PV.keys2, PV.keys1, PV.keys0])
            simp only [vLookup, this]
          | _ => rfl
  | index t x i => simp only [valOp, hev x (by simp [Op.operands]), hev i (by simp [Op.operands])]
  | slice t x lo hi mx =>
    have hrl : ∀ p, σ.ev x = some p → rlen σ'.mem p = rlen σ.mem p := fun p hp => by
      cases p with
      | rw k n =>
        have := key (x := x) (by simp [Op.operands]) hp k (by simp [PV.keys, PV.keys2, PV.keys1, PV.keys0])
        simp only [rlen, this]
      | _ => rfl
    simp only [valOp, hev x (by simp [Op.operands]), vBound_local (σ' := σ') (σ := σ) (o := lo) (fun y hy => hev y (by simp [Op.operands] at hy ⊢; simp [hy])), vBound_local (σ' := σ') (σ := σ) (o := hi) (fun y hy => hev y (by simp [Op.operands] at hy ⊢; simp [hy])), vBound_local (σ' := σ') (σ := σ) (o := mx) (fun y hy => hev y (by simp [Op.operands] at hy ⊢; simp [hy]))]
    cases hx : σ.ev x with
    | none => rfl
    | some p => cases vBound σ lo <;> cases vBound σ hi <;> cases vBound σ mx <;> first | rfl | (dsimp only; rw [hrl p hx])
  | makeInterface t x => simp only [valOp, hev x (by simp [Op.operands])]
  | makeFunc fn first caps =>
    simp only [valOp, vFunc, evs_local (σ' := σ') (σ := σ) (xs := caps.toList) (fun y hy => hev y (by simp [Op.operands] at hy ⊢; simp [hy]))]
  | nilCheck x => simp only [valOp, hev x (by simp [Op.operands])]
  | build t parts =>
    simp only [valOp, vBuild, evParts_local (σ' := σ') (σ := σ) (xs := parts.toList) (fun y hy => hev y (by simpa [Op.operands] using hy))]
  | call c =>
    obtain ⟨callee, args, ats⟩ := c
    have hargs : ∀ y ∈ args.toList, σ'.ev y = σ.ev y := fun y hy => hev y (by simp [Op.operands, Call.operands] at hy ⊢; simp [hy])
    cases callee with
    | value f => rfl
    | invoke r mm => rfl
    | builtin b =>
      cases b <;> try rfl
      · simp only [valOp]
        cases hl : args.toList with
        | nil => rfl
        | cons x r => cases r with
          | nil =>
            have hx := hargs x (by rw [hl]; simp)
            cases ats.toList with
            | nil => rfl
            | cons t r2 => cases r2 with
              | nil => simp only [hx]
              | cons _ _ => rfl
          | cons _ _ => rfl
      · simp only [valOp, evInts_local (σ' := σ') (σ := σ) hargs]
      · simp only [valOp, evInts_local (σ' := σ') (σ := σ) hargs]
  | _ => rfl

theorem fm_eq {ks : List Nat} (h : ∀ k ∈ ks, look k σ'.mem = look k σ.mem) : ks.flatMap (objKeys σ'.mem) = ks.flatMap (objKeys σ.mem) := by
  induction ks with
  | nil => rfl
  | cons k ks ih => rw [List.flatMap_cons, List.flatMap_cons, objKeys_eq (h k (by simp)), ih fun j hj => h j (by simp [hj])]
theorem reach_local {ps : List PV} (h : ∀ k ∈ reach σ.mem ps, look k σ'.mem = look k σ.mem) : reach σ'.mem ps = reach σ.mem ps := by
  unfold reach at h ⊢
  dsimp only at h ⊢
  have h0 : ∀ k ∈ dedup (ps.flatMap PV.keys), look k σ'.mem = look k σ.mem := fun k hk => by
    refine h k ?_
    split
    · exact hk
    · rw [dedup_iff, List.mem_append, dedup_iff, List.mem_append]; exact .inl (.inl hk)
  rw [fm_eq h0]
  split
  · rfl
  · rename_i hne
    rw [if_neg hne] at h
    rw [fm_eq fun k hk => h k (by rw [dedup_iff, List.mem_append]; exact .inl hk)]
theorem reachOk_local {ps : List PV} {ks : List Nat} (h : ∀ k ∈ ks, look k σ'.mem = look k σ.mem) : reachOk σ'.mem ps ks = reachOk σ.mem ps ks := by
  unfold reachOk
  congr 3
  rw [Bool.eq_iff_iff, List.all_eq_true, List.all_eq_true]
  constructor <;> intro hh k hk <;> have := hh k hk <;> rw [h k hk, objKeys_eq (h k hk)] at * <;> exact this
theorem srcOf_local {sz : Nat} {p : PV} (h : ∀ k ∈ p.keys, look k σ'.mem = look k σ.mem) : srcOf sz σ'.mem p = srcOf sz σ.mem p := by
  cases p with
  | rw k n =>
    have hk := h k (by simp [PV.keys, PV.keys2, PV.keys1, PV.keys0])
    simp only [srcOf, hk]
  | rs k z o n fl =>
    have hk := h k (by simp [PV.keys, PV.keys2, PV.keys1, PV.keys0])
    simp only [srcOf, hk]
  | d x => cases x with
    | sl sz xs => rfl
    | v x => cases x with
      | slice A n c => cases A <;> cases n <;> cases c <;> rfl
      | _ => rfl
  | _ => rfl
theorem vStore_local {t : Nat} {p q : PV} {c : Prop} {k : Nat} {ob : MObj} {tl : Mem} (h : ∀ k ∈ p.keys, look k σ'.mem = look k σ.mem) (hv : vStore tb σ t p q = some (c, (k, ob) :: tl)) : ∃ tl', vStore tb σ' t p q = some (c, (k, ob) :: tl') := by
  cases p with
  | ptr k off =>
    have hk := h k (by simp [PV.keys, PV.keys2, PV.keys1, PV.keys0])
    cases ht : look t tb with
    | none => simp only [vStore, ht] at hv; cases hv
    | some i =>
      simp only [vStore, ht] at hv ⊢
      rw [hk]
      split at hv
      · split at hv
        · rename_i h3
          cases hv
          rw [if_pos h3]
          exact ⟨_, rfl⟩
        · cases hv
      · cases hv
  | _ => cases hv

theorem vUpdate_local {t : Nat} {p q x : PV} {k : Nat} {ob : MObj} {tl : Mem} (h : ∀ k ∈ p.keys, look k σ'.mem = look k σ.mem) (hv : vUpdate tb σ t p q x = some ((k, ob) :: tl)) : ∃ tl', vUpdate tb σ' t p q x = some ((k, ob) :: tl') := by
  unfold vUpdate at hv ⊢
  split at hv
  · rename_i key k0 v0 kt et ht
    have hk := h key (by simp [PV.keys, PV.keys2, PV.keys1, PV.keys0])
    rw [hk]
    split at hv
    · rename_i ki es h1 h2
      split at hv
      · rename_i es' g1 g2
        cases hv
        exact ⟨_, rfl⟩
      · cases hv
    · cases hv
  · cases hv
theorem vStoreR_local {t : Nat} {p q : PV} {c : Prop} {k : Nat} {ob : MObj} {tl : Mem} (h : ∀ k ∈ p.keys, look k σ'.mem = look k σ.mem) (hv : vStoreR tb σ t p q = some (c, (k, ob) :: tl)) : ∃ tl', vStoreR tb σ' t p q = some (c, (k, ob) :: tl') := by
  cases p with
  | rp kk sz i off =>
    have hk := h kk (by simp [PV.keys, PV.keys2, PV.keys1, PV.keys0])
    simp only [vStoreR] at hv ⊢
    rw [hk]
    split at hv
    · split at hv
      · split at hv
        · rename_i g4
          cases hv
          rw [if_pos g4]
          exact ⟨_, rfl⟩
        · cases hv
      · cases hv
    · split at hv
      · split at hv
        · rename_i g4
          cases hv
          rw [if_pos g4]
          exact ⟨_, rfl⟩
        · cases hv
      · cases hv
    · cases hv
  | _ => exact vStore_local (tb := tb) (t := t) (q := q) h hv

def oslots (o : Oper) : List Nat := o.op.operands.toList.filterMap fun | .tmp t => some t | _ => none
def gslots (ops : Array Oper) (o : Oper) : List Nat := match o.guard with
  | some (j, _) => ((ops[j]?).bind (·.dst)).toList
  | none => []
theorem ev_eq {o : Oper} (h : ∀ t ∈ oslots o, look t σ'.slots = look t σ.slots) : ∀ x ∈ o.op.operands.toList, σ'.ev x = σ.ev x := fun x hx => by
  cases x with
  | tmp t => exact h t (List.mem_filterMap.2 ⟨_, hx, rfl⟩)
  | _ => rfl
theorem wanted_eq {ops : Array Oper} {o : Oper} (h : ∀ t ∈ gslots ops o, look t σ'.slots = look t σ.slots) : wantedS ops σ' o = wantedS ops σ o := by
  unfold wantedS
  unfold gslots at h
  cases hg : o.guard with
  | none => rfl
  | some g =>
    obtain ⟨j, want⟩ := g
    rw [hg] at h
    dsimp only at h ⊢
    cases hd : (ops[j]?).bind (·.dst) with
    | none => rfl
    | some d =>
      rw [hd] at h
      dsimp only
      rw [h d (by simp)]

theorem valOp_load {op : Op} (hn : loadsOnly op = true) (hev : ∀ x ∈ op.operands.toList, σ'.ev x = σ.ev x) (hk : ∀ k ∈ nameKeys σ op.operands.toList, look k σ'.mem = look k σ.mem) : valOp tb σ' op = valOp tb σ op := by
  cases op with
  | load t x =>
    simp only [valOp, hev x (by simp [Op.operands])]
    cases hx : σ.ev x with
    | none => rfl
    | some p => exact vLoad_local fun k hkk => hk k (nameKeys_sub (x := x) (by simp [Op.operands]) hx hkk)
  | _ => cases hn
theorem opEff0_local {o : Oper} {e : Eff} (hev : ∀ x ∈ o.op.operands.toList, σ'.ev x = σ.ev x) (hk : ∀ k ∈ e.reads, look k σ'.mem = look k σ.mem) (h : opEff0 tb o σ = some e) : opEff0 tb o σ' = some e := by
  obtain ⟨dst, op, ty, pos, after, guard⟩ := o
  have valc : ∀ {c : Prop} {p : PV}, valOp tb σ op = some (c, p) → e = ⟨c, p, [], none, opKeys σ op.operands.toList⟩ → valOp tb σ' op = some (c, p) ∧ opKeys σ' op.operands.toList = opKeys σ op.operands.toList := fun h1 h2 => by
    subst h2
    exact ⟨(valOp_local hev hk).trans h1, opKeys_eq hev hk⟩
  unfold opEff0 at h ⊢
  dsimp only at h hev ⊢
  split at h
  · -- alloc
    split at h
    · split at h
      · rename_i d ti h1 h2
        cases h
        rw [hk d (by simp)]
        try dsimp only
        try rw [h1]
        try dsimp only
        try rw [if_pos h2]
        try dsimp only
      · cases h
    · cases h
  · -- box
    rename_i e0 x
    rw [hev x (by simp [Op.operands])]
    split at h
    · rename_i d p h1
      split at h
      · rename_i h2
        cases h
        have hw := wide_eq (σ' := σ') (σ := σ) (ks := p.keys) fun k hkk => hk k (by simp [wide, hkk])
        rw [hk d (by simp)]
        try dsimp only
        try rw [h1]
        try dsimp only
        try rw [if_pos h2]
        try dsimp only
        try rw [hw]
        try dsimp only
      · cases h
    · cases h
  · -- buildSlice
    rename_i t len parts
    have hb : vBuildSlice tb σ' t len parts.toList = vBuildSlice tb σ t len parts.toList := by
      unfold vBuildSlice
      rw [evParts_local (σ' := σ') (σ := σ) (xs := parts.toList) fun y hy => hev y (by simpa [Op.operands] using hy)]
    have hpe : ∀ y ∈ parts.toList.map (·.2), σ'.ev y = σ.ev y := fun y hy => hev y (by simpa [Op.operands] using hy)
    rw [hb]
    split at h
    · rename_i d e1 sz xs h1
      split at h
      · rename_i h2
        split at h
        · rename_i h3
          cases h
          rw [hk d (by simp)]
          try dsimp only
          try rw [h1]
          try dsimp only
          try rw [if_pos h2]
          try dsimp only
          try rw [if_pos h3]
          try dsimp only
          try rw [opKeys_eq hpe fun k hkk => hk k (by simp [hkk])]
          try dsimp only
        · rename_i h3
          cases h
          rw [hk d (by simp)]
          try dsimp only
          try rw [h1]
          try dsimp only
          try rw [if_pos h2]
          try dsimp only
          try rw [if_neg h3]
          try dsimp only
          try rw [opKeys_eq hpe fun k hkk => hk k (by simp [hkk])]
          try dsimp only
      · cases h
    · cases h
  · -- store
    rename_i t x v
    rw [hev x (by simp [Op.operands]), hev v (by simp [Op.operands])]
    split at h
    · rename_i p q h1 h2
      split at h
      · rename_i c k ob tl h3
        cases h
        obtain ⟨tl', h4⟩ := vStoreR_local (σ' := σ') (fun j hj => hk j (by simp [wide, hj])) h3
        rw [wide_eq (σ' := σ') (σ := σ) (ks := p.keys) fun j hj => hk j (by simp [wide, hj]), wide_eq (σ' := σ') (σ := σ) (ks := q.keys) fun j hj => hk j (by simp [wide, hj])]
        try dsimp only
        try rw [h1]
        try dsimp only
        try rw [h2]
        try dsimp only
        try dsimp only
        try rw [h4]
        try dsimp only
      · cases h
    · cases h
  · -- mapUpdate
    rename_i t x k v
    rw [hev x (by simp [Op.operands]), hev k (by simp [Op.operands]), hev v (by simp [Op.operands])]
    split at h
    · rename_i p q r h1 h2 h5
      split at h
      · rename_i j ob tl h3
        cases h
        obtain ⟨tl', h4⟩ := vUpdate_local (σ' := σ') (fun j hj => hk j (by simp [wide, hj])) h3
        rw [wide_eq (σ' := σ') (σ := σ) (ks := p.keys) fun j hj => hk j (by simp [wide, hj]), wide_eq (σ' := σ') (σ := σ) (ks := q.keys) fun j hj => hk j (by simp [wide, hj]), wide_eq (σ' := σ') (σ := σ) (ks := r.keys) fun j hj => hk j (by simp [wide, hj])]
        try dsimp only
        try rw [h1]
        try dsimp only
        try rw [h2]
        try dsimp only
        try rw [h5]
        try dsimp only
        try dsimp only
        try rw [h4]
        try dsimp only
      · cases h
    · cases h
  · -- call
    rename_i c
    obtain ⟨callee, args, ats⟩ := c
    have hargs : ∀ y ∈ args.toList, σ'.ev y = σ.ev y := fun y hy => hev y (by simp [Op.operands, Call.operands] at hy ⊢; simp [hy])
    dsimp only at h ⊢
    split at h
    · split at h
      · rename_i s x t t' ha ht
        rw [hargs s (by rw [ha]; simp), hargs x (by rw [ha]; simp)]
        split at h
        · rename_i k n p h1 h2
          split at h
          · rename_i e1 sz xs l h3
            split at h
            · rename_i ti ei cc ys g1 g2 g3
              split at h <;> rename_i hnx
              · cases h
                have e0 : look k σ'.mem = look k σ.mem := hk k (by simp [wide])
                rw [markSet_eq (mem := σ.mem) (mem' := σ'.mem) (K := some k) fun j hj => hk j (by simp [hj])]
                rw [wide_eq (σ' := σ') (σ := σ) (ks := [k]) fun j hj => hk j (by simp [wide] at hj ⊢; simp [hj]), wide_eq (σ' := σ') (σ := σ) (ks := p.keys) fun j hj => hk j (by simp [wide, hj])]
                try dsimp only
                try rw [h1]
                try dsimp only
                try rw [h2]
                try dsimp only
                try dsimp only
                try rw [e0]
                try dsimp only
                try rw [h3]
                try dsimp only
                try dsimp only
                try rw [g1]
                try rw [g2]
                rw [srcOf_local (σ' := σ') (σ := σ) fun j hj => hk j (by simp [wide, hj])]
                try rw [g3]
                try dsimp only
                first | rw [if_pos hnx] | rw [if_neg hnx] | skip
              · cases h
                have e0 : look k σ'.mem = look k σ.mem := hk k (by simp [wide])
                rw [wide_eq (σ' := σ') (σ := σ) (ks := [k]) fun j hj => hk j (by simp [wide] at hj ⊢; simp [hj]), wide_eq (σ' := σ') (σ := σ) (ks := p.keys) fun j hj => hk j (by simp [wide, hj])]
                try dsimp only
                try rw [h1]
                try dsimp only
                try rw [h2]
                try dsimp only
                try dsimp only
                try rw [e0]
                try dsimp only
                try rw [h3]
                try dsimp only
                try dsimp only
                try rw [g1]
                try rw [g2]
                rw [srcOf_local (σ' := σ') (σ := σ) fun j hj => hk j (by simp [wide, hj])]
                try rw [g3]
                try dsimp only
                first | rw [if_pos hnx] | rw [if_neg hnx] | skip
            · cases h
          · cases h
        · rename_i k sz2 off n fl p h1 h2
          split at h
          · rename_i e1 sz xs h3
            split at h
            · rename_i ti ei cc ys g1 g2 g3
              have e0 : look k σ'.mem = look k σ.mem := hk k (by split at h <;> (cases h; simp [wide]))
              have hr : ∀ j ∈ wide σ.mem [k] ++ wide σ.mem p.keys, look j σ'.mem = look j σ.mem := fun j hj => hk j (by split at h <;> (cases h; exact hj))
              rw [wide_eq (σ' := σ') (σ := σ) (ks := [k]) fun j hj => hr j (by simp [wide] at hj ⊢; simp [hj]), wide_eq (σ' := σ') (σ := σ) (ks := p.keys) fun j hj => hr j (by simp [wide, hj])]
              rw [e0, h3]
              dsimp only
              rw [g1, g2, srcOf_local (σ' := σ') (σ := σ) fun j hj => hr j (by simp [wide, hj]), g3]
              exact h
            · cases h
          · cases h
        · rename_i sz xs p h1 h2
          split at h
          · rename_i e1 c ys h3 h4
            split at h
            · rename_i ei h5
              have hr : ∀ j ∈ wide σ.mem p.keys, look j σ'.mem = look j σ.mem := fun j hj => hk j (by cases h; exact hj)
              rw [srcOf_local (σ' := σ') (σ := σ) fun j hj => hr j (by simp [wide, hj]), h3, h4, wide_eq (σ' := σ') (σ := σ) (ks := p.keys) fun j hj => hr j (by simp [wide, hj])]
              dsimp only
              rw [h5]
              exact h
            · cases h
          · cases h
        · cases h
      · cases h
    · rename_i b hb
      split at h
      · rename_i cd p h1
        cases h
        have hop : opKeys σ (Op.call ⟨.builtin b, args, ats⟩).operands.toList = opKeys σ args.toList := by simp [Op.operands, Call.operands]
        have hv : valOp tb σ' (.call ⟨.builtin b, args, ats⟩) = valOp tb σ (.call ⟨.builtin b, args, ats⟩) := valOp_local hev (by rw [hop]; exact hk)
        rw [hv, opKeys_eq hargs hk]
        cases b <;> first | exact absurd rfl hb | ((try dsimp only); rw [h1])
      · cases h
    · cases h
  · -- makeSlice
    rename_i t l c
    have hpe : ∀ y ∈ [l, c], σ'.ev y = σ.ev y := fun y hy => hev y (by simpa [Op.operands] using hy)
    rw [hev l (by simp [Op.operands]), hev c (by simp [Op.operands])]
    split at h
    · rename_i d p q h1 h2
      split at h
      · rename_i cd ob n h3
        split at h
        · rename_i h4
          cases h
          rw [hk d (by simp)]
          try dsimp only
          try rw [h1]
          try dsimp only
          try rw [h2]
          try dsimp only
          try rw [h3]
          try dsimp only
          try rw [if_pos h4]
          try dsimp only
          try rw [opKeys_eq hpe fun k hkk => hk k (by simp [hkk])]
          try dsimp only
        · cases h
      · cases h
    · cases h
  · -- the rest
    split at h
    · rename_i cd p h1
      cases h
      have key : valOp tb σ' op = some (cd, p) ∧ opReads σ' op p = opReads σ op p := by
        have hk : ∀ k ∈ opReads σ op p, look k σ'.mem = look k σ.mem := hk
        unfold opReads at hk ⊢
        rw [nameKeys_eq hev]
        split at hk
        · rename_i hc
          rw [if_pos hc, if_pos hc]
          simp only [Bool.and_eq_true] at hc
          exact ⟨(valOp_names hc.1 hev).trans h1, rfl⟩
        · rename_i hc
          rw [if_neg hc, if_neg hc]
          split at hk
          · rename_i hc2
            rw [if_pos hc2, if_pos hc2]
            exact ⟨(valOp_load hc2 hev hk).trans h1, rfl⟩
          · rename_i hc2
            rw [if_neg hc2, if_neg hc2]
            exact ⟨(valOp_local hev hk).trans h1, opKeys_eq hev hk⟩
      obtain ⟨g1, g2⟩ := key
      cases op <;> first | ((try dsimp only); rw [g1]; (try dsimp only); rw [g2]) | (exfalso; simp_all)
    · cases h

theorem opEff_local {o : Oper} {e : Eff} (hev : ∀ x ∈ o.op.operands.toList, σ'.ev x = σ.ev x) (hk : ∀ k ∈ e.reads, look k σ'.mem = look k σ.mem) (h : opEff tb o σ = some e) : opEff tb o σ' = some e := by
  unfold opEff at h ⊢
  split at h
  · rename_i hl
    rw [if_pos hl]
    obtain ⟨e0, h1, h2⟩ := Option.bind_eq_some_iff.1 h
    obtain ⟨k, n, t, sz, xs, l, r, g1, g2, g3, g4, g5, rfl⟩ := leakE_spec h2
    rw [opEff0_local (e := e0) hev hk h1]
    exact h2
  · rename_i hl
    rw [if_neg hl]
    exact opEff0_local hev hk h
theorem CallEff_local {o : Oper} {e : Eff} (hev : ∀ x ∈ o.op.operands.toList, σ'.ev x = σ.ev x) (hk : ∀ k ∈ e.reads, look k σ'.mem = look k σ.mem) (h : CallEff P tb o σ e) : CallEff P tb o σ' e := by
  obtain ⟨cl, g, as, q, h1, h2, h4, h5, h6, rfl⟩ := h
  rw [h1] at hev
  have hr : ∀ k ∈ reach σ.mem as, look k σ'.mem = look k σ.mem := fun k hkk => hk k (by simp [wide, hkk])
  have hre := reach_local hr
  have hobj : ∀ g : MObj → MObj, ((reach σ.mem as).map fun k => g ((look k σ'.mem).getD default)) = (reach σ.mem as).map fun k => g ((look k σ.mem).getD default) := fun g => List.map_congr_left fun k hkk => by rw [hr k hkk]
  refine ⟨cl, g, as, q, h1, (tgt_local hev).trans h2, h4, ?_, ?_, ?_⟩
  · rw [hre, reachOk_local hr]; exact h5
  · rw [hre, hobj]; exact h6
  · rw [hre, wide_eq hr, wide_eq (σ' := σ') (σ := σ) (ks := as.flatMap PV.keys) fun k hkk => hk k (by simp only [List.mem_append]; exact .inr (mem_wide hkk))]

theorem CallN0_local {o : Oper} {e : Eff} (hev : ∀ x ∈ o.op.operands.toList, σ'.ev x = σ.ev x) (hk : ∀ k ∈ e.reads, look k σ'.mem = look k σ.mem) (h : CallN0 P tb o σ e) : CallN0 P tb o σ' e := by
  obtain ⟨cl, g, as, r, h1, h2, h4, h5, h6, h7, rfl⟩ := h
  rw [h1] at hev
  have hr : ∀ k ∈ reach σ.mem as, look k σ'.mem = look k σ.mem := fun k hkk => hk k (List.mem_append_left _ (List.mem_append_left _ (mem_wide hkk)))
  have hre := reach_local hr
  have hobj : ∀ g : MObj → MObj, ((reach σ.mem as).map fun k => g ((look k σ'.mem).getD default)) = (reach σ.mem as).map fun k => g ((look k σ.mem).getD default) := fun g => List.map_congr_left fun k hkk => by rw [hr k hkk]
  refine ⟨cl, g, as, r, h1, (tgt_local hev).trans h2, h4, ?_, ?_, ?_, ?_⟩
  · rw [hre, reachOk_local hr]; exact h5
  · rw [hre, hobj]; exact h6
  · rw [hre]
    refine ⟨fun k hkk => ?_, h7.2⟩
    rw [hk k (List.mem_append_right _ (List.mem_append_left _ hkk))]
    exact h7.1 k hkk
  · rw [hre, wide_eq hr, wide_eq (σ' := σ') (σ := σ) (ks := as.flatMap PV.keys) fun k hkk => hk k (List.mem_append_left _ (List.mem_append_right _ (mem_wide hkk)))]
    have hms : markSet σ'.mem (grownKs (reach σ.mem as) r.ext).head? = markSet σ.mem (grownKs (reach σ.mem as) r.ext).head? := markSet_eq fun k hkk => hk k (List.mem_append_right _ (List.mem_append_right _ hkk))
    unfold callE
    rw [hms]
theorem CallEffN_local {o : Oper} {e : Eff} (hev : ∀ x ∈ o.op.operands.toList, σ'.ev x = σ.ev x) (hk : ∀ k ∈ e.reads, look k σ'.mem = look k σ.mem) (h : CallEffN P tb o σ e) : CallEffN P tb o σ' e := by
  obtain ⟨l, e0, h1, rfl⟩ := h
  exact ⟨l, e0, CallN0_local hev (fun k hkk => hk k (more_val.2.2.2.2 k hkk)) h1, rfl⟩
theorem OwnEff_local {o : Oper} {e : Eff} (hev : ∀ x ∈ o.op.operands.toList, σ'.ev x = σ.ev x) (hk : ∀ k ∈ e.reads, look k σ'.mem = look k σ.mem) (h : OwnEff tb o σ e) : OwnEff tb o σ' e := by
  obtain ⟨l, e0, h1, rfl⟩ := h
  exact ⟨l, e0, opEff_local hev (fun k hkk => hk k (more_val.2.2.2.2 k hkk)) h1, rfl⟩
theorem EffAt_local {ops : Array Oper} {o : Oper} {e : Eff} (hn : σ'.n = σ.n) (hg : ∀ t ∈ gslots ops o, look t σ'.slots = look t σ.slots) (hs : wantedS ops σ o = some true → ∀ t ∈ oslots o, look t σ'.slots = look t σ.slots) (hk : ∀ k ∈ e.reads, look k σ'.mem = look k σ.mem)
    (hu : hitOk σ.mem e → hitOk σ'.mem e) (h : EffAt P tb ops o σ e) : EffAt P tb ops o σ' e := by
  obtain ⟨h0, h⟩ := h
  refine ⟨by unfold Sta.has at h0 ⊢; rw [hn]; exact h0, ?_⟩
  rw [wanted_eq hg]
  rcases h with ⟨h1, h2, h3, h4⟩ | h
  · have hev := ev_eq (hs h1)
    refine .inl ⟨h1, ?_, hu h3, ?_⟩
    · unfold opsKnown at h2 ⊢
      rw [List.all_eq_true] at h2 ⊢
      intro x hx
      rw [hev x hx]
      exact h2 x hx
    · rcases h4 with h4 | h4 | h4
      · exact .inl (OwnEff_local hev hk h4)
      · exact .inr (.inl (CallEff_local hev hk h4))
      · exact .inr (.inr (CallEffN_local hev hk h4))
  · exact .inr h

/-! ### A load looks at the cells that it loads alone -/
def PV.sure1 : PV → Bool
  | .any => false
  | _ => true
def PV.sure : PV → Bool
  | .any => false
  | .agg cs => cs.all PV.sure1
  | _ => true
theorem PV.keys2_of1 {p : PV} {k : Nat} (h : k ∈ p.keys1) : k ∈ p.keys := by cases p <;> first | exact h | (cases h; done)
theorem map_d {k : Nat} {l : List D} : (l.map PV.d).map (eraseC k) = l.map .d := by
  rw [List.map_map]
  exact List.map_congr_left fun x _ => eraseC_keep fun h => by cases h
theorem maskC_erase {k : Nat} {cs : List (Nat × Nat)} : ∀ {r : List D} {c : Nat}, (maskC cs c r).map (eraseC k) = maskC cs c r
  | [], _ => rfl
  | p :: r, c => by
    unfold maskC
    rw [List.map_cons, maskC_erase]
    congr 1
    split <;> exact eraseC_keep fun h => by cases h
theorem vCells_erase {k : Nat} {q : PV} (h : ∀ j ∈ q.keys, look j σ'.mem = (look j σ.mem).map (eraseN k)) : vCells σ' q = (vCells σ q).map fun x => (x.1.map (eraseC k), x.2) := by
  cases q with
  | ptr j off =>
    have hj := h j (by simp [PV.keys, PV.keys2, PV.keys1, PV.keys0])
    simp only [vCells, hj]
    cases look j σ.mem with
    | none => rfl
    | some o => cases o <;> rfl
  | rp j sz i off =>
    have hj := h j (by simp [PV.keys, PV.keys2, PV.keys1, PV.keys0])
    simp only [vCells, hj]
    cases look j σ.mem with
    | none => rfl
    | some o =>
      cases o with
      | row t sz' xs l =>
        simp only [Option.map_some, eraseN]
        split
        · rw [Option.map_some, map_d]
        · rfl
      | nest t sz' xs pr cs foc =>
        cases foc with
        | none =>
          simp only [Option.map_some, eraseN, focMap]
          split
          · rw [Option.map_some, maskC_erase]
          · rfl
        | some e =>
          obtain ⟨j', ps⟩ := e
          simp only [Option.map_some, eraseN, focMap]
          split
          · rw [Option.map_some]
            split
            · rfl
            · rw [maskC_erase]
          · rfl
      | _ => rfl
  | ep row off =>
    show some (row.map PV.d, off) = some ((row.map PV.d).map (eraseC k), off)
    rw [map_d]
  | _ => rfl
theorem readAt_erase {k : Nat} {i : TI} {cells : List PV} {off : Nat} (h : k ∉ (readAt i cells off).2.keys ∨ (readAt i (cells.map (eraseC k)) off).2.sure = true) : readAt i (cells.map (eraseC k)) off = readAt i cells off := by
  unfold readAt at h ⊢
  rw [List.length_map]
  split
  · rename_i hA
    rw [if_pos hA, if_pos hA] at h
    rw [← List.map_drop, ← List.map_take] at h ⊢
    generalize (cells.drop off).take i.size = l at h
    have : l.map (eraseC k) = l := by
      rcases h with h | h
      · exact map_keepC h
      · have h2 : (l.map (eraseC k)).all PV.sure1 = true := h
        rw [List.all_map, List.all_eq_true] at h2
        have : ∀ x ∈ l, eraseC k x = id x := fun x hx => by
          have h3 := h2 x hx
          show eraseC k x = x
          unfold eraseC
          split
          · rename_i hk
            have e : eraseC k x = .any := if_pos hk
            rw [Function.comp_apply, e] at h3
            cases h3
          · rfl
        rw [List.map_congr_left this, List.map_id]
    rw [this]
  · rename_i hA
    rw [if_neg hA, if_neg hA] at h
    have h : k ∉ (cells.getD off .any).keys ∨ ((cells.map (eraseC k)).getD off .any).sure = true := h
    have g1 : (cells.map (eraseC k)).getD off .any = ((cells[off]?).map (eraseC k)).getD .any := by rw [List.getD_eq_getElem?_getD, List.getElem?_map]
    have g2 : cells.getD off .any = (cells[off]?).getD .any := List.getD_eq_getElem?_getD
    have : (cells.map (eraseC k)).getD off .any = cells.getD off .any := by
      rw [g1, g2] at h ⊢
      cases hc : cells[off]? with
      | none => rfl
      | some x =>
        rw [hc] at h
        show eraseC k x = x
        rcases h with h | h
        · exact eraseC_keep fun hk => h (PV.keys2_of1 hk)
        · have h : (eraseC k x).sure = true := h
          unfold eraseC at h ⊢
          split
          · rename_i hk; rw [if_pos hk] at h; cases h
          · rfl
    rw [this]
theorem vLoad_erase {k t : Nat} {q : PV} (h : ∀ j ∈ q.keys, look j σ'.mem = (look j σ.mem).map (eraseN k)) {c : Prop} {p : PV} (hl : (vLoad tb σ t q = some (c, p) ∧ k ∉ p.keys) ∨ (vLoad tb σ' t q = some (c, p) ∧ p.sure = true)) : vLoad tb σ' t q = vLoad tb σ t q := by
  unfold vLoad at hl ⊢
  rw [vCells_erase h] at hl ⊢
  cases hq : vCells σ q with
  | none => rfl
  | some x =>
    obtain ⟨cells, off⟩ := x
    rw [hq] at hl
    cases ht : look t tb with
    | none => rfl
    | some i =>
      rw [ht] at hl
      simp only [Option.map_some] at hl ⊢
      by_cases hz : i.size = 0
      · rw [if_pos hz, if_pos hz]
      · rw [if_neg hz, if_neg hz] at hl
        rw [if_neg hz, if_neg hz]
        refine congrArg some (readAt_erase ?_)
        rcases hl with ⟨h1, h2⟩ | ⟨h1, h2⟩
        · have := Option.some.inj h1
          rw [this]; exact .inl h2
        · have := Option.some.inj h1
          rw [this]; exact .inr h2
theorem load_local {ops : Array Oper} {o : Oper} {e : Eff} {K : Option Nat} (hL : loadsOnly o.op = true) (hn : σ'.n = σ.n) (hg : ∀ t ∈ gslots ops o, look t σ'.slots = look t σ.slots) (hs : wantedS ops σ o = some true → ∀ t ∈ oslots o, look t σ'.slots = look t σ.slots)
    (hk : (∀ k ∈ e.reads, look k σ'.mem = (look k σ.mem).map (killO K)) ∧ (∀ k ∈ K.toList, k ∉ e.val.keys) ∨ (∀ k ∈ e.reads, look k σ.mem = (look k σ'.mem).map (killO K)) ∧ e.val.sure = true) (h : EffAt P tb ops o σ e) : EffAt P tb ops o σ' e := by
  obtain ⟨h0, h⟩ := h
  refine ⟨by unfold Sta.has at h0 ⊢; rw [hn]; exact h0, ?_⟩
  rw [wanted_eq hg]
  rcases h with ⟨h1, h2, h3, h4⟩ | h
  · have hev := ev_eq (hs h1)
    obtain ⟨dst, op, ty, pos, after, guard⟩ := o
    have hL : loadsOnly op = true := hL
    cases op with
    | load t x =>
      have hx : σ'.ev x = σ.ev x := hev x (by simp [Op.operands])
      rcases h4 with ⟨l, e0, h4, rfl⟩ | ⟨_, _, _, _, h4, _⟩ | ⟨_, _, ⟨_, _, _, _, h4, _⟩, _⟩
      · have h4' : (match valOp tb σ (.load t x) with
            | some (cd, p) => some (⟨cd, p, [], none, opReads σ (.load t x) p⟩ : Eff)
            | none => none) = some e0 := h4
        have hv : ∀ τ : Sta, valOp tb τ (.load t x) = match τ.ev x with
            | some p => vLoad tb τ t p
            | none => none := fun τ => rfl
        rw [hv] at h4'
        cases hq : σ.ev x with
        | none => rw [hq] at h4'; cases h4'
        | some q =>
          rw [hq] at h4'
          dsimp only at h4'
          cases hl : vLoad tb σ t q with
          | none => rw [hl] at h4'; cases h4'
          | some r =>
            obtain ⟨cd, p⟩ := r
            rw [hl] at h4'
            have hr : ∀ τ : Sta, opReads τ (.load t x) p = nameKeys τ [x] := fun τ => rfl
            have hnk : nameKeys σ' [x] = nameKeys σ [x] := nameKeys_eq fun y hy => by
              have : y = x := by simpa using hy
              rw [this]; exact hx
            have hnq : ∀ j ∈ q.keys, j ∈ nameKeys σ [x] := fun j hj => nameKeys_sub (by simp) hq hj
            have h5 := Option.some.inj h4'
            have hkill : e0.kill = none := by rw [← h5]
            have hm : more l e0 = e0 := by unfold more; rw [hkill]
            rw [hm] at hk ⊢
            have hred : e0.reads = nameKeys σ [x] := by rw [← h5]; exact hr σ
            have hval : e0.val = p := by rw [← h5]
            rw [hred, hval] at hk
            have hload : vLoad tb σ' t q = vLoad tb σ t q := by
              cases K with
              | none =>
                refine vLoad_local fun j hj => ?_
                rcases hk with ⟨hk, _⟩ | ⟨hk, _⟩
                · rw [hk j (hnq j hj)]; cases look j σ.mem <;> rfl
                · rw [hk j (hnq j hj)]; cases look j σ'.mem <;> rfl
              | some kk =>
                rcases hk with ⟨hk, hkk⟩ | ⟨hk, hkk⟩
                · exact vLoad_erase (fun j hj => hk j (hnq j hj)) (.inl ⟨hl, hkk kk (by simp)⟩)
                · exact (vLoad_erase (σ' := σ) (σ := σ') (fun j hj => hk j (hnq j hj)) (.inr ⟨hl, hkk⟩)).symm
            refine .inl ⟨h1, ?_, (by intro k hkk; rw [hkill] at hkk; cases hkk), .inl (OwnEff.of ?_)⟩
            · unfold opsKnown at h2 ⊢
              rw [List.all_eq_true] at h2 ⊢
              intro y hy
              rw [hev y hy]
              exact h2 y hy
            · show (match valOp tb σ' (.load t x) with
                | some (cd, p) => some (⟨cd, p, [], none, opReads σ' (.load t x) p⟩ : Eff)
                | none => none) = some e0
              rw [hv, hx, hq]
              dsimp only
              rw [hload, hl]
              dsimp only
              rw [← h5, hr, hr, hnk]
      · cases h4
      · cases h4
    | _ => cases hL
  · exact .inr h
end
end Go.Proofs.YtplooifpgmlofaaGreat
