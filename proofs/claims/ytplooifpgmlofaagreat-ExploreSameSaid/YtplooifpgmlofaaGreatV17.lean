/- A region whose order is open: one walk in the order of the text serves every order. No condition. -/
import Derived.Test.YtplooifpgmlofaaGreatV16
namespace Go.Proofs.YtplooifpgmlofaaGreat
open Go.RowKit

def Eff.writes (e : Eff) : List Nat := e.set.map (·.1) ++ e.kill.toList
def Eff.foot (e : Eff) : List Nat := e.reads ++ e.writes
def Eff.names (e : Eff) : List Nat := e.val.keys ++ e.set.flatMap (fun x => x.2.keys)
def disj (a b : List Nat) : Bool := a.all fun k => !b.contains k
def loadB (o : Oper) (e : Eff) : Bool := loadsOnly o.op && e.val.sure
def clearB (e f : Eff) : Bool := f.kill.isNone || e.foot.all fun b => !f.reads.contains (b + 5000000)
def indep (ops : Array Oper) (oi oj : Oper) (Ei Ej : Eff) : Bool :=
  (match oi.dst with | some d => !(oslots oj).contains d && !(gslots ops oj).contains d | none => true) && (match oj.dst with | some d => !(oslots oi).contains d && !(gslots ops oi).contains d | none => true) &&
  (oi.dst.isNone || oi.dst != oj.dst) && disj Ei.foot Ej.writes && disj Ei.writes Ej.foot && disj Ei.names Ej.kill.toList && disj Ei.kill.toList Ej.names && (clearB Ei Ej || loadB oi Ei) && (clearB Ej Ei || loadB oj Ej)

section
variable {P : Program} {tb : Tab} {ops : Array Oper} {σ σ' : Sta} {oi oj : Oper} {Ei Ej : Eff}

theorem disj_spec {a b : List Nat} (h : disj a b = true) {k : Nat} (ha : k ∈ a) : k ∉ b := fun hb => by
  have := List.all_eq_true.1 h k ha
  simp [hb] at this
theorem disj_symm {a b : List Nat} (h : disj a b = true) {k : Nat} (hb : k ∈ b) : k ∉ a := fun ha => disj_spec h ha hb
def killP : Option Nat → PV → PV
  | none, p => p
  | some k, p => eraseP k p
theorem look_kill {K : Option Nat} {l : Slots} {i : Nat} : look i (eraseS? K l) = (look i l).map (killP K) := by
  cases K with
  | none => cases h : look i l <;> simp [eraseS?, killP, h]
  | some k => exact look_eraseS
theorem kill_keep {K : Option Nat} {p : PV} (h : ∀ k ∈ K.toList, k ∉ p.keys) : killP K p = p := by
  cases K with
  | none => rfl
  | some k =>
    show eraseP k p = p
    unfold eraseP
    rw [if_neg (h k (by simp))]
theorem kill_back {K : Option Nat} {p : PV} (h : killP K p ≠ .any) : killP K p = p := by
  cases K with
  | none => rfl
  | some k =>
    have h : eraseP k p ≠ .any := h
    show eraseP k p = p
    unfold eraseP at h ⊢
    by_cases hk : k ∈ p.keys
    · rw [if_pos hk] at h; exact absurd rfl h
    · rw [if_neg hk]
theorem kill_comm {K L : Option Nat} {p : PV} : killP K (killP L p) = killP L (killP K p) := by
  cases K with
  | none => cases L <;> rfl
  | some k => cases L with
    | none => rfl
    | some l =>
      show eraseP k (eraseP l p) = eraseP l (eraseP k p)
      have ha : ∀ j, eraseP j .any = .any := fun j => by unfold eraseP; split <;> rfl
      by_cases h1 : k ∈ p.keys <;> by_cases h2 : l ∈ p.keys
      · have e1 : eraseP k p = .any := if_pos h1
        have e2 : eraseP l p = .any := if_pos h2
        rw [e1, e2, ha, ha]
      · have e1 : eraseP k p = .any := if_pos h1
        have e2 : eraseP l p = p := if_neg h2
        rw [e2, e1, ha]
      · have e1 : eraseP k p = p := if_neg h1
        have e2 : eraseP l p = .any := if_pos h2
        rw [e2, e1, ha, e2]
      · have e1 : eraseP k p = p := if_neg h1
        have e2 : eraseP l p = p := if_neg h2
        rw [e2, e1, e2]
theorem slots_app {d : Option Nat} {e : Eff} {t : Nat} (h : ∀ x, d = some x → t ≠ x) : look t (app σ d e).slots = (look t σ.slots).map (killP e.kill) := by
  unfold app
  cases d with
  | none => exact look_kill
  | some x =>
    show (if t = x then some e.val else look t (eraseS? e.kill σ.slots)) = _
    rw [if_neg (h x rfl)]
    exact look_kill
theorem look_none_of {l : Mem} {k : Nat} (h : k ∉ l.map (·.1)) : look k l = none := by
  cases hl : look k l with
  | none => rfl
  | some o => exact absurd (List.mem_map.2 ⟨_, look_mem hl, rfl⟩) h
theorem mem_app {d : Option Nat} {e : Eff} {k : Nat} (h : k ∉ e.writes) : look k (app σ d e).mem = (look k σ.mem).map (killO e.kill) := by
  show look k (e.set ++ eraseN? e.kill σ.mem) = _
  rw [look_app, look_none_of fun hk => h (List.mem_append_left _ hk)]
  exact look_eraseN?
def cellsOf : MObj → List PV
  | .box _ cells => cells
  | .nest _ _ _ _ _ foc => match foc with
    | some e => e.2
    | none => []
  | _ => []
theorem keys_cells {o : MObj} : o.keys = (cellsOf o).flatMap PV.keys1 := by
  cases o with
  | nest t sz xs pr cs foc => cases foc with
    | none => rfl
    | some e => rfl
  | _ => rfl
theorem co_cells {k : Nat} {o : MObj} : coKeys k o = coC k (cellsOf o) := by
  cases o with
  | nest t sz xs pr cs foc => cases foc with
    | none => rfl
    | some e => rfl
  | _ => rfl
theorem cells_erase {k : Nat} {o : MObj} : cellsOf (eraseN k o) = (cellsOf o).map (eraseC k) := by
  cases o with
  | nest t sz xs pr cs foc => cases foc with
    | none => rfl
    | some e => rfl
  | _ => rfl
theorem mem_coC {k x : Nat} {ps : List PV} : x ∈ coC k ps ↔ ∃ p ∈ ps, k ∈ p.keys1 ∧ x ∈ p.keys1 := by
  unfold coC
  rw [List.mem_flatMap]
  constructor
  · rintro ⟨p, hp, hx⟩
    rw [List.mem_filter] at hp
    exact ⟨p, hp.1, by simpa using hp.2, hx⟩
  · rintro ⟨p, hp, hk, hx⟩
    exact ⟨p, List.mem_filter.2 ⟨hp, by simpa using hk⟩, hx⟩
theorem eraseC_sub {k j : Nat} {p : PV} (h : j ∈ (eraseC k p).keys1) : eraseC k p = p ∧ j ∈ p.keys1 := by
  unfold eraseC at h ⊢
  split at h
  · cases h
  · rename_i hk; exact ⟨if_neg hk, h⟩
theorem keys_erase {k j : Nat} {o : MObj} (h : j ∈ (eraseN k o).keys) : j ∈ o.keys := by
  rw [keys_cells, cells_erase, List.mem_flatMap] at h
  obtain ⟨q, hq, hj⟩ := h
  obtain ⟨p, hp, rfl⟩ := List.mem_map.1 hq
  rw [keys_cells, List.mem_flatMap]
  exact ⟨p, hp, (eraseC_sub hj).2⟩
theorem co_erase {k l x : Nat} {o : MObj} (h : x ∈ coKeys l (eraseN k o)) : x ∈ coKeys l o := by
  rw [co_cells, cells_erase, mem_coC] at h
  obtain ⟨q, hq, h1, h2⟩ := h
  obtain ⟨p, hp, rfl⟩ := List.mem_map.1 hq
  rw [co_cells, mem_coC]
  exact ⟨p, hp, (eraseC_sub h1).2, (eraseC_sub h2).2⟩
theorem erase_stays {k l : Nat} {o : MObj} (hn : l ∉ coKeys k o) {p : PV} (hp : p ∈ cellsOf o) (hl : l ∈ p.keys1) : p ∈ cellsOf (eraseN k o) := by
  rw [cells_erase]
  refine List.mem_map.2 ⟨p, hp, if_neg fun hk => hn ?_⟩
  rw [co_cells, mem_coC]
  exact ⟨p, hp, hk, hl⟩
theorem hit_of {o : Oper} {e : Eff} (h : EffAt P tb ops o σ e) : hitOk σ.mem e := by
  rcases h.2 with ⟨_, _, h, _⟩ | ⟨_, rfl⟩
  · exact h
  · intro k hk; cases hk
theorem mem_keep {d : Option Nat} {e : Eff} {k : Nat} (hh : hitOk σ.mem e) (hc : e.kill = none ∨ k + 5000000 ∉ e.reads) (h : k ∉ e.writes) : look k (app σ d e).mem = look k σ.mem := by
  rw [mem_app h]
  cases hl : look k σ.mem with
  | none => rfl
  | some ob =>
    rw [Option.map_some]
    refine congrArg some (killO_keep fun j hj hjo => ?_)
    have hj : e.kill = some j := by simpa using hj
    rcases hh j hj k ob hl hjo with h1 | ⟨h1, _⟩
    · exact h (List.mem_append_left _ h1)
    · rcases hc with hc | hc
      · rw [hc] at hj; cases hj
      · exact hc h1
theorem clear_spec {e f : Eff} (h : clearB e f = true) {b : Nat} (hb : b ∈ e.foot) : f.kill = none ∨ b + 5000000 ∉ f.reads := by
  unfold clearB at h
  rw [Bool.or_eq_true] at h
  rcases h with h | h
  · left; cases hk : f.kill with
    | none => rfl
    | some k => rw [hk] at h; cases h
  · right
    have := List.all_eq_true.1 h b hb
    simpa using this

theorem opEff0_reads {o : Oper} {e : Eff} (h : opEff0 tb o σ = some e) : ∀ x ∈ o.op.operands.toList, ∀ p, σ.ev x = some p → ∀ k ∈ p.keys, k ∈ e.reads ∨ k ∈ e.val.keys := by
  obtain ⟨dst, op, ty, pos, after, guard⟩ := o
  intro x hx p hp k hk
  suffices hh : k ∈ e.reads ∨ (∃ q, e.val = q ∧ namesOnly op = true ∧ k ∈ q.keys) from hh.imp id fun ⟨q, h1, _, h2⟩ => h1 ▸ h2
  have viaOp : ∀ {xs : List Operand}, x ∈ xs → k ∈ opKeys σ xs := fun h => opKeys_sub h hp hk
  unfold opEff0 at h
  dsimp only at h hx
  split at h
  · simp [Op.operands] at hx
  · rename_i e0 y
    simp [Op.operands] at hx
    subst hx
    split at h
    · rename_i d q h1
      rw [hp] at h1; cases h1
      split at h
      · cases h; exact .inl (List.mem_cons_of_mem _ (mem_wide hk))
      · cases h
    · cases h
  · rename_i t len parts
    have hx' : x ∈ parts.toList.map (·.2) := by simpa [Op.operands] using hx
    split at h
    · split at h
      · split at h
        · cases h; exact .inl (List.mem_cons_of_mem _ (viaOp hx'))
        · cases h; exact .inl (List.mem_cons_of_mem _ (viaOp hx'))
      · cases h
    · cases h
  · rename_i t y z
    simp [Op.operands] at hx
    split at h
    · rename_i p1 q1 h1 h2
      split at h
      · cases h
        rcases hx with rfl | rfl
        · rw [hp] at h1; cases h1; exact .inl (List.mem_append_left _ (mem_wide hk))
        · rw [hp] at h2; cases h2; exact .inl (List.mem_append_right _ (mem_wide hk))
      · cases h
    · cases h
  · rename_i t y z u
    simp [Op.operands] at hx
    split at h
    · rename_i p1 q1 r1 h1 h2 h3
      split at h
      · cases h
        rcases hx with rfl | rfl | rfl
        · rw [hp] at h1; cases h1; exact .inl (List.mem_append_left _ (mem_wide hk))
        · rw [hp] at h2; cases h2; exact .inl (List.mem_append_right _ (List.mem_append_left _ (mem_wide hk)))
        · rw [hp] at h3; cases h3; exact .inl (List.mem_append_right _ (List.mem_append_right _ (mem_wide hk)))
      · cases h
    · cases h
  · rename_i c
    obtain ⟨callee, args, ats⟩ := c
    dsimp only at h
    split at h
    · split at h
      · rename_i s y t t' ha ht
        have hx' : x = s ∨ x = y := by
          have : x ∈ args.toList := by simpa [Op.operands, Call.operands] using hx
          rw [ha] at this
          simpa using this
        split at h
        · rename_i k' n p1 h1 h2
          split at h
          · split at h
            · split at h <;> cases h <;> rcases hx' with rfl | rfl
              · rw [hp] at h1; cases h1; exact .inl (List.mem_append_left _ (mem_wide (by simpa [PV.keys, PV.keys2, PV.keys1, PV.keys0] using hk)))
              · rw [hp] at h2; cases h2; exact .inl (List.mem_append_right _ (List.mem_append_left _ (mem_wide hk)))
              · rw [hp] at h1; cases h1; exact .inl (List.mem_append_left _ (mem_wide (by simpa [PV.keys, PV.keys2, PV.keys1, PV.keys0] using hk)))
              · rw [hp] at h2; cases h2; exact .inl (List.mem_append_right _ (mem_wide hk))
            · cases h
          · cases h
        · rename_i k' sz2 off n fl p1 h1 h2
          split at h
          · split at h
            · split at h <;> cases h <;> rcases hx' with rfl | rfl
              · rw [hp] at h1; cases h1; exact .inl (List.mem_append_left _ (mem_wide (by simpa [PV.keys, PV.keys2, PV.keys1, PV.keys0] using hk)))
              · rw [hp] at h2; cases h2; exact .inl (List.mem_append_right _ (mem_wide hk))
              · rw [hp] at h1; cases h1; exact .inl (List.mem_append_left _ (mem_wide (by simpa [PV.keys, PV.keys2, PV.keys1, PV.keys0] using hk)))
              · rw [hp] at h2; cases h2; exact .inl (List.mem_append_right _ (mem_wide hk))
            · cases h
          · cases h
        · rename_i sz xs p1 h1 h2
          split at h
          · split at h
            · cases h
              rcases hx' with rfl | rfl
              · rw [hp] at h1; cases h1; cases hk
              · rw [hp] at h2; cases h2; exact .inl (mem_wide hk)
            · cases h
          · cases h
        · cases h
      · cases h
    · have hx' : x ∈ args.toList := by simpa [Op.operands, Call.operands] using hx
      split at h
      · cases h; exact .inl (viaOp hx')
      · cases h
    · cases h
  · rename_i t l c
    have hx' : x ∈ [l, c] := by simpa [Op.operands] using hx
    split at h
    · split at h
      · split at h
        · cases h; exact .inl (List.mem_cons_of_mem _ (viaOp hx'))
        · cases h
      · cases h
    · cases h
  · split at h
    · rename_i cd q _
      cases h
      show k ∈ opReads σ op q ∨ _
      unfold opReads
      split
      · rename_i hc
        simp only [Bool.and_eq_true, List.all_eq_true, List.contains_eq_mem, decide_eq_true_eq] at hc
        exact .inr ⟨q, rfl, hc.1, hc.2 k (nameKeys_sub hx hp hk)⟩
      · split
        · exact .inl (nameKeys_sub hx hp hk)
        · exact .inl (viaOp hx)
    · cases h
theorem CallEff_reads {o : Oper} {e : Eff} (h : CallEff P tb o σ e) : ∀ x ∈ o.op.operands.toList, ∀ p, σ.ev x = some p → ∀ k ∈ p.keys, k ∈ e.reads := by
  obtain ⟨cl, g, as, q, h1, h2, h4, h5, h6, rfl⟩ := h
  intro x hx p hp k hk
  rw [h1] at hx
  exact List.mem_append_right _ (mem_wide (tgt_keys h2 x hx p hp k hk))
theorem CallN0_reads {o : Oper} {e : Eff} (h : CallN0 P tb o σ e) : ∀ x ∈ o.op.operands.toList, ∀ p, σ.ev x = some p → ∀ k ∈ p.keys, k ∈ e.reads := by
  obtain ⟨cl, g, as, r, h1, h2, h4, h5, h6, h7, rfl⟩ := h
  intro x hx p hp k hk
  rw [h1] at hx
  exact List.mem_append_left _ (List.mem_append_right _ (mem_wide (tgt_keys h2 x hx p hp k hk)))
theorem CallN0_set {o : Oper} {e : Eff} (h : CallN0 P tb o σ e) : ∀ j ∈ e.set.map (·.1), ∀ ob, look j σ.mem = some ob → ∀ k ∈ ob.keys, k ∈ e.reads := by
  obtain ⟨cl, g, as, r, h1, h2, h4, h5, h6, h7, rfl⟩ := h
  intro j hj ob hob k hk
  have hj : j ∈ (backMem (ofE (reach σ.mem as) (o.dst.getD 0)) (reach σ.mem as) r.ext ++ (newMem (ofE (reach σ.mem as) (o.dst.getD 0)) (o.dst.getD 0) 0 r.new ++ markSet σ.mem (grownKs (reach σ.mem as) r.ext).head?)).map (·.1) := hj
  rw [List.map_append, List.mem_append, List.map_append, List.mem_append] at hj
  rcases hj with hj | hj | hj
  · have hjr := backMem_keys hj
    unfold reachOk at h5
    simp only [Bool.and_eq_true, List.all_eq_true, List.contains_eq_mem, decide_eq_true_eq] at h5
    have := (h5.1.1.2 j hjr).2 k (by simp only [objKeys, hob]; exact hk)
    exact List.mem_append_left _ (List.mem_append_left _ (mem_wide this))
  · rw [newKeys_map] at hj
    rw [h7.1 j hj] at hob
    cases hob
  · rw [(markSet_keys hj).2] at hob
    cases hob
theorem CallEffN_reads {o : Oper} {e : Eff} (h : CallEffN P tb o σ e) : ∀ x ∈ o.op.operands.toList, ∀ p, σ.ev x = some p → ∀ k ∈ p.keys, k ∈ e.reads := by
  obtain ⟨l, e0, h1, rfl⟩ := h
  exact fun x hx p hp k hk => more_val.2.2.2.2 k (CallN0_reads h1 x hx p hp k hk)
theorem CallEffN_set {o : Oper} {e : Eff} (h : CallEffN P tb o σ e) : ∀ j ∈ e.set.map (·.1), ∀ ob, look j σ.mem = some ob → ∀ k ∈ ob.keys, k ∈ e.reads := by
  obtain ⟨l, e0, h1, rfl⟩ := h
  exact fun j hj ob hob k hk => more_val.2.2.2.2 k (CallN0_set h1 j (by rw [more_val.2.1] at hj; exact hj) ob hob k hk)
theorem opEff0_set {o : Oper} {e : Eff} (h : opEff0 tb o σ = some e) : ∀ j ∈ e.set.map (·.1), ∀ ob, look j σ.mem = some ob → ∀ k ∈ ob.keys, k ∈ e.reads := by
  obtain ⟨dst, op, ty, pos, after, guard⟩ := o
  intro j hj ob hob k hk
  unfold opEff0 at h
  dsimp only at h
  split at h
  · split at h
    · split at h
      · rename_i d ti h1 h2
        cases h
        simp at hj; subst hj
        rw [hob] at h2; cases h2
      · cases h
    · cases h
  · split at h
    · split at h
      · rename_i d q h1 h2
        cases h
        simp at hj; subst hj
        rw [hob] at h2; cases h2
      · cases h
    · cases h
  · split at h
    · split at h
      · rename_i d _ _ _ _ h2
        split at h
        · cases h
          simp at hj; subst hj
          rw [hob] at h2; cases h2
        · cases h
          simp at hj; subst hj
          rw [hob] at h2; cases h2
      · cases h
    · cases h
  · rename_i t y z
    split at h
    · rename_i p1 q1 h1 h2
      split at h
      · rename_i c k' ob' tl h3
        cases h
        simp at hj; subst hj
        unfold vStoreR at h3
        split at h3
        · split at h3
          · rename_i g2
            split at h3
            · split at h3
              · cases h3
                rw [hob] at g2; cases g2
                cases hk
              · cases h3
            · cases h3
          · rename_i g2
            split at h3
            · split at h3
              · cases h3
                refine List.mem_append_left _ ?_
                unfold wide
                refine List.mem_append_right _ ?_
                rw [List.mem_flatMap]
                exact ⟨j, by simp [PV.keys, PV.keys2, PV.keys1, PV.keys0], by unfold objKeys; rw [hob]; exact hk⟩
              · cases h3
            · cases h3
          · cases h3
        unfold vStore at h3
        split at h3
        · rename_i kk off i hi
          split at h3
          · split at h3
            · cases h3
              refine List.mem_append_left _ ?_
              unfold wide
              refine List.mem_append_right _ ?_
              rw [List.mem_flatMap]
              exact ⟨j, by simp [PV.keys, PV.keys2, PV.keys1, PV.keys0], by unfold objKeys; rw [hob]; exact hk⟩
            · cases h3
          · cases h3
        · cases h3
      · cases h
    · cases h
  · split at h
    · rename_i p1 q1 r1 h1 h2 h4
      split at h
      · rename_i k' ob' tl h3
        cases h
        simp at hj; subst hj
        unfold vUpdate at h3
        split at h3
        · split at h3
          · rename_i g1 g2
            split at h3
            · cases h3
              rw [hob] at g2; cases g2
              cases hk
            · cases h3
          · cases h3
        · cases h3
      · cases h
    · cases h
  · split at h
    · split at h
      · split at h
        · rename_i k' n p1 h1 h2
          split at h
          · rename_i e1 sz xs l h3
            split at h
            · split at h <;> cases h
              · rcases List.mem_cons.1 hj with hj | hj
                · subst hj
                  rw [h3] at hob; cases hob
                  cases hk
                · rw [(markSet_keys hj).2] at hob
                  cases hob
              · simp at hj; subst hj
                rw [h3] at hob; cases hob
                cases hk
            · cases h
          · cases h
        · split at h
          · rename_i e1 sz xs h3
            split at h
            · split at h <;> cases h <;>
                (simp at hj; subst hj
                 rw [h3] at hob; cases hob
                 cases hk)
            · cases h
          · cases h
        · split at h
          · split at h
            · cases h; simp at hj
            · cases h
          · cases h
        · cases h
      · cases h
    · split at h
      · cases h; simp at hj
      · cases h
    · cases h
  · split at h
    · rename_i d _ _ _ _
      split at h
      · split at h
        · rename_i h2
          cases h
          simp at hj; subst hj
          rw [hob] at h2; cases h2
        · cases h
      · cases h
    · cases h
  · split at h
    · cases h; simp at hj
    · cases h

theorem opEff_reads {o : Oper} {e : Eff} (h : opEff tb o σ = some e) : ∀ x ∈ o.op.operands.toList, ∀ p, σ.ev x = some p → ∀ k ∈ p.keys, k ∈ e.reads ∨ k ∈ e.val.keys := by
  unfold opEff at h
  split at h
  · obtain ⟨e0, h1, h2⟩ := Option.bind_eq_some_iff.1 h
    obtain ⟨k, n, t, sz, xs, l, r, g1, g2, g3, g4, g5, rfl⟩ := leakE_spec h2
    intro x hx p hp j hj
    rcases opEff0_reads h1 x hx p hp j hj with h | h
    · exact .inl h
    · rw [g1] at h
      have : j = k := by simpa [PV.keys, PV.keys2, PV.keys1, PV.keys0] using h
      exact .inl (this ▸ g5)
  · exact opEff0_reads h
theorem opEff_set {o : Oper} {e : Eff} (h : opEff tb o σ = some e) : ∀ j ∈ e.set.map (·.1), ∀ ob, look j σ.mem = some ob → ∀ k ∈ ob.keys, k ∈ e.reads := by
  unfold opEff at h
  split at h
  · obtain ⟨e0, h1, h2⟩ := Option.bind_eq_some_iff.1 h
    obtain ⟨k, n, t, sz, xs, l, r, g1, g2, g3, g4, g5, rfl⟩ := leakE_spec h2
    intro j hj
    exact opEff0_set h1 j (by rw [g2]; exact hj)
  · exact opEff0_set h

theorem OwnEff_reads {o : Oper} {e : Eff} (h : OwnEff tb o σ e) : ∀ x ∈ o.op.operands.toList, ∀ p, σ.ev x = some p → ∀ k ∈ p.keys, k ∈ e.reads ∨ k ∈ e.val.keys := by
  obtain ⟨l, e0, h1, rfl⟩ := h
  intro x hx p hp k hk
  rw [more_val.1]
  exact (opEff_reads h1 x hx p hp k hk).imp (more_val.2.2.2.2 k) id
theorem OwnEff_set {o : Oper} {e : Eff} (h : OwnEff tb o σ e) : ∀ j ∈ e.set.map (·.1), ∀ ob, look j σ.mem = some ob → ∀ k ∈ ob.keys, k ∈ e.reads := by
  obtain ⟨l, e0, h1, rfl⟩ := h
  exact fun j hj ob hob k hk => more_val.2.2.2.2 k (opEff_set h1 j (by rw [more_val.2.1] at hj; exact hj) ob hob k hk)

theorem indep_spec (h : indep ops oi oj Ei Ej = true) : (∀ d, oi.dst = some d → d ∉ oslots oj ∧ d ∉ gslots ops oj) ∧ (∀ d, oj.dst = some d → d ∉ oslots oi ∧ d ∉ gslots ops oi) ∧ (∀ d, oi.dst = some d → oj.dst ≠ some d) ∧ disj Ei.foot Ej.writes = true ∧ disj Ei.writes Ej.foot = true ∧ disj Ei.names Ej.kill.toList = true ∧ disj Ei.kill.toList Ej.names = true ∧ (clearB Ei Ej || loadB oi Ei) = true ∧ (clearB Ej Ei || loadB oj Ej) = true := by
  unfold indep at h
  simp only [Bool.and_eq_true] at h
  obtain ⟨⟨⟨⟨⟨⟨⟨⟨h1, h2⟩, h3⟩, h4⟩, h5⟩, h6⟩, h7⟩, h8⟩, h9⟩ := h
  refine ⟨fun d hd => ?_, fun d hd => ?_, fun d hd => ?_, h4, h5, h6, h7, h8, h9⟩
  · rw [hd] at h1; simpa using h1
  · rw [hd] at h2; simpa using h2
  · rw [hd] at h3
    intro e
    rw [e] at h3
    simp at h3
theorem effAt_wanted {o : Oper} {e : Eff} (h : EffAt P tb ops o σ e) : ∃ b, wantedS ops σ o = some b := by
  rcases h.2 with ⟨h1, _⟩ | ⟨h1, _⟩
  · exact ⟨_, h1⟩
  · exact ⟨_, h1⟩
theorem guard_bool {o : Oper} {b : Bool} (h : wantedS ops σ o = some b) : ∀ t ∈ gslots ops o, ∃ c, look t σ.slots = some (.d (.v c)) := by
  intro t ht
  unfold wantedS at h
  unfold gslots at ht
  cases hg : o.guard with
  | none => rw [hg] at ht; cases ht
  | some g =>
    obtain ⟨j, want⟩ := g
    rw [hg] at h ht
    dsimp only at h ht
    cases hd : (ops[j]?).bind (·.dst) with
    | none => rw [hd] at ht; cases ht
    | some d =>
      rw [hd] at h ht
      simp at ht
      subst ht
      dsimp only at h
      split at h
      · rename_i c hc; exact ⟨_, hc⟩
      · rename_i c hc; exact ⟨_, hc⟩
      · cases h
theorem known_slot {o : Oper} (h : opsKnown σ o.op.operands.toList = true) : ∀ t ∈ oslots o, ∃ p, look t σ.slots = some p ∧ p ≠ .any ∧ ∃ x ∈ o.op.operands.toList, σ.ev x = some p := by
  intro t ht
  obtain ⟨x, hx, he⟩ := List.mem_filterMap.1 ht
  have h1 := List.all_eq_true.1 h x hx
  cases x with
  | tmp t' =>
    cases he
    have e1 : σ.ev (.tmp t) = look t σ.slots := rfl
    rw [e1] at h1
    cases hl : look t σ.slots with
    | none => rw [hl] at h1; cases h1
    | some p =>
      rw [hl] at h1
      exact ⟨p, rfl, (by rintro rfl; cases h1), _, hx, e1.trans hl⟩
  | _ => cases he

theorem EffAt_set {o : Oper} {e : Eff} (h : EffAt P tb ops o σ e) : ∀ j ∈ e.set.map (·.1), ∀ ob, look j σ.mem = some ob → ∀ k ∈ ob.keys, k ∈ e.reads := by
  intro j hjs ob hj k hkk
  rcases h.2 with ⟨_, _, _, h3 | h3 | h3⟩ | ⟨_, h3⟩
  · exact OwnEff_set h3 j hjs ob hj k hkk
  · obtain ⟨_, _, _, _, _, _, _, _, _, _, _, _, _, rfl⟩ := h3
    simp at hjs
  · exact CallEffN_set h3 j hjs ob hj k hkk
  · subst h3; simp [idleEff] at hjs
theorem eff_fwd (h : EffAt P tb ops oi σ Ei) (hEj : EffAt P tb ops oj σ Ej) (hi : indep ops oi oj Ei Ej = true) : EffAt P tb ops oi (app σ oj.dst Ej) Ei := by
  obtain ⟨i1, i2, i3, i4, i5, i6, i7, i8, i9⟩ := indep_spec hi
  obtain ⟨b, hb⟩ := effAt_wanted h
  have hG : ∀ t ∈ gslots ops oi, look t (app σ oj.dst Ej).slots = look t σ.slots := fun t ht => by
    obtain ⟨c, hc⟩ := guard_bool hb t ht
    rw [slots_app fun x hx e => (i2 x hx).2 (e ▸ ht), hc]
    exact congrArg some (kill_keep fun k _ => by simp [PV.keys, PV.keys2, PV.keys1, PV.keys0])
  have hO : wantedS ops σ oi = some true → ∀ t ∈ oslots oi, look t (app σ oj.dst Ej).slots = look t σ.slots := fun hw t ht => by
    rcases h.2 with ⟨_, h2, _, h3⟩ | ⟨h2, _⟩
    · obtain ⟨p, hp, _, x, hx, hxe⟩ := known_slot h2 t ht
      have hr : ∀ k ∈ p.keys, k ∈ Ei.reads ∨ k ∈ Ei.val.keys := by
        rcases h3 with h3 | h3 | h3
        · exact OwnEff_reads h3 x hx p hxe
        · exact fun k hk => .inl (CallEff_reads h3 x hx p hxe k hk)
        · exact fun k hk => .inl (CallEffN_reads h3 x hx p hxe k hk)
      rw [slots_app fun x hx e => (i2 x hx).1 (e ▸ ht), hp]
      refine congrArg some (kill_keep fun k hk hkp => ?_)
      rcases hr k hkp with hr | hr
      · exact disj_spec i4 (List.mem_append_left _ hr) (List.mem_append_right _ hk)
      · exact disj_spec i6 (List.mem_append_left _ hr) hk
    · rw [hw] at h2; cases h2
  rcases (Bool.or_eq_true _ _).mp i8 with i8 | i8
  · refine EffAt_local (σ := σ) rfl hG hO (fun k hk => mem_keep (hit_of hEj) (clear_spec i8 (List.mem_append_left _ hk)) fun hkw => disj_spec i4 (List.mem_append_left _ hk) hkw) (fun hu => ?_) h
    intro k hK j ob hj hkk
    have hkw : k ∈ Ei.kill.toList := by rw [hK]; simp
    rw [show (app σ oj.dst Ej).mem = Ej.set ++ eraseN? Ej.kill σ.mem from rfl, look_app] at hj
    split at hj
    · rename_i q hq
      cases hj
      refine (disj_spec i7 hkw (List.mem_append_right _ ?_)).elim
      rw [List.mem_flatMap]
      exact ⟨_, look_mem hq, hkk⟩
    · rw [look_eraseN?] at hj
      obtain ⟨ob0, h0, rfl⟩ := Option.map_eq_some_iff.1 hj
      cases hKj : Ej.kill with
      | none =>
        rw [hKj] at hkk
        exact hu k hK j ob0 h0 hkk
      | some l =>
        rw [hKj] at hkk
        refine (hu k hK j ob0 h0 (keys_erase hkk)).imp id fun ⟨h1, h2⟩ => ⟨h1, fun x hx => h2 x (co_erase hx)⟩
  · have hL : loadsOnly oi.op = true := ((Bool.and_eq_true _ _).mp i8).1
    exact load_local (σ := σ) hL rfl hG hO (.inl ⟨fun k hk => mem_app fun hkw => disj_spec i4 (List.mem_append_left _ hk) hkw, fun k hk hkv => disj_spec i6 (List.mem_append_left _ hkv) hk⟩) h
theorem eff_bwd (hEi : EffAt P tb ops oi σ Ei) (h : EffAt P tb ops oj (app σ oi.dst Ei) Ej) (hi : indep ops oi oj Ei Ej = true) : EffAt P tb ops oj σ Ej := by
  obtain ⟨i1, i2, i3, i4, i5, i6, i7, i8, i9⟩ := indep_spec hi
  obtain ⟨b, hb⟩ := effAt_wanted h
  have hG : ∀ t ∈ gslots ops oj, look t σ.slots = look t (app σ oi.dst Ei).slots := fun t ht => by
    obtain ⟨c, hc⟩ := guard_bool hb t ht
    have hs := slots_app (σ := σ) (d := oi.dst) (e := Ei) (t := t) fun x hx e => (i1 x hx).2 (e ▸ ht)
    rw [hs] at hc ⊢
    obtain ⟨p, hp, he⟩ := Option.map_eq_some_iff.1 hc
    rw [hp, Option.map_some, kill_back (by rw [he]; simp)]
  have hO : wantedS ops (app σ oi.dst Ei) oj = some true → ∀ t ∈ oslots oj, look t σ.slots = look t (app σ oi.dst Ei).slots := fun hw t ht => by
    rcases h.2 with ⟨_, h2, _, h3⟩ | ⟨h2, _⟩
    · obtain ⟨p, hp, hne, x, hx, hxe⟩ := known_slot h2 t ht
      have hs := slots_app (σ := σ) (d := oi.dst) (e := Ei) (t := t) fun x hx e => (i1 x hx).1 (e ▸ ht)
      rw [hs] at hp ⊢
      obtain ⟨q, hq, he⟩ := Option.map_eq_some_iff.1 hp
      rw [hq, Option.map_some, kill_back (by rw [he]; exact hne)]
    · rw [hw] at h2; cases h2
  have hM : ∀ k ∈ Ej.reads, k ∉ Ei.writes := fun k hk hkw => disj_symm i5 (List.mem_append_left _ hk) hkw
  rcases (Bool.or_eq_true _ _).mp i9 with i9 | i9
  · refine EffAt_local (σ := app σ oi.dst Ei) rfl hG hO (fun k hk => (mem_keep (hit_of hEi) (clear_spec i9 (List.mem_append_left _ hk)) (hM k hk)).symm) (fun hu => ?_) h
    intro k hK j ob hj hkk
    have hkw : k ∈ Ej.writes := List.mem_append_right _ (by rw [hK]; simp)
    by_cases hjs : j ∈ Ei.set.map (·.1)
    · exact (disj_symm i4 hkw (List.mem_append_left _ (EffAt_set hEi j hjs ob hj k hkk))).elim
    · have hm : look j (app σ oi.dst Ei).mem = some (killO Ei.kill ob) := by
        show look j (Ei.set ++ eraseN? Ei.kill σ.mem) = _
        rw [look_app, look_none_of hjs]
        show look j (eraseN? Ei.kill σ.mem) = _
        rw [look_eraseN?, hj]; rfl
      cases hKi : Ei.kill with
      | none =>
        rw [hKi] at hm
        exact hu k hK j ob hm hkk
      | some l =>
        rw [hKi] at hm
        have hno : k ∉ coKeys l ob := fun hc => by
          have hlk : l ∈ ob.keys := by
            rw [co_cells, mem_coC] at hc
            obtain ⟨p, hp, h1, _⟩ := hc
            rw [keys_cells, List.mem_flatMap]
            exact ⟨p, hp, h1⟩
          rcases hit_of hEi l hKi j ob hj hlk with h1 | ⟨_, h1⟩
          · exact hjs h1
          · exact disj_symm i4 hkw (List.mem_append_left _ (h1 k hc))
        have hkk' : k ∈ (eraseN l ob).keys := by
          rw [keys_cells, List.mem_flatMap] at hkk ⊢
          obtain ⟨p, hp, h1⟩ := hkk
          exact ⟨p, erase_stays hno hp h1, h1⟩
        refine (hu k hK j _ hm hkk').imp id fun ⟨h1, h2⟩ => ⟨h1, fun x hx => h2 x ?_⟩
        rw [co_cells, mem_coC] at hx ⊢
        obtain ⟨p, hp, h3, h4⟩ := hx
        exact ⟨p, erase_stays hno hp h3, h3, h4⟩
  · have hL := (Bool.and_eq_true _ _).mp i9
    exact load_local (σ := app σ oi.dst Ei) hL.1 rfl hG hO (.inr ⟨fun k hk => mem_app (hM k hk), hL.2⟩) h
theorem app_comm (hi : indep ops oi oj Ei Ej = true) : Equ (app (app σ oi.dst Ei) oj.dst Ej) (app (app σ oj.dst Ej) oi.dst Ei) := by
  obtain ⟨i1, i2, i3, i4, i5, i6, i7, _, _⟩ := indep_spec hi
  have vj : killP Ei.kill Ej.val = Ej.val := kill_keep fun k hk hkv => disj_spec i7 hk (List.mem_append_left _ hkv)
  have vi : killP Ej.kill Ei.val = Ei.val := kill_keep fun k hk hkv => disj_spec i6 (List.mem_append_left _ hkv) hk
  have at_ : ∀ (σ : Sta) (d : Nat) (e : Eff), look d (app σ (some d) e).slots = some e.val := fun σ d e => by
    show look d ((d, e.val) :: _) = _
    unfold look; rw [if_pos rfl]
  refine ⟨rfl, fun t => ?_, fun k => ?_⟩
  · by_cases hj : oj.dst = some t
    · have hni : ∀ x, oi.dst = some x → t ≠ x := fun x hx e => i3 x hx (e ▸ hj)
      rw [slots_app hni, hj, at_, at_, Option.map_some, vj]
    · have hnj : ∀ x, oj.dst = some x → t ≠ x := fun x hx e => hj (e ▸ hx)
      by_cases hi' : oi.dst = some t
      · rw [slots_app (σ := app σ oi.dst Ei) hnj, hi', at_, at_, Option.map_some, vi]
      · have hni : ∀ x, oi.dst = some x → t ≠ x := fun x hx e => hi' (e ▸ hx)
        rw [slots_app hni, slots_app hnj, slots_app hnj, slots_app hni]
        cases look t σ.slots with
        | none => rfl
        | some p => exact congrArg some kill_comm
  · show look k (Ei.set ++ eraseN? Ei.kill (Ej.set ++ eraseN? Ej.kill σ.mem)) = look k (Ej.set ++ eraseN? Ej.kill (Ei.set ++ eraseN? Ei.kill σ.mem))
    have inSet : ∀ {e : Eff} {o : MObj}, look k e.set = some o → ∀ j ∈ o.keys, j ∈ e.names := fun h j hj => List.mem_append_right _ (List.mem_flatMap.2 ⟨_, look_mem h, hj⟩)
    rw [look_app, look_app, look_eraseN?, look_eraseN?, look_app, look_app, look_eraseN?, look_eraseN?]
    cases h1 : look k Ei.set with
    | some o =>
      have hk1 : k ∈ Ei.writes := List.mem_append_left _ (List.mem_map.2 ⟨_, look_mem h1, rfl⟩)
      have : look k Ej.set = none := look_none_of fun hk2 => disj_spec i5 hk1 (List.mem_append_right _ (List.mem_append_left _ hk2))
      rw [this]
      exact congrArg some (killO_keep fun j hj hjo => disj_spec i6 (inSet h1 j hjo) hj).symm
    | none =>
      cases h2 : look k Ej.set with
      | some o => exact congrArg some (killO_keep fun j hj hjo => disj_spec i7 hj (inSet h2 j hjo))
      | none =>
        dsimp only
        cases look k σ.mem with
        | none => rfl
        | some o => exact congrArg some killO_comm
end
end Go.Proofs.YtplooifpgmlofaaGreat
