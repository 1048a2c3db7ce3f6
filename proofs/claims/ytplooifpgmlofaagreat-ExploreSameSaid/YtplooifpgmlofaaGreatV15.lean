/- The end of a function, and its contract. No condition. -/
import Derived.Test.YtplooifpgmlofaaGreatV14c
namespace Go.Proofs.YtplooifpgmlofaaGreat
open Go.RowKit

section
variable {P : Program} {tb : Tab} {B : Base} {m : Map} {S : Cells} {σ σ' : Sta} {a : Act} {w : World}

theorem loadAt_var {t : Nat} {u v : Value} (h : (Instr.loadAt t u).run P w = .ok v w) : ∃ ad, u = .pointer (some ad) ∧ (loadVar t ad).run P w = .ok v w := by
  cases u with
  | pointer ad =>
    cases ad with
    | some ad => exact ⟨ad, rfl, by simpa [Instr.loadAt, Instr.sureAddr] using h⟩
    | none => simp [Instr.loadAt, Instr.sureAddr, stuck, Sem.run] at h
  | _ => simp [Instr.loadAt, Instr.sureAddr, stuck, Sem.run] at h

theorem asAddr_ptr (ad : Addr) : asAddr (.pointer (some ad)) = pure ad := rfl
theorem resVals_ok (hT : TabOk P tb) (h : Sim B m S σ a w) : ∀ {rs : List ResultVar} {c : Prop} {ps : List PV}, resVals tb σ rs = some (c, ps) → c →
    ∃ vs : List Value, All2 (Rep m w S) vs ps ∧ ps.all PV.is2 = true ∧ (rs.mapM (m := Sem) fun
      | .tmp t => pure (a.tmps.getD t undef)
      | .cell x t => do loadVar t (← asAddr (a.tmps.getD x undef))).run P w = .ok vs w
  | [], c, ps, hr, hc => by cases hr; exact ⟨[], trivial, rfl, rfl⟩
  | .tmp t :: r, c, ps, hr, hc => by
    unfold resVals at hr
    split at hr
    · rename_i p c' ps' h1 h2
      split at hr
      · rename_i hp
        cases hr
        obtain ⟨vs, g1, g2, g3⟩ := resVals_ok hT h h2 hc
        obtain ⟨v, hv, hrep⟩ := h.slots t p h1
        have e : a.tmps.getD t undef = v := by simp [Array.getD_eq_getD_getElem?, hv]
        refine ⟨v :: vs, ⟨hrep, g1⟩, by simp only [List.all_cons, hp, g2, Bool.and_self], ?_⟩
        simp only [List.mapM_cons, Sem.run_bind, Sem.run_pure, Result.andThen_ok, e, g3]
      · cases hr
    · cases hr
  | .cell x t :: r, c, ps, hr, hc => by
    unfold resVals at hr
    split at hr
    · rename_i p c' ps' h1 h2
      split at hr
      · rename_i c2 q h3
        split at hr
        · rename_i hp
          cases hr
          obtain ⟨vs, g1, g2, g3⟩ := resVals_ok hT h h2 hc.2
          obtain ⟨v, hv, hrep⟩ := h.slots x p h1
          have e : a.tmps.getD x undef = v := by simp [Array.getD_eq_getD_getElem?, hv]
          obtain ⟨u, k1, k2⟩ := vLoad_ok (P := P) hT h h3 hc.1 hrep
          obtain ⟨ad, rfl, k3⟩ := loadAt_var k1
          refine ⟨u :: vs, ⟨k2, g1⟩, by simp only [List.all_cons, hp, g2, Bool.and_self], ?_⟩
          simp only [List.mapM_cons, Sem.run_bind, Sem.run_pure, Result.andThen_ok, e, asAddr_ptr, k3, g3]
        · cases hr
      · cases hr
    · cases hr

theorem viewR1_ok {nk : List Nat} (h : Sim B m S σ a w) {v : Value} {p : PV} (hv : Rep1 m w S v p) (hc : (viewR1 nk σ.mem p).1) :
    ∃ S', Sim B m S' { σ with mem := (viewR1 nk σ.mem p).2.1 } a w ∧ (∀ b o, S b o → S' b o) ∧ Rep1 m w S' v (viewR1 nk σ.mem p).2.2 := by
  unfold viewR1 at hc ⊢
  split at hc
  · rename_i k n
    split at hc
    · rename_i hk
      simp only [hk, if_true]
      exact ⟨S, h, fun _ _ hs => hs, hv⟩
    · rename_i hk
      simp only [hk]
      exact view1_ok h hv hc
  · exact view1_ok h hv hc
theorem viewRL_ok {nk : List Nat} : ∀ {ps : List PV} {σ : Sta} {S : Cells} {vs : List Value}, Sim B m S σ a w → All2 (Rep1 m w S) vs ps → (viewRL nk σ.mem ps).1 →
    ∃ S', Sim B m S' { σ with mem := (viewRL nk σ.mem ps).2.1 } a w ∧ (∀ b o, S b o → S' b o) ∧ All2 (Rep1 m w S') vs (viewRL nk σ.mem ps).2.2
  | [], σ, S, [], h, _, _ => ⟨S, h, fun _ _ hs => hs, trivial⟩
  | p :: ps, σ, S, v :: vs, h, ⟨h1, h2⟩, ⟨c1, c2⟩ => by
    obtain ⟨S1, g1, g2, g3⟩ := viewR1_ok h h1 c1
    obtain ⟨S2, k1, k2, k3⟩ := viewRL_ok (ps := ps) (vs := vs) g1 (h2.imp fun _ _ _ hr => Rep1.keep g2 (fun _ _ _ => rfl) (fun _ _ _ hl => hl) hr) c2
    exact ⟨S2, k1, fun b o hs => k2 b o (g2 b o hs), Rep1.keep k2 (fun _ _ _ => rfl) (fun _ _ _ hl => hl) g3, k3⟩
  | [], _, _, _ :: _, _, h, _ => h.elim
  | _ :: _, _, _, [], _, h, _ => h.elim
theorem viewR_ok {nk : List Nat} (h : Sim B m S σ a w) {v : Value} {p : PV} (hv : Rep m w S v p) (hp : p.is2 = true) (hc : (viewR nk σ.mem p).1) :
    ∃ S', Sim B m S' { σ with mem := (viewR nk σ.mem p).2.1 } a w ∧ (∀ b o, S b o → S' b o) ∧ Rep m w S' v (viewR nk σ.mem p).2.2 := by
  have hv2 := Rep2.of hv hp
  have fin : ∀ q, Rep1 m w S v q → (viewR1 nk σ.mem q).1 → ∃ S', Sim B m S' { σ with mem := (viewR1 nk σ.mem q).2.1 } a w ∧ (∀ b o, S b o → S' b o) ∧ Rep m w S' v (viewR1 nk σ.mem q).2.2 := fun q hq hc => by
    obtain ⟨S', k1, k2, k3⟩ := viewR1_ok h hq hc
    exact ⟨S', k1, k2, Rep.of2 (Rep2.of1 k3)⟩
  cases p with
  | agg cs =>
    obtain ⟨vs, rfl, ha⟩ := hv2
    obtain ⟨S', h1, h2, h3⟩ := viewRL_ok h ha hc
    exact ⟨S', h1, h2, Rep.of2 (v := .agg vs.toArray) (p := .agg _) ⟨vs, rfl, h3⟩⟩
  | d x => exact fin (.d x) hv2 hc
  | tup cs => cases hp
  | rw k n => exact fin (.rw k n) hv2 hc
  | ptr k off => exact fin (.ptr k off) hv2 hc
  | rp k sz i off => exact fin (.rp k sz i off) hv2 hc
  | rs k sz off n fl => exact fin (.rs k sz off n fl) hv2 hc
  | ep row off => exact fin (.ep row off) hv2 hc
  | mp k => exact fin (.mp k) hv2 hc
  | ifc t k => exact fin (.ifc t k) hv2 hc
  | fd sz xs => exact fin (.fd sz xs) hv2 hc
  | clo f cs => exact fin (.clo f cs) hv2 hc
  | any => exact fin .any hv2 hc
theorem viewRs_ok {nk : List Nat} : ∀ {ps : List PV} {σ : Sta} {S : Cells} {vs : List Value}, Sim B m S σ a w → All2 (Rep m w S) vs ps → ps.all PV.is2 = true → (viewRs nk σ.mem ps).1 →
    ∃ S', Sim B m S' { σ with mem := (viewRs nk σ.mem ps).2.1 } a w ∧ (∀ b o, S b o → S' b o) ∧ All2 (Rep m w S') vs (viewRs nk σ.mem ps).2.2
  | [], σ, S, [], h, _, _, _ => ⟨S, h, fun _ _ hs => hs, trivial⟩
  | p :: ps, σ, S, v :: vs, h, ⟨h1, h2⟩, ha, ⟨c1, c2⟩ => by
    simp only [List.all_cons, Bool.and_eq_true] at ha
    obtain ⟨S1, g1, g2, g3⟩ := viewR_ok h h1 ha.1 c1
    obtain ⟨S2, k1, k2, k3⟩ := viewRs_ok (ps := ps) (vs := vs) g1 (h2.imp fun _ _ _ hr => hr.keep g2 (fun _ _ _ => rfl) (fun _ _ _ hl => hl)) ha.2 c2
    exact ⟨S2, k1, fun b o hs => k2 b o (g2 b o hs), g3.keep k2 (fun _ _ _ => rfl) (fun _ _ _ hl => hl), k3⟩
  | [], _, _, _ :: _, _, h, _, _ => h.elim
  | _ :: _, _, _, [], _, h, _, _ => h.elim
theorem viewR1_is2 {nk : List Nat} {mem : Mem} {p : PV} (hp : p.is2 = true) : (viewR1 nk mem p).2.2.is2 = true := by
  unfold viewR1
  split
  · split
    · rfl
    · unfold view1
      dsimp only
      split <;> (try split) <;> rfl
  · unfold view1
    split
    · split <;> (try split) <;> rfl
    · split <;> (try split) <;> rfl
    · rfl
    · exact hp
theorem viewR_is2 {nk : List Nat} {mem : Mem} {p : PV} (hp : p.is2 = true) : (viewR nk mem p).2.2.is2 = true := by
  unfold viewR
  split
  · rfl
  · exact viewR1_is2 hp
theorem viewRs_is2 {nk : List Nat} : ∀ {ps : List PV} {mem : Mem}, ps.all PV.is2 = true → (viewRs nk mem ps).2.2.all PV.is2 = true
  | [], _, _ => rfl
  | p :: ps, mem, h => by
    simp only [List.all_cons, Bool.and_eq_true] at h
    unfold viewRs
    simp only [List.all_cons, Bool.and_eq_true]
    exact ⟨viewR_is2 h.1, viewRs_is2 h.2⟩
theorem exts_get {mem : Mem} : ∀ {n k i : Nat}, i < n → (exts mem n k)[i]? = some (extO mem (k + i))
  | n + 1, k, 0, _ => rfl
  | n + 1, k, i + 1, h => by
    unfold exts
    rw [List.getElem?_cons_succ, exts_get (by omega), show k + 1 + i = k + (i + 1) from by omega]
theorem exts_len {mem : Mem} : ∀ {n k : Nat}, (exts mem n k).length = n
  | 0, _ => rfl
  | n + 1, k => by unfold exts; rw [List.length_cons, exts_len]

theorem look_le : ∀ {as bs : List MObj} {k j : Nat}, All2 LeO as bs → (∀ o, look j (extMem k bs) = some o → ∃ o', look j (extMem k as) = some o' ∧ LeO o' o) ∧ ((look j (extMem k as)).isSome = (look j (extMem k bs)).isSome)
  | [], [], k, j, _ => ⟨(fun o h => by cases h), rfl⟩
  | a :: as, b :: bs, k, j, ⟨h1, h2⟩ => by
    obtain ⟨g1, g2⟩ := look_le (k := k + 1) (j := j) h2
    show (∀ o, (if j = k then some b else look j (extMem (k + 1) bs)) = some o → ∃ o', (if j = k then some a else look j (extMem (k + 1) as)) = some o' ∧ LeO o' o) ∧ ((if j = k then some a else look j (extMem (k + 1) as)).isSome = (if j = k then some b else look j (extMem (k + 1) bs)).isSome)
    by_cases hk : j = k
    · simp only [if_pos hk]
      exact ⟨fun o h => ⟨a, rfl, by cases h; exact h1⟩, rfl⟩
    · simp only [if_neg hk]
      exact ⟨g1, g2⟩
  | [], _ :: _, _, _, h => h.elim
  | _ :: _, [], _, _, h => h.elim
theorem ObjOk.toGrown {k : Nat} {o : MObj} (h : ObjOk m w S k o) : ObjOk m w S k (toGrown o) := by
  cases o with
  | row t sz xs l => cases l <;> exact h
  | _ => exact h
theorem ObjOk.extO {k : Nat} {mem : Mem} {o : MObj} (ho : look k mem = some o) (h : ObjOk m w S k o) : ObjOk m w S k (extO mem k) := by
  unfold YtplooifpgmlofaaGreat.extO
  rw [ho, Option.getD_some]
  cases moved mem k
  · exact h
  · exact h.toGrown
theorem extO_nest {k : Nat} {mem : Mem} {o : MObj} {f : Nat → Nat} (ho : look k mem = some o) (hn : isNest o = true) : isNest ((extO mem k).ren f) = true := by
  unfold extO
  rw [ho]
  cases o with
  | nest t sz xs pr cs foc => cases moved mem k <;> rfl
  | sys H => cases moved mem k <;> rfl
  | _ => cases hn
theorem extO_keys {k : Nat} {mem : Mem} {o : MObj} (ho : look k mem = some o) : (extO mem k).keys = o.keys := by
  unfold extO
  rw [ho, Option.getD_some]
  cases moved mem k
  · rfl
  · cases o with
    | row t sz xs l => cases l <;> rfl
    | _ => rfl
theorem grown_le {o o' : MObj} {f : Nat → Nat} (h : isGrown o = true) (hl : LeO (o.ren f) o') : isGrown o' = true := by
  cases o with
  | grown t sz xs =>
    have hl : MObj.grown t sz xs = o' := by cases o' <;> exact hl
    rw [← hl]; rfl
  | _ => cases h
theorem MemOk.leExt {m' : Map} {S' : Cells} {w' : World} {e n e' n' : List MObj} (h : MemOk B m' S' (extMem 1000000 e ++ extMem 2000000 n) w') (he : All2 LeO e e') (hn : All2 LeO n n') : MemOk B m' S' (extMem 1000000 e' ++ extMem 2000000 n') w' := by
  have more : ∀ {k}, (look k (extMem 1000000 e ++ extMem 2000000 n)).isSome = true → (look k (extMem 1000000 e' ++ extMem 2000000 n')).isSome = true := fun {k} h1 => by
    have e1 := (look_le (k := 1000000) (j := k) he).2
    have e2 := (look_le (k := 2000000) (j := k) hn).2
    rw [look_app] at h1
    cases hl : look k (extMem 1000000 e) with
    | some q => exact some_or (.inl (by rw [← e1, hl]; rfl))
    | none =>
      rw [hl] at h1
      exact some_or (.inr (by rw [← e2]; exact h1))
  have back : ∀ k o, look k (extMem 1000000 e' ++ extMem 2000000 n') = some o → ∃ o', look k (extMem 1000000 e ++ extMem 2000000 n) = some o' ∧ LeO o' o := fun k o ho => by
    have e1 := look_le (k := 1000000) (j := k) he
    have e2 := look_le (k := 2000000) (j := k) hn
    rw [look_app] at ho
    split at ho
    · rename_i q hq
      cases ho
      obtain ⟨o', h1, h2⟩ := e1.1 o hq
      exact ⟨o', by rw [look_app, h1], h2⟩
    · rename_i hq
      obtain ⟨o', h1, h2⟩ := e2.1 o ho
      have hnone : look k (extMem 1000000 e) = none := by
        have := e1.2
        rw [hq] at this
        simpa using this
      exact ⟨o', by rw [look_app, hnone, h1], h2⟩
  refine { h with dom := fun k l hk => more (h.dom k l hk), ext := fun k l h1 h2 h3 => (h.ext k l h1 h2 h3).imp id fun ⟨g1, g2⟩ => ⟨more g1, g2⟩, objs := fun k o ho => ?_, subs := fun k i c b hk => ?_ }
  · obtain ⟨o', h1, h2⟩ := back k o ho
    exact (h.objs k o' h1).le h2
  · obtain ⟨o1, h1, h2⟩ := h.subs k i c b hk
    obtain ⟨o, ho⟩ := Option.isSome_iff_exists.1 (more (k := k) (by rw [h1]; rfl))
    obtain ⟨o', h3, h4⟩ := back k o ho
    rw [h1] at h3; cases h3
    exact ⟨o, ho, leO_nest h4 h2⟩
theorem ret_ok (hT : TabOk P tb) (h : Sim B m S σ a w) {nx : Nat} (hnx : ∀ k l, B.m k = some l → 1000000 ≤ k ∧ k < 1000000 + nx) (hsm : nx < 1000000) {fn : Func} {Q : Res → Prop} (hv : vcRet0 tb nx fn.results.toList Q σ) :
    ∃ r v m' S', Q r ∧ (results fn a.tmps).run P w = .ok v w ∧ Rep m' w S' v r.val ∧ MemOk { B with m := m' } m' S' (extMem 1000000 r.ext ++ extMem 2000000 r.new) w ∧ KeptM B.w B.m m' r.ext ∧ r.ext.length = nx ∧ r.new.length ≤ 90 := by
  obtain ⟨nk, r, hv⟩ := hv
  split at hv
  · rename_i c ps hr
    obtain ⟨c1, c2, c3, hQ, c4, hle, hln⟩ := hv
    obtain ⟨vs, g1, g2, g3⟩ := resVals_ok (P := P) hT h hr c1
    obtain ⟨S', k1, k2, k3⟩ := viewRs_ok h g1 g2 c2
    have k4 := viewRs_is2 (nk := nk) (mem := σ.mem) g2
    generalize (viewRs nk σ.mem ps).2.1 = mem' at *
    generalize (viewRs nk σ.mem ps).2.2 = qs at *
    simp only [outOk, Bool.and_eq_true, List.all_eq_true, decide_eq_true_eq, Bool.or_eq_true, List.contains_eq_mem, List.mem_range] at c3
    obtain ⟨⟨⟨⟨d1, d2⟩, d3⟩, d4⟩, d5⟩ := c3
    have hnd := nodup_of d1
    have hidx : ∀ k ∈ nk, nk.idxOf k < nk.length ∧ nk[nk.idxOf k]? = some k := fun k hk => by
      have hlt := List.idxOf_lt_length_of_mem hk
      exact ⟨hlt, by rw [List.getElem?_eq_getElem hlt, List.getElem_idxOf hlt]⟩
    let m' : Map := ⟨fun j => if 2000000 ≤ j then (nk[j - 2000000]?).bind m else if 1000000 ≤ j ∧ j < 1000000 + nx then m j else none, fun j => if 2000000 ≤ j then (nk[j - 2000000]?).elim (fun _ _ => none) m.sub else if 1000000 ≤ j ∧ j < 1000000 + nx then m.sub j else fun _ _ => none⟩
    have hto : ∀ j l, (j ∈ nk ∨ (1000000 ≤ j ∧ j < 1000000 + nx)) → m j = some l → m' (toR nk j) = some l := fun j l hj hl => by
      unfold toR
      simp only [List.contains_eq_mem, decide_eq_true_eq]
      split
      · rename_i hk
        show (if 2000000 ≤ 2000000 + nk.idxOf j then (nk[2000000 + nk.idxOf j - 2000000]?).bind m else _) = some l
        rw [if_pos (by omega), Nat.add_sub_cancel_left, (hidx j hk).2]
        exact hl
      · rename_i hk
        rcases hj with hj | hj
        · exact absurd hj hk
        · show (if 2000000 ≤ j then (nk[j - 2000000]?).bind m else if 1000000 ≤ j ∧ j < 1000000 + nx then m j else none) = some l
          rw [if_neg (by omega), if_pos hj]
          exact hl
    have hm' : ∀ j l, m' j = some l → (2000000 ≤ j ∧ ∃ k, nk[j - 2000000]? = some k ∧ m k = some l) ∨ ((1000000 ≤ j ∧ j < 1000000 + nx) ∧ m j = some l) := fun j l hj => by
      have hj : (if 2000000 ≤ j then (nk[j - 2000000]?).bind m else if 1000000 ≤ j ∧ j < 1000000 + nx then m j else none) = some l := hj
      split at hj
      · rename_i h1
        cases hk : nk[j - 2000000]? with
        | none => rw [hk] at hj; cases hj
        | some k => rw [hk] at hj; exact .inl ⟨h1, k, rfl, hj⟩
      · split at hj
        · rename_i h2; exact .inr ⟨h2, hj⟩
        · cases hj
    have hmh' : ∀ j b, m'.has j b → (2000000 ≤ j ∧ ∃ k, nk[j - 2000000]? = some k ∧ m.has k b) ∨ ((1000000 ≤ j ∧ j < 1000000 + nx) ∧ m.has j b) := fun j b hj => by
      rcases hj with ⟨c, hj⟩ | ⟨i, c, hj⟩
      · exact (hm' j _ hj).imp (fun ⟨h1, k, h2, h3⟩ => ⟨h1, k, h2, .inl ⟨c, h3⟩⟩) fun ⟨h1, h2⟩ => ⟨h1, .inl ⟨c, h2⟩⟩
      · have hj : (if 2000000 ≤ j then (nk[j - 2000000]?).elim (fun _ _ => none) m.sub else if 1000000 ≤ j ∧ j < 1000000 + nx then m.sub j else fun _ _ => none) i c = some b := hj
        split at hj
        · rename_i h1
          cases hk : nk[j - 2000000]? with
          | none => rw [hk] at hj; cases hj
          | some k => rw [hk] at hj; exact .inl ⟨h1, k, rfl, .inr ⟨i, c, hj⟩⟩
        · split at hj
          · rename_i h2; exact .inr ⟨h2, .inr ⟨i, c, hj⟩⟩
          · cases hj
    have hfin : ∀ (e n : List MObj), All2 LeO e r.ext → All2 LeO n r.new → ∀ {B : Base} {m' : Map} {S' : Cells} {w : World}, MemOk B m' S' (extMem 1000000 e ++ extMem 2000000 n) w → MemOk B m' S' (extMem 1000000 r.ext ++ extMem 2000000 r.new) w := fun e n he hn => fun h => h.leExt he hn
    refine ⟨r, if h : vs.toArray.size = 1 then vs.toArray[0] else .tuple vs.toArray, m', S', hQ, ?_, Rep.le ?_ c4, hfin _ _ hle hln ?_, ?_, ?_, ?_⟩
    · unfold results
      simp only [Array.mapM_eq_mapM_toList, Sem.run_bind, Sem.run_map, Sem.run_pure]
      generalize hX : Sem.run P (List.mapM _ fn.results.toList) w = X
      have hX2 : X = .ok vs w := hX.symm.trans g3
      rw [hX2]
      rfl
    · have hren : All2 (Rep2 m' w S') vs (qs.map (PV.ren2 (toR nk))) := k3.maps fun v p hp hr => Rep2.ren (fun j hj l hl => hto j l (d5 p hp j (by cases p <;> first | exact hj | (cases (List.all_eq_true.1 k4 _ hp); done))) hl) (Rep2.of hr (List.all_eq_true.1 k4 p hp))
      have hlen := k3.len
      unfold oneV
      match qs, vs, hren, hlen, k4 with
      | [p], [v], hren, _, k4 =>
        simp only [List.size_toArray, List.length_cons, List.length_nil, Nat.zero_add]
        have h2 : p.is2 = true := by simpa using k4
        have h3 : Rep2 m' w S' v (p.ren2 (toR nk)) := hren.1
        have h4 : p.ren (toR nk) = p.ren2 (toR nk) := by cases p <;> first | rfl | cases h2
        show Rep m' w S' v (p.ren (toR nk))
        rw [h4]
        exact Rep.of2 h3
      | [], [], _, _, _ => exact ⟨[], rfl, trivial⟩
      | p1 :: p2 :: qs, v1 :: v2 :: vs, hren, _, _ =>
        refine ⟨v1 :: v2 :: vs, ?_, hren⟩
        rw [dif_neg (by simp)]
    · refine { dom := fun j l hj => ?_, objs := fun j o ho => ?_, subs := fun j i c b hj => ?_, subx := fun j _ _ _ _ _ hb => .inr (.inr ⟨_, _, hb⟩), parts := fun j j' b hj hj' => ?_, young := fun j b hj => ?_, grow := k1.grow, sold := k1.sold, snew := k1.snew, sin := k1.sin, scell := k1.scell, marks := k1.marks, ext := fun j l hj1 hj2 hj => ?_ }
      · rcases hm' j l hj with ⟨h1, k, h2, h3⟩ | ⟨h1, h2⟩
        · exact some_or (.inr (by rw [look_ext, if_pos h1, List.getElem?_map, h2]; rfl))
        · exact some_or (.inl (by rw [look_ext, if_pos h1.1, List.getElem?_map, exts_get (by omega)]; rfl))
      · rw [look_app] at ho
        split at ho
        · rename_i q hq
          cases ho
          rw [look_ext] at hq
          split at hq
          · rename_i h1
            rw [List.getElem?_map] at hq
            obtain ⟨o1, h2, rfl⟩ := Option.map_eq_some_iff.1 hq
            have hlt := (List.getElem?_eq_some_iff.1 h2).1
            rw [exts_len] at hlt
            rw [exts_get hlt, show 1000000 + (j - 1000000) = j from by omega] at h2
            have h3 := d4 (j - 1000000) hlt
            rw [show 1000000 + (j - 1000000) = j from by omega] at h3
            obtain ⟨o2, h4⟩ := Option.isSome_iff_exists.1 h3.1.1
            cases h2
            refine ((k1.objs j o2 h4).extO h4).ren (fun i hi l hl => hto i l (h3.2 i (by rw [extO_keys h4] at hi; simp only [objKeys, h4]; exact hi)) hl) (fun l hl => ?_) ?_
            · show (if 2000000 ≤ j then (nk[j - 2000000]?).bind m else if 1000000 ≤ j ∧ j < 1000000 + nx then m j else none) = some l
              rw [if_neg (by omega), if_pos ⟨h1, by omega⟩]
              exact hl
            · show (if 2000000 ≤ j then (nk[j - 2000000]?).elim (fun _ _ => none) m.sub else if 1000000 ≤ j ∧ j < 1000000 + nx then m.sub j else fun _ _ => none) = _
              rw [if_neg (by omega), if_pos ⟨h1, by omega⟩]
          · cases hq
        · rw [look_ext] at ho
          split at ho
          · rename_i h1
            rw [List.getElem?_map] at ho
            obtain ⟨k, h2, rfl⟩ := Option.map_eq_some_iff.1 ho
            have hkm := List.mem_of_getElem? h2
            have h3 := d2 k hkm
            obtain ⟨o2, h4⟩ := Option.isSome_iff_exists.1 h3.1.2
            rw [h4, Option.getD_some]
            refine (k1.objs k o2 h4).ren (fun i hi l hl => hto i l (h3.2 i (by simp only [objKeys, h4]; exact hi)) hl) (fun l hl => ?_) ?_
            · show (if 2000000 ≤ j then (nk[j - 2000000]?).bind m else if 1000000 ≤ j ∧ j < 1000000 + nx then m j else none) = some l
              rw [if_pos h1, h2]
              exact hl
            · show (if 2000000 ≤ j then (nk[j - 2000000]?).elim (fun _ _ => none) m.sub else if 1000000 ≤ j ∧ j < 1000000 + nx then m.sub j else fun _ _ => none) = _
              rw [if_pos h1, h2]
              rfl
          · cases ho
      · have hj : (if 2000000 ≤ j then (nk[j - 2000000]?).elim (fun _ _ => none) m.sub else if 1000000 ≤ j ∧ j < 1000000 + nx then m.sub j else fun _ _ => none) i c = some b := hj
        split at hj
        · rename_i h1
          cases h2 : nk[j - 2000000]? with
          | none => rw [h2] at hj; cases hj
          | some k =>
            rw [h2] at hj
            obtain ⟨o1, h3, h4⟩ := k1.subs k i c b hj
            refine ⟨o1.ren (toR nk), ?_, by cases o1 <;> first | rfl | cases h4⟩
            rw [look_app, look_ext, if_pos (by omega), List.getElem?_eq_none (by rw [List.length_map, exts_len]; omega)]
            show look j (extMem 2000000 _) = _
            rw [look_ext, if_pos h1, List.getElem?_map, h2, Option.map_some, h3]
            rfl
        · split at hj
          · rename_i h2
            obtain ⟨o1, h3, h4⟩ := k1.subs j i c b hj
            refine ⟨_, by rw [look_app, look_ext, if_pos h2.1, List.getElem?_map, exts_get (by omega)]; rfl, ?_⟩
            rw [show 1000000 + (j - 1000000) = j from by omega]
            exact extO_nest h3 h4
          · cases hj
      · rcases hmh' j _ hj with ⟨h1, k, h2, h3⟩ | ⟨h1, h2⟩ <;> rcases hmh' j' _ hj' with ⟨h1', k', h2', h3'⟩ | ⟨h1', h2'⟩
        · have e := k1.parts k k' b h3 h3'
          subst e
          have hlt := (List.getElem?_eq_some_iff.1 h2).1
          have := (List.getElem?_inj hlt hnd).1 (h2.trans h2'.symm)
          omega
        · have e := k1.parts k j' b h3 h2'
          have := (d2 k (List.mem_of_getElem? h2)).1.1
          omega
        · have e := k1.parts k' j b h3' h2
          have := (d2 k' (List.mem_of_getElem? h2')).1.1
          omega
        · exact k1.parts j j' b h2 h2'
      · rcases hmh' j _ hj with ⟨h1, k, h2, h3⟩ | ⟨h1, h2⟩
        · have := (d2 k (List.mem_of_getElem? h2)).1.1
          rcases k1.young k b h3 with h4 | h4
          · exact .inl h4
          · omega
        · exact k1.young j b h2
      · exact .inl hj
    · refine ⟨?_, fun k q1 q2 i c b hb => ?_⟩
      rotate_left
      · have hb : (if 2000000 ≤ k then (nk[k - 2000000]?).elim (fun _ _ => none) m.sub else if 1000000 ≤ k ∧ k < 1000000 + nx then m.sub k else fun _ _ => none) i c = some b := hb
        have hrl : r.ext.length = nx := by rw [← hle.len, List.length_map, exts_len]
        rw [if_neg (by omega)] at hb
        split at hb
        · exact k1.subx k q1 (by omega) i c b hb
        · cases hb
      intro k l hk
      have h1 := hnx k l hk
      have h3 := d4 (k - 1000000) (by omega)
      rw [show 1000000 + (k - 1000000) = k from by omega] at h3
      obtain ⟨o2, h4⟩ := Option.isSome_iff_exists.1 h3.1.1
      obtain ⟨l', hl'⟩ := (k1.objs k o2 h4).loc
      refine ⟨l', ?_, ?_⟩
      · show (if 2000000 ≤ k then (nk[k - 2000000]?).bind m else if 1000000 ≤ k ∧ k < 1000000 + nx then m k else none) = some l'
        rw [if_neg (by omega), if_pos h1]
        exact hl'
      · rcases k1.ext k l' h1.1 (by omega) hl' with h5 | ⟨h5, h6⟩
        · rw [hk] at h5
          cases h5
          exact .inl rfl
        · refine .inr ⟨?_, fun b hb => ?_⟩
          · have h7 : moved mem' k = true := h5
            have h8 := h3.1.2
            rw [h7] at h8
            have h8 : isGrown (extO mem' k) = true := by simpa using h8
            unfold grownAt
            rw [Bool.and_eq_true, decide_eq_true_eq]
            refine ⟨h1.1, ?_⟩
            have hx : ((exts mem' nx 1000000).map (MObj.ren (toR nk)))[k - 1000000]? = some ((extO mem' k).ren (toR nk)) := by
              rw [List.getElem?_map, exts_get (by omega), show 1000000 + (k - 1000000) = k from by omega]; rfl
            obtain ⟨o', ho', hlo⟩ := hle.get' hx
            rw [ho']
            exact grown_le h8 hlo
          · rcases h6 b hb with h7 | ⟨l0, h7, h8⟩
            · exact .inl h7
            · rw [hk] at h7
              cases h7
              exact .inr h8
    · rw [← hle.len]; simp [exts_len]
    · rw [← hln.len]; simpa using d3
  · exact hv.elim

def argSlots : Nat → List PV → Slots
  | _, [] => []
  | i, p :: r => (i, p) :: argSlots (i + 1) r
theorem look_args : ∀ {ps : List PV} {k i : Nat} {p : PV}, look i (argSlots k ps) = some p → k ≤ i ∧ ps[i - k]? = some p
  | q :: ps, k, i, p, h => by
    rcases look_cons h with ⟨rfl, rfl⟩ | ⟨hne, h⟩
    · simp
    · obtain ⟨h1, h2⟩ := look_args h
      refine ⟨by omega, ?_⟩
      rw [show i - k = (i - (k + 1)) + 1 from by omega, List.getElem?_cons_succ]
      exact h2
def kEnd (tb : Tab) (nx : Nat) (rs : List ResultVar) (Q : Res → Prop) : Exit → Sta → Prop
  | .normal, σ => vcRet tb nx rs Q σ
  | .ret, σ => vcRet tb nx rs Q σ
  | _, _ => False

theorem meets_of (hT : TabOk P tb) {D : DrawT} (hD : DrawOk P D) {f : Nat} {fn : Func} {c : Code} (hf : P.funcs[f]? = some fn) (hb : fn.body = some c) (hp : Plain P f) {args : List PV} {ext : List MObj} {Q : Res → Prop}
    (hc : (decide (fn.ntmps < 10000) && decide (args.length ≤ fn.ntmps) && decide (ext.length < 1000000)) = true) (hv : vcCode P tb D c (kEnd tb ext.length fn.results.toList Q) ⟨fn.ntmps, argSlots 0 args, extMem 1000000 ext⟩) : Meets P f args ext Q := by
  simp only [Bool.and_eq_true, decide_eq_true_eq] at hc
  obtain ⟨⟨hs, hl⟩, hx⟩ := hc
  refine ⟨hp, fun w S m T vs ha hM => callsIn_wide.1 (callsIn_of_wp_marks (F := rd none) (n := 0) hf hb trivial ?_)⟩
  have hvl : vs.size = args.length := by rw [← Array.length_toList, ha.len]
  have hdom : ∀ k l, m k = some l → 1000000 ≤ k ∧ k < 1000000 + ext.length := fun k l hk => by
    have := hM.dom k l hk
    rw [look_ext] at this
    split at this
    · rename_i h1
      obtain ⟨o, ho⟩ := Option.isSome_iff_exists.1 this
      have := (List.getElem?_eq_some_iff.1 ho).1
      omega
    · cases this
  have hwid : wid fn.ntmps = fn.ntmps := Nat.mod_eq_of_lt hs
  have hsim : Sim (Base.wm ⟨w, T, S, m, [], [], fun _ => none, w⟩ []) m S ⟨fn.ntmps, argSlots 0 args, extMem 1000000 ext⟩ { tmps := vs ++ Array.replicate (fn.ntmps - vs.size) undef, defers := [] } w := by
    refine { hM with defers := rfl, size := ?_, frozen := fun i hi => absurd hi (by show ¬ froz fn.ntmps i = true; unfold froz; rw [if_pos hs]; exact Bool.false_ne_true), slots := fun i p hp => ?_ }
    · show (vs ++ Array.replicate (fn.ntmps - vs.size) undef).size = wid fn.ntmps
      rw [hwid]
      simp; omega
    · obtain ⟨_, h2⟩ := look_args hp
      obtain ⟨v, h3, h4⟩ := ha.get (i := i) (by simpa using h2)
      refine ⟨v, ?_, h4⟩
      have hi := (List.getElem?_eq_some_iff.1 h3).1
      show (vs ++ Array.replicate (fn.ntmps - vs.size) undef)[i]? = some v
      rw [Array.getElem?_append_left (by simpa using hi)]
      simpa using h3
  have fin : ∀ L m' S' σ a w', L.Nodup → Sim (Base.wm ⟨w, T, S, m, [], [], fun _ => none, w⟩ L) m' S' σ a w' → vcRet tb ext.length fn.results.toList Q σ → LeavesInM (rd none) 0 P fn a.tmps (fun e w' => ∃ r v m' S', Q r ∧ e = .returned v ∧ Rep m' w' S' v r.val ∧ MemOk ⟨w, T, S, m', [], [], fun _ => none, w⟩ m' S' (extMem 1000000 r.ext ++ extMem 2000000 r.new) w' ∧ KeptM w m m' r.ext ∧ r.ext.length = ext.length ∧ r.new.length ≤ 90) a.defers .returning w' := fun L m' S' σ a w' hL h hr => by
    obtain ⟨pr, σ1, hpr, hr⟩ := hr
    obtain ⟨m1, S1, h⟩ := preps_ok h hpr
    have hd : a.defers = L.map fun d => { target := .collected d, args := #[] } := h.defers
    rw [hd]
    refine leaves_marks (B := ⟨w, T, S, m, [], [], fun _ => none, w⟩) (df := L.map fun d => { target := .collected d, args := #[] }) h hL ?_
    intro w2 h2
    obtain ⟨r, v, m2, S2, g1, g2, g3, g4, g5⟩ := ret_ok (P := P) (fn := fn) hT h2 hdom hx hr
    exact ⟨v, g2, r, v, m2, S2, g1, rfl, g3, g4.other, g5⟩
  refine vcCode_ok hT hD c (K := kEnd tb ext.length fn.results.toList Q) ?_ hsim hv
  intro L e m' S' σ a w' hL h hk
  cases e with
  | normal => exact fin L m' S' σ a w' hL h hk
  | ret => exact fin L m' S' σ a w' hL h hk
  | _ => exact hk.elim

end
end Go.Proofs.YtplooifpgmlofaaGreat
