/- A region whose order is open: what is to be shown of it, and that it is enough. No condition. -/
import Derived.Test.YtplooifpgmlofaaGreatV17
namespace Go.Proofs.YtplooifpgmlofaaGreat
open Go.RowKit

section
variable {P : Program} {tb : Tab} {ops : Array Oper} {E : Nat → Eff} {K : Sta → Prop} {B : Base} {m : Map} {S : Cells} {σ σ' : Sta} {a : Act} {w : World}

def AnyS (P : Program) (tb : Tab) (ops : Array Oper) (E : Nat → Eff) (K : Sta → Prop) : Nat → Array Bool → Sta → Prop
  | 0, listed, σ => Region.ready .any ops listed = [] ∧ K σ
  | fuel + 1, listed, σ => (Region.ready .any ops listed = [] → K σ) ∧ ∀ i ∈ Region.ready .any ops listed, ∃ o, ops[i]? = some o ∧ EffAt P tb ops o σ (E i) ∧ (E i).cond ∧ AnyS P tb ops E K fuel (listed.setIfInBounds i true) (app σ o.dst (E i))
theorem app_equ {d : Option Nat} {e : Eff} (h : Equ σ σ') : Equ (app σ d e) (app σ' d e) := by
  refine ⟨h.n, fun i => ?_, fun k => ?_⟩
  · by_cases hd : ∀ x, d = some x → i ≠ x
    · rw [slots_app hd, slots_app hd, h.slots]
    · cases d with
      | none => exact absurd (fun x hx => by cases hx) hd
      | some x =>
        have hx : i = x := by
          by_cases hix : i = x
          · exact hix
          · exact absurd (fun y hy => by cases hy; exact hix) hd
        subst hx
        show look i ((i, e.val) :: _) = look i ((i, e.val) :: _)
        unfold look
        rw [if_pos rfl, if_pos rfl]
  · show look k (e.set ++ eraseN? e.kill σ'.mem) = look k (e.set ++ eraseN? e.kill σ.mem)
    rw [look_app, look_app, look_eraseN?, look_eraseN?, h.mem]
theorem EffAt_equ {o : Oper} {e : Eff} (h : Equ σ σ') (he : EffAt P tb ops o σ e) : EffAt P tb ops o σ' e :=
  EffAt_local h.n (fun t _ => h.slots t) (fun _ t _ => h.slots t) (fun k _ => h.mem k) (fun hu k hk j ob hj hkk => hu k hk j ob (by rw [← h.mem]; exact hj) hkk) he
theorem AnyS_equ (hK : ∀ σ σ', Equ σ σ' → K σ → K σ') : ∀ {fuel : Nat} {listed : Array Bool} {σ σ' : Sta}, Equ σ σ' → AnyS P tb ops E K fuel listed σ → AnyS P tb ops E K fuel listed σ'
  | 0, _, _, _, h, hs => ⟨hs.1, hK _ _ h hs.2⟩
  | _ + 1, _, _, _, h, hs => ⟨fun h0 => hK _ _ h (hs.1 h0), fun i hi => let ⟨o, h1, h2, h3, h4⟩ := hs.2 i hi; ⟨o, h1, EffAt_equ h h2, h3, AnyS_equ hK (app_equ h) h4⟩⟩
def After (ops : Array Oper) (k : Nat) (R : List Nat) (j : Nat) : Prop := ∃ o, ops[j]? = some o ∧ ∃ e ∈ o.after, Region.binds .any e = true ∧ (e.on = k ∨ e.on ∈ R)
theorem After.mono {k j : Nat} {R R' : List Nat} (h : After ops k R j) (hR : ∀ i ∈ R, i ∈ R') : After ops k R' j :=
  let ⟨o, h1, e, h2, h3, h4⟩ := h; ⟨o, h1, e, h2, h3, h4.imp id (hR _)⟩
def after1 (ops : Array Oper) (k : Nat) (acc : List Nat) (j : Nat) : Bool := match ops[j]? with
  | some o => o.after.any fun e => Region.binds .any e && (e.on == k || acc.contains e.on)
  | none => false
def cloB (ops : Array Oper) (k : Nat) : Nat → Nat → List Nat → List Nat
  | 0, _, acc => acc
  | n + 1, j, acc => if after1 ops k acc j = true then cloB ops k n (j + 1) (j :: acc) else cloB ops k n (j + 1) acc
theorem after1_ok {k j : Nat} {acc : List Nat} (h : after1 ops k acc j = true) : After ops k acc j := by
  unfold after1 at h
  split at h
  · rename_i o ho
    obtain ⟨n, hn, hb⟩ := Array.any_eq_true.1 h
    simp only [Bool.and_eq_true, Bool.or_eq_true, beq_iff_eq, List.contains_eq_mem, decide_eq_true_eq] at hb
    exact ⟨o, ho, _, Array.getElem_mem hn, hb.1, hb.2⟩
  · cases h
theorem cloB_ok {k : Nat} : ∀ {n j : Nat} {acc : List Nat}, (∀ i ∈ acc, After ops k acc i) → ∀ i ∈ cloB ops k n j acc, After ops k (cloB ops k n j acc) i
  | 0, _, _, h => h
  | n + 1, j, acc, h => by
    unfold cloB
    split
    · rename_i h1
      refine cloB_ok fun i hi => ?_
      rcases List.mem_cons.1 hi with rfl | hi
      · exact (after1_ok h1).mono fun x hx => List.mem_cons_of_mem _ hx
      · exact (h i hi).mono fun x hx => List.mem_cons_of_mem _ hx
    · exact cloB_ok h
theorem AnyS_first (hK : ∀ σ σ', Equ σ σ' → K σ → K σ') {i : Nat} {oi : Oper} (hi : ops[i]? = some oi) {C : List Nat} (hC : ∀ j ∈ C, After ops i C j) : ∀ (fuel : Nat) (listed : Array Bool) (σ : Sta),
    (∀ j oj, ops[j]? = some oj → j ≠ i → listed.getD j true = false → j ∉ C → indep ops oi oj (E i) (E j) = true) → (∀ j ∈ C, listed.getD j true = false) →
    i ∈ Region.ready .any ops listed → EffAt P tb ops oi σ (E i) → (E i).cond → AnyS P tb ops E K fuel (listed.setIfInBounds i true) (app σ oi.dst (E i)) → AnyS P tb ops E K (fuel + 1) listed σ := by
  intro fuel
  induction fuel with
  | zero =>
    intro listed σ _ _ hr he hc H
    refine ⟨fun h => (by rw [h] at hr; cases hr), fun j hj => ?_⟩
    by_cases hji : j = i
    · subst hji; exact ⟨oi, hi, he, hc, H⟩
    · have := ready_mono hj hji
      rw [H.1] at this
      cases this
  | succ fuel ih =>
    intro listed σ hfree hlC hr he hc H
    refine ⟨fun h => (by rw [h] at hr; cases hr), fun j hj => ?_⟩
    by_cases hji : j = i
    · subst hji; exact ⟨oi, hi, he, hc, H⟩
    · obtain ⟨oj, hoj, h1, h2, h3⟩ := H.2 j (ready_mono hj hji)
      obtain ⟨hjun, oj', hoj', hall⟩ := mem_ready.1 hj
      rw [hoj] at hoj'; cases hoj'
      have hun1 : ∀ x, listed.getD x true = false → ¬ listed.getD x false = true := fun x h0 h1 => by
        rcases Nat.lt_or_ge x listed.size with h' | h'
        · simp [h'] at h0 h1; rw [h0] at h1; cases h1
        · simp [Array.getElem?_eq_none h'] at h1
      have hnot : j ∉ C := fun hjC => by
        obtain ⟨o2, ho2, e, he', hb, h5⟩ := hC j hjC
        rw [hoj] at ho2; cases ho2
        have h1 := hall e he' hb
        rcases h5 with h5 | h5
        · rw [h5] at h1
          exact hun1 i (mem_ready.1 hr).1 h1
        · exact hun1 _ (hlC _ h5) h1
      have hind := hfree j oj hoj hji hjun hnot
      have hej := eff_bwd he h1 hind
      refine ⟨oj, hoj, hej, h2, ih (listed.setIfInBounds j true) (app σ oj.dst (E j)) (fun k ok hk hki hun hno => hfree k ok hk hki ?_ hno) (fun k hk => by rw [getD_set_ne true (show j ≠ k from fun h => hnot (h ▸ hk))]; exact hlC k hk) (ready_mono hr (Ne.symm hji)) (eff_fwd he hej hind) hc ?_⟩
      · by_cases hjk : j = k
        · subst hjk; exact hjun
        · rw [getD_set_ne true hjk] at hun; exact hun
      · rw [Array.setIfInBounds_comm _ _ hji]
        exact AnyS_equ hK (app_comm hind) h3

def freeB (ops : Array Oper) (E : List Eff) (k : Nat) (listed : Array Bool) : Bool :=
  (Region.ready .any ops listed).contains k && ((cloB ops k ops.size 0 []).all fun j => !listed.getD j true) && (List.range ops.size).all fun j => j == k || listed.getD j true || (match ops[j]?, ops[k]? with
    | some oj, some ok => (cloB ops k ops.size 0 []).contains j || indep ops ok oj (E.getD k default) (E.getD j default)
    | _, _ => true)
def textB (ops : Array Oper) (E : List Eff) : Nat → Nat → Array Bool → Bool
  | 0, _, listed => (Region.ready .any ops listed).isEmpty
  | n + 1, k, listed => freeB ops E k listed && textB ops E n (k + 1) (listed.setIfInBounds k true)
def Walk (P : Program) (tb : Tab) (ops : Array Oper) (K : Sta → Prop) : List Oper → List Eff → Sta → Prop
  | [], [], σ => K σ
  | o :: r, e :: es, σ => EffAt P tb ops o σ e ∧ e.cond ∧ Walk P tb ops K r es (app σ o.dst e)
  | _, _, _ => False
theorem AnyS_text (hK : ∀ σ σ', Equ σ σ' → K σ → K σ') {EL : List Eff} : ∀ (l : List Oper) (es : List Eff) (k : Nat) (listed : Array Bool) (σ : Sta), (∀ j, l[j]? = ops[k + j]?) → (∀ j e, es[j]? = some e → EL[k + j]? = some e) →
    textB ops EL l.length k listed = true → Walk P tb ops K l es σ → AnyS P tb ops (fun i => EL.getD i default) K l.length listed σ
  | [], [], k, listed, σ, _, _, hB, h => ⟨by simpa [textB] using hB, h⟩
  | o :: l, e :: es, k, listed, σ, hl, he, hB, ⟨h1, h2, h3⟩ => by
    have h0 : ops[k]? = some o := by simpa using (hl 0).symm
    have hek : EL.getD k default = e := by
      have := he 0 e rfl
      rw [List.getD_eq_getElem?_getD, show k = k + 0 from rfl, this]; rfl
    simp only [List.length_cons, textB, Bool.and_eq_true, freeB, List.all_eq_true, List.mem_range, Bool.or_eq_true, beq_iff_eq, List.contains_eq_mem, decide_eq_true_eq] at hB
    obtain ⟨⟨⟨hr, hcl⟩, hf⟩, hB'⟩ := hB
    refine AnyS_first hK (E := fun i => EL.getD i default) h0 (C := cloB ops k ops.size 0 []) (cloB_ok fun i hi => by cases hi) l.length listed σ ?_ (fun j hj => by simpa using hcl j hj) hr (by show EffAt P tb ops o σ (EL.getD k default); rw [hek]; exact h1) (by show (EL.getD k default).cond; rw [hek]; exact h2) ?_
    · intro j oj hoj hjk hun hno
      have hj := hf j (Array.getElem?_eq_some_iff.1 hoj).1
      rw [hoj, h0] at hj
      rcases hj with (hj | hj) | hj
      · exact absurd hj hjk
      · rw [hun] at hj; cases hj
      · rcases (Bool.or_eq_true _ _).mp hj with hj | hj
        · exact absurd (by simpa using hj) hno
        · exact hj
    · have := AnyS_text hK l es (k + 1) (listed.setIfInBounds k true) (app σ o.dst e) (fun j => by have := hl (j + 1); simpa [Nat.add_assoc, Nat.add_comm 1 j] using this) (fun j e' hj => by have := he (j + 1) e' (by simpa using hj); rwa [show k + (j + 1) = k + 1 + j from by omega] at this) hB' h3
      show AnyS P tb ops _ K l.length _ (app σ o.dst (EL.getD k default))
      rw [hek]
      exact this
  | [], _ :: _, _, _, _, _, _, _, h => h.elim
  | _ :: _, [], _, _, _, _, _, _, h => h.elim

/-! ### An operation has its effect -/
theorem PV.ren0_back {f g : Nat → Nat} {p : PV} (h : ∀ k ∈ p.keys0, g (f k) = k) : (p.ren0 f).ren0 g = p := by
  cases p with
  | rw k n => simp only [PV.ren0]; rw [h k (by simp [PV.keys0])]
  | ptr k n => simp only [PV.ren0]; rw [h k (by simp [PV.keys0])]
  | rp k s i n => simp only [PV.ren0]; rw [h k (by simp [PV.keys0])]
  | rs k s i n fl => simp only [PV.ren0]; rw [h k (by simp [PV.keys0])]
  | mp k => simp only [PV.ren0]; rw [h k (by simp [PV.keys0])]
  | ifc t k => simp only [PV.ren0]; rw [h k (by simp [PV.keys0])]
  | fd sz xs => rfl
  | _ => rfl
theorem map_back {α : Type} {f g : α → α} : ∀ {l : List α}, (∀ x ∈ l, g (f x) = x) → (l.map f).map g = l
  | [], _ => rfl
  | x :: l, h => by rw [List.map_cons, List.map_cons, h x (by simp), map_back fun y hy => h y (by simp [hy])]
theorem PV.ren1_back {f g : Nat → Nat} {p : PV} (h : ∀ k ∈ p.keys1, g (f k) = k) : (p.ren1 f).ren1 g = p := by
  cases p with
  | clo c caps =>
    show PV.clo c ((caps.map (PV.ren0 f)).map (PV.ren0 g)) = _
    rw [map_back fun q hq => PV.ren0_back fun k hk => h k (by simp only [PV.keys1, List.mem_flatMap]; exact ⟨q, hq, hk⟩)]
  | rw k n => exact PV.ren0_back (p := .rw k n) h
  | ptr k n => exact PV.ren0_back (p := .ptr k n) h
  | rp k s i n => exact PV.ren0_back (p := .rp k s i n) h
  | rs k s i n fl => exact PV.ren0_back (p := .rs k s i n fl) h
  | mp k => exact PV.ren0_back (p := .mp k) h
  | ifc t k => exact PV.ren0_back (p := .ifc t k) h
  | fd sz xs => rfl
  | _ => rfl
theorem MObj.ren_back {f g : Nat → Nat} {o : MObj} (h : ∀ k ∈ o.keys, g (f k) = k) : (o.ren f).ren g = o := by
  cases o with
  | row t sz xs l => rfl
  | map es => rfl
  | grown t sz xs => rfl
  | sys H => rfl
  | box t cells =>
    show MObj.box t ((cells.map (PV.ren1 f)).map (PV.ren1 g)) = _
    rw [map_back fun q hq => PV.ren1_back fun k hk => h k (by simp only [MObj.keys, List.mem_flatMap]; exact ⟨q, hq, hk⟩)]
  | nest t sz xs pr cs foc =>
    cases foc with
    | none => rfl
    | some e =>
      show MObj.nest t sz xs pr cs (some (e.1, (e.2.map (PV.ren1 f)).map (PV.ren1 g))) = _
      rw [map_back fun q hq => PV.ren1_back fun k hk => h k (by simp only [MObj.keys, focKeys, List.mem_flatMap]; exact ⟨q, hq, hk⟩)]
theorem of_to {ks : List Nat} {k d : Nat} (h : k ∈ ks) (hl : ks.length < 1000000) : ofE ks d (toE ks k) = k := by
  have hlt := List.idxOf_lt_length_of_mem h
  unfold ofE toE
  rw [if_pos (by omega), Nat.add_sub_cancel_left, List.getD_eq_getElem?_getD, List.getElem?_eq_getElem hlt, List.getElem_idxOf hlt]
  rfl
theorem back_same {ks : List Nat} {d : Nat} {mem : Mem} (hl : ks.length < 1000000) (hk : ∀ k ∈ ks, here (look k mem) = true) (hcl : ∀ k ∈ ks, ∀ o, look k mem = some o → ∀ j ∈ o.keys, j ∈ ks) :
    ∀ (l : List Nat), (∀ k ∈ l, k ∈ ks) → ∀ j, look j (backMem (ofE ks d) l (l.map fun k => ((look k mem).getD default).ren (toE ks)) ++ mem) = look j mem
  | [], _, j => rfl
  | k :: l, hm, j => by
    show look j ((k, (back1 (((look k mem).getD default).ren (toE ks))).ren (ofE ks d)) :: (backMem (ofE ks d) l (l.map fun k => ((look k mem).getD default).ren (toE ks)) ++ mem)) = _
    have hkm := hm k (by simp)
    obtain ⟨o, ho⟩ := Option.isSome_iff_exists.1 (here_some (hk k hkm))
    have hng : isGrown (o.ren (toE ks)) = false := by
      have := hk k hkm
      rw [ho] at this
      have := here_not this
      cases o <;> first | rfl | cases this
    rw [ho, Option.getD_some, back1_of hng, MObj.ren_back fun j hj => of_to (hcl k hkm o ho j hj) hl]
    show (if j = k then some o else look j (backMem (ofE ks d) l (l.map fun k => ((look k mem).getD default).ren (toE ks)) ++ mem)) = look j mem
    split
    · rename_i e; subst e
      exact ho.symm
    · have := back_same (d := d) hl hk hcl l (fun k hk => hm k (by simp [hk])) j
      rw [this]

theorem keys_one {v : Value} {p : PV} (h : Rep1 m w S v p) : p.keys = p.keys1 := by
  cases p <;> first | rfl | exact h.elim
theorem app_put (σ : Sta) (d : Option Nat) (c : Prop) (p : PV) (ks : List Nat) : app σ d ⟨c, p, [], none, ks⟩ = σ.put d p := by
  cases d <;> rfl
theorem grownKs_none {f : Nat → MObj} : ∀ {ks : List Nat}, (∀ k ∈ ks, isGrown (f k) = false) → grownKs ks (ks.map f) = []
  | [], _ => rfl
  | k :: ks, h => by
    rw [List.map_cons]
    unfold grownKs
    rw [h k (by simp)]
    exact grownKs_none fun j hj => h j (by simp [hj])
theorem eraseN_sim (h : Sim B m S σ a w) {k j : Nat} {ob : MObj} (hj : look j σ.mem = some ob) : eraseN k ob = eraseO k ob := by
  have one : ∀ {x : PV} {v : Value}, Rep1 m w S v x → eraseC k x = eraseP k x := fun {x v} hv => by
    unfold eraseC eraseP
    rw [keys_one hv]
  cases ob with
  | nest t sz xs pr cs foc =>
    cases foc with
    | none => rfl
    | some e =>
      obtain ⟨i, ps⟩ := e
      have : ps.map (eraseC k) = ps.map (eraseP k) := List.map_congr_left fun x hx => by
        obtain ⟨c, hc⟩ := List.getElem?_of_mem hx
        obtain ⟨v, hv⟩ := (h.objs j _ hj).focRep hc
        exact one hv
      show MObj.nest t sz xs pr cs (some (i, ps.map (eraseC k))) = MObj.nest t sz xs pr cs (some (i, ps.map (eraseP k)))
      rw [this]
  | box t2 cells =>
    show MObj.box t2 (cells.map (eraseC k)) = MObj.box t2 (cells.map (eraseP k))
    have : cells.map (eraseC k) = cells.map (eraseP k) := List.map_congr_left fun x hx => by
      obtain ⟨_, _, _, _, _, hall, _⟩ := h.objs j _ hj
      obtain ⟨i, hi⟩ := List.getElem?_of_mem hx
      obtain ⟨v, _, hv⟩ := hall.get hi
      exact one hv
    rw [this]
  | _ => rfl
theorem app_more {l : List Nat} {e : Eff} {d : Option Nat} : app σ d (more l e) = app σ d e := by
  obtain ⟨h1, h2, h3, _, _⟩ := more_val (l := l) (e := e)
  unfold app
  rw [h1, h2, h3]
theorem mark_row {k j : Nat} {mem : Mem} {o : MObj} (h : look j (markSet mem (some k)) = some o) : o = .row 0 1 [] false := by
  have hmm := look_mem h
  have hmm : (j, o) ∈ (if k < 1000000 then [] else if (look (k + 3000000) mem).isSome = true then [] else [(k + 3000000, MObj.row 0 1 [] false)]) := hmm
  split at hmm
  · cases hmm
  · split at hmm
    · cases hmm
    · simp at hmm; exact hmm.2
theorem mark_erase (h : Sim B m S σ a w) {k j : Nat} : look j (markSet σ.mem (some k) ++ eraseNs k σ.mem) = look j (eraseM k (markM k σ.mem)) := by
  rw [look_eraseM, markM_eq, look_app, look_app]
  cases hz : look j (markSet σ.mem (some k)) with
  | some o => rw [mark_row hz]; rfl
  | none =>
    dsimp only
    rw [look_eraseNs]
    cases hj : look j σ.mem with
    | none => rfl
    | some ob => exact congrArg some (eraseN_sim h hj)
theorem erase_either (h : Sim B m S σ a w) {k j : Nat} : look j (eraseNs k σ.mem) = look j (eraseM k σ.mem) := by
  rw [look_eraseM, look_eraseNs]
  cases hj : look j σ.mem with
  | none => rfl
  | some ob => exact congrArg some (eraseN_sim h hj)
theorem ownKill0_ok (hT : TabOk P tb) (h : Sim B m S σ a w) {o : Oper} {e : Eff} {k : Nat} (hd : σ.has o.dst = true) (h4 : opEff0 tb o σ = some e) (hkill : e.kill = some k) (hc : e.cond)
    {next : Act → World → Prop} {Q : Exit → Act → World → Prop} (hn : ∀ m' S' a' w', Sim B m' S' (app σ o.dst e) a' w' → next a' w') : o.wp P a w next Q := by
  obtain ⟨dst, op, ty, pos, after, guard⟩ := o
  unfold opEff0 at h4
  dsimp only at h4 hd hn
  split at h4
  · split at h4
    · split at h4 <;> cases h4
      cases hkill
    · cases h4
  · split at h4
    · split at h4 <;> cases h4
      cases hkill
    · cases h4
  · split at h4
    · split at h4
      · split at h4 <;> cases h4 <;> cases hkill
      · cases h4
    · cases h4
  · split at h4
    · split at h4 <;> cases h4
      cases hkill
    · cases h4
  · split at h4
    · split at h4 <;> cases h4
      cases hkill
    · cases h4
  · rename_i c
    obtain ⟨callee, args, ats⟩ := c
    dsimp only at h4
    split at h4
    · split at h4
      · rename_i s x t t' ha ht
        split at h4
        · rename_i k' n p g1 g2
          split at h4
          · rename_i e1 sz xs l g3
            split at h4
            · rename_i ti ei cc ys k1 k2 k3
              split at h4
              case isFalse hnx =>
                cases h4
                cases hkill
              rename_i hnx
              cases h4
              cases hkill
              obtain ⟨c0, c1⟩ := hc
              refine vcOp_ok (K := fun σ' => σ' = Sta.put ⟨σ.n, eraseS k σ.slots, (k, .row e1 sz (xs ++ ys) l) :: eraseM k (markM k σ.mem)⟩ dst (.rw k (xs ++ ys).length)) hT h ⟨hd, ?_⟩ fun m' S' σ' a' w' hs hk => ?_
              · simp only [ha, ht]
                refine ⟨c0, ?_⟩
                simp only [g1, g2, vcAppend, g3, k1, k2, k3]
                refine ⟨c1.1, c1.2.1, c1.2.2.1, c1.2.2.2.1, c1.2.2.2.2.2.2.1, ?_⟩
                rw [if_pos hnx]
                exact ⟨c1.2.2.2.2.1, c1.2.2.2.2.2.2.2, trivial⟩
              · subst hk
                refine hn m' S' a' w' (hs.equ ⟨by cases dst <;> rfl, fun i => by cases dst <;> rfl, fun j => ?_⟩)
                have e2 : ∀ X : Mem, (Sta.put ⟨σ.n, eraseS k σ.slots, X⟩ dst (.rw k (xs ++ ys).length)).mem = X := fun X => by cases dst <;> rfl
                rw [e2]
                show look j ((k, MObj.row e1 sz (xs ++ ys) l) :: (markSet σ.mem (some k) ++ eraseNs k σ.mem)) = look j ((k, MObj.row e1 sz (xs ++ ys) l) :: eraseM k (markM k σ.mem))
                show (if j = k then _ else _) = (if j = k then _ else _)
                rw [mark_erase h]
            · cases h4
          · cases h4
        · rename_i k' sz2 off n fl p g1 g2
          split at h4
          · rename_i e1 sz xs g3
            split at h4
            · rename_i ti ei cc ys k1 k2 k3
              split at h4
              case isFalse hnx =>
                cases h4
                cases hkill
              rename_i hnx
              cases h4
              cases hkill
              obtain ⟨c0, c1⟩ := hc
              refine vcOp_ok (K := fun σ' => σ' = Sta.put ⟨σ.n, eraseS k σ.slots, (k, .row e1 sz (xs.drop off ++ ys) false) :: eraseM k σ.mem⟩ dst (.rs k sz 0 (n + ys.length) 0)) hT h ⟨hd, ?_⟩ fun m' S' σ' a' w' hs hk => ?_
              · simp only [ha, ht]
                refine ⟨c0, ?_⟩
                simp only [g1, g2, vcAppendS, g3, k1, k2, k3]
                refine ⟨c1, ?_⟩
                rw [if_pos hnx]
                first | trivial | rfl
              · subst hk
                refine hn m' S' a' w' (hs.equ ⟨by cases dst <;> rfl, fun i => by cases dst <;> rfl, fun j => ?_⟩)
                have e2 : ∀ X : Mem, (Sta.put ⟨σ.n, eraseS k σ.slots, X⟩ dst (.rs k sz 0 (n + ys.length) 0)).mem = X := fun X => by cases dst <;> rfl
                rw [e2]
                show look j ((k, MObj.row e1 sz (xs.drop off ++ ys) false) :: eraseNs k σ.mem) = look j ((k, MObj.row e1 sz (xs.drop off ++ ys) false) :: eraseM k σ.mem)
                show (if j = k then _ else _) = (if j = k then _ else _)
                rw [erase_either h]
            · cases h4
          · cases h4
        · split at h4
          · split at h4
            · cases h4
              cases hkill
            · cases h4
          · cases h4
        · cases h4
      · cases h4
    · split at h4
      · cases h4
        cases hkill
      · cases h4
    · cases h4
  · split at h4
    · split at h4
      · split at h4 <;> cases h4
        cases hkill
      · cases h4
    · cases h4
  · split at h4
    · cases h4
      cases hkill
    · cases h4
theorem ownKill_ok (hT : TabOk P tb) (h : Sim B m S σ a w) {o : Oper} {e : Eff} {k : Nat} (hd : σ.has o.dst = true) (h4 : opEff tb o σ = some e) (hkill : e.kill = some k) (hc : e.cond)
    {next : Act → World → Prop} {Q : Exit → Act → World → Prop} (hn : ∀ m' S' a' w', Sim B m' S' (app σ o.dst e) a' w' → next a' w') : o.wp P a w next Q := by
  unfold opEff at h4
  split at h4
  case isFalse => exact ownKill0_ok hT h hd h4 hkill hc hn
  rename_i hl
  obtain ⟨d, hdd⟩ := leakAt_dst hl
  obtain ⟨e0, h1, h2⟩ := Option.bind_eq_some_iff.1 h4
  obtain ⟨k1, n, t, sz, xs, l, r, g1, g2, g3, g4, g5, rfl⟩ := leakE_spec h2
  obtain rfl : k1 = k := Option.some.inj hkill
  obtain ⟨hc, hnx⟩ := hc
  refine ownKill0_ok hT h hd h1 g3 hc (fun m' S' a' w' hs => ?_)
  rw [hdd] at hs hn hd
  have hs : Sim B m' S' ⟨σ.n, (d, .rw k1 n) :: eraseS k1 σ.slots, (k1, .row t sz xs l) :: (r ++ eraseNs k1 σ.mem)⟩ a' w' := by
    have e : app σ (some d) e0 = ⟨σ.n, (d, .rw k1 n) :: eraseS k1 σ.slots, (k1, .row t sz xs l) :: (r ++ eraseNs k1 σ.mem)⟩ := by
      unfold app
      rw [g1, g2, g3]
      rfl
    rw [e] at hs; exact hs
  obtain ⟨S2, s1, s2⟩ := leak_ok hs (k := k1) (t := t) (sz := sz) (xs := xs) (l := l) (by simp [look]) g4
  have s3 := s1.say (d := d) (p := .rw k1 n) (q := .d (.sl sz xs)) (by simp [look]) fun v hr => by
    have := row_data (t := t) (s1.objs k1 (.row t sz xs true) (by simp [look])) hr (by omega)
    rw [hnx, List.take_length] at this
    exact this
  refine hn m' S2 a' w' (s3.equ ⟨rfl, fun i => ?_, fun j => ?_⟩)
  · show look i ((d, PV.d (.sl sz xs)) :: eraseS k1 σ.slots) = look i ((d, PV.d (.sl sz xs)) :: (d, .rw k1 n) :: eraseS k1 σ.slots)
    simp only [look]; split <;> rfl
  · show look j ((k1, MObj.row t sz xs true) :: (r ++ eraseNs k1 σ.mem)) = look j ((k1, MObj.row t sz xs true) :: (k1, .row t sz xs l) :: (r ++ eraseNs k1 σ.mem))
    simp only [look]; split <;> rfl
theorem eff_ok (hT : TabOk P tb) (h : Sim B m S σ a w) {o : Oper} {e : Eff} (he : EffAt P tb ops o σ e) (hc : e.cond) {next : Act → World → Prop} {Q : Exit → Act → World → Prop}
    (hn : ∀ m' S' a' w', Sim B m' S' (app σ o.dst e) a' w' → next a' w') : if Region.wanted o (yielded ops a.tmps) then o.wp P a w next Q ∨ (o.asks P a w ∧ LetsOut Q) else next (a.put o.dst undef) w := by
  obtain ⟨hd, he⟩ := he
  have hw : ∀ b, wantedS ops σ o = some b → Region.wanted o (yielded ops a.tmps) = b := fun b hb => by
    unfold wantedS at hb
    cases hg : o.guard with
    | none => rw [hg] at hb; cases hb; simp [Region.wanted, hg]
    | some g =>
      obtain ⟨j, want⟩ := g
      rw [hg] at hb
      dsimp only at hb
      cases hdd : (ops[j]?).bind (·.dst) with
      | none => rw [hdd] at hb; cases hb
      | some d =>
        rw [hdd] at hb
        dsimp only at hb
        split at hb
        · rename_i c hc
          cases hb
          obtain ⟨v, h1, h2⟩ := h.slots d _ hc
          have h2' : RepD w S v (.v (.bool c)) := h2
          cases h2'
          have hy : yielded ops a.tmps j = some c := by simp only [yielded, hdd, Option.bind_some, h1]
          simp [Region.wanted, hg, hy]
        · rename_i c hc
          cases hb
          obtain ⟨v, h1, h2⟩ := h.slots d _ hc
          have h2' : RepD w S v (.v (.tuple c)) := h2
          cases h2'
          have hy : yielded ops a.tmps j = none := by simp only [yielded, hdd, Option.bind_some, h1]
          simp [Region.wanted, hg, hy]
        · cases hb
  rcases he with ⟨h1, h2, h3, h4⟩ | ⟨h1, rfl⟩
  · rw [hw _ h1, if_pos rfl]
    left
    rcases h4 with h4 | h4 | h4
    · -- an operation of its own
      obtain ⟨l, e, h4, rfl⟩ := h4
      rw [app_more] at hn
      rw [more_val.2.2.2.1] at hc
      cases hkill : e.kill with
      | some k => exact ownKill_ok hT h hd h4 hkill hc hn
      | none =>
      clear h3
      have via : ∀ K : Sta → Prop, (∀ σ', K σ' → ∀ m S a w, Sim B m S σ' a w → ∃ m' S', Sim B m' S' (app σ o.dst e) a w) → vcOp P tb o σ K → o.wp P a w next Q := fun K hK hv =>
        vcOp_ok hT h hv fun m' S' σ' a' w' hs hk => let ⟨m2, S2, h2⟩ := hK σ' hk m' S' a' w' hs; hn m2 S2 a' w' h2
      obtain ⟨dst, op, ty, pos, after, guard⟩ := o
      have byval : ∀ {c : Prop} {p : PV} {ks : List Nat}, valOp tb σ op = some (c, p) → e = ⟨c, p, [], none, ks⟩ → Oper.wp P ⟨dst, op, ty, pos, after, guard⟩ a w next Q := fun hv hee => by
        subst hee
        obtain ⟨r, g1, g2⟩ := val_ok (o := ⟨dst, op, ty, pos, after, guard⟩) hT h hv hc
        refine upon_val g1 (hn m S _ _ ?_)
        rw [app_put]
        exact h.put g2 dst hd
      unfold opEff at h4
      split at h4
      · obtain ⟨e0, h41, h42⟩ := Option.bind_eq_some_iff.1 h4
        obtain ⟨k, n, t, sz, xs, l, r, g1, g2, g3, g4, g5, rfl⟩ := leakE_spec h42
        cases hkill
      rename_i hl
      clear hl
      unfold opEff0 at h4
      dsimp only at h4 hd
      split at h4
      · rename_i e0
        split at h4
        · rename_i d ti g1
          split at h4
          · rename_i g2
            cases h4
            exact via (fun σ' => σ' = app σ (some d) _) (fun σ' hk m S a w hs => ⟨m, S, hk ▸ hs⟩) ⟨hd, by simp only [g1]; exact ⟨by simpa using g2, by first | trivial | rfl⟩⟩
          · cases h4
        · cases h4
      · rename_i e0 x
        split at h4
        · rename_i d p g1
          split at h4
          · rename_i g2
            simp only [Bool.and_eq_true] at g2
            cases h4
            exact via (fun σ' => σ' = app σ (some d) _) (fun σ' hk m S a w hs => ⟨m, S, hk ▸ hs⟩) ⟨hd, by simp only [g1]; exact ⟨g2.2, by simpa using g2.1, by first | trivial | rfl⟩⟩
          · cases h4
        · cases h4
      · rename_i t len parts
        split at h4
        · rename_i d e1 sz xs g1
          split at h4
          · rename_i g2
            split at h4
            · cases h4
              exact via (fun σ' => σ' = app σ (some d) _) (fun σ' hk m S a w hs => ⟨m, S, hk ▸ hs⟩) ⟨hd, by simp only [g1]; exact ⟨by simpa using g2, by first | trivial | rfl⟩⟩
            · cases h4
              refine via (fun σ' => σ' = Sta.put ⟨σ.n, σ.slots, (d, .row e1 sz xs false) :: σ.mem⟩ (some d) (.rw d len)) (fun σ' hk m S a w hs => ?_) ⟨hd, by simp only [g1]; exact ⟨by simpa using g2, by first | trivial | rfl⟩⟩
              subst hk
              have hdl : d < 1000000 := has_lt h hd
              obtain ⟨S', s1, s2⟩ := leak_ok hs (k := d) (t := e1) (sz := sz) (xs := xs) (l := false) (by simp [Sta.put, look]) hdl
              have s3 := s1.say (d := d) (p := .rw d len) (q := .d (.sl sz xs)) (by simp [Sta.put, look]) fun v hr => by
                have := row_data (t := e1) (s1.objs d (.row e1 sz xs true) (by simp [look])) hr (by have : len = xs.length := hc; omega)
                have hl : len = xs.length := hc
                rw [hl, List.take_length] at this
                exact this
              refine ⟨m, S', s3.equ ⟨rfl, fun i => ?_, fun k => ?_⟩⟩
              · show look i ((d, PV.d (.sl sz xs)) :: σ.slots) = look i ((d, PV.d (.sl sz xs)) :: (d, .rw d len) :: σ.slots)
                simp only [look]; split <;> rfl
              · show look k ((d, MObj.row e1 sz xs true) :: σ.mem) = look k ((d, MObj.row e1 sz xs true) :: (d, .row e1 sz xs false) :: σ.mem)
                simp only [look]; split <;> rfl
          · cases h4
        · cases h4
      · rename_i t x v
        split at h4
        · rename_i p q g1 g2
          split at h4
          · rename_i c k ob tl g3
            cases h4
            have g3' := g3
            have htl : tl = σ.mem := by
              unfold vStoreR at g3
              split at g3
              · split at g3
                · split at g3
                  · split at g3
                    · cases g3; rfl
                    · cases g3
                  · cases g3
                · split at g3
                  · split at g3
                    · cases g3; rfl
                    · cases g3
                  · cases g3
                · cases g3
              unfold vStore at g3
              split at g3
              · split at g3
                · split at g3
                  · cases g3; rfl
                  · cases g3
                · cases g3
              · cases g3
            subst htl
            exact via (fun σ' => σ' = app σ dst _) (fun σ' hk m S a w hs => ⟨m, S, hk ▸ hs⟩) ⟨hd, by simp only [g1, g2, g3']; exact ⟨hc, by first | trivial | (cases dst <;> rfl)⟩⟩
          · cases h4
        · cases h4
      · rename_i t x k v
        split at h4
        · rename_i p q r g1 g2 g4
          split at h4
          · rename_i j ob tl g3
            cases h4
            have g3' := g3
            have htl : tl = σ.mem := by
              unfold vUpdate at g3
              split at g3
              · split at g3
                · split at g3
                  · cases g3; rfl
                  · cases g3
                · cases g3
              · cases g3
            subst htl
            exact via (fun σ' => σ' = app σ dst _) (fun σ' hk m S a w hs => ⟨m, S, hk ▸ hs⟩) ⟨hd, by simp only [g1, g2, g4, g3']; first | trivial | (cases dst <;> rfl)⟩
          · cases h4
        · cases h4
      · rename_i c
        obtain ⟨callee, args, ats⟩ := c
        dsimp only at h4
        split at h4
        · split at h4
          · rename_i s x t t' ha ht
            split at h4
            · rename_i k n p g1 g2
              split at h4
              · rename_i e1 sz xs l g3
                split at h4
                · rename_i ti ei cc ys k1 k2 k3
                  split at h4
                  case isFalse hnx =>
                    cases h4
                    obtain ⟨c0, c1⟩ := hc
                    refine via (fun σ' => σ' = Sta.put ⟨σ.n, σ.slots, (k, .row e1 sz (xs.take n ++ ys ++ xs.drop (n + ys.length)) false) :: σ.mem⟩ dst (.rw k (n + ys.length))) (fun σ' hk m S a w hs => ?_) ⟨hd, ?_⟩
                    · subst hk
                      exact ⟨m, S, hs.equ ⟨by cases dst <;> rfl, fun i => by cases dst <;> rfl, fun j => by cases dst <;> rfl⟩⟩
                    · simp only [ha, ht, g1, g2]
                      refine ⟨c0, ?_⟩
                      unfold vcAppend
                      rw [g3]
                      dsimp only
                      rw [k1, k2, k3]
                      exact ⟨c1.1, c1.2.1, c1.2.2.1, c1.2.2.2.1, c1.2.2.2.2.1, by rw [if_neg hnx]; exact ⟨c1.2.2.2.2.2.1, c1.2.2.2.2.2.2, by first | trivial | rfl⟩⟩
                  rename_i hnx
                  cases h4
                  cases hkill
                · cases h4
              · cases h4
            · rename_i k sz2 off n fl p g1 g2
              split at h4
              · rename_i e1 sz xs g3
                split at h4
                · rename_i ti ei cc ys k1 k2 k3
                  split at h4
                  case isFalse hnx =>
                    cases h4
                    obtain ⟨c0, c1, c2⟩ := hc
                    refine via (fun σ' => σ' = Sta.put ⟨σ.n, σ.slots, (k, .row e1 sz (xs ++ ys) false) :: σ.mem⟩ dst (.rs k sz off (n + ys.length) 0)) (fun σ' hk m S a w hs => ?_) ⟨hd, ?_⟩
                    · subst hk
                      exact ⟨m, S, hs.equ ⟨by cases dst <;> rfl, fun i => by cases dst <;> rfl, fun j => by cases dst <;> rfl⟩⟩
                    · simp only [ha, ht, g1, g2]
                      refine ⟨c0, ?_⟩
                      unfold vcAppendS
                      rw [g3]
                      dsimp only
                      rw [k1, k2, k3]
                      exact ⟨c1, by rw [if_neg hnx]; exact ⟨c2, by first | trivial | rfl⟩⟩
                  rename_i hnx
                  cases h4
                  cases hkill
                · cases h4
              · cases h4
            · rename_i sz xs p g1 g2
              split at h4
              · rename_i e1 cc ys k1 k2
                split at h4
                · rename_i ei k3
                  cases h4
                  obtain ⟨c0, c1⟩ := hc
                  refine via (fun σ' => σ' = σ.put dst (.d (.sl sz (xs ++ ys)))) (fun σ' hk m S a w hs => ?_) ⟨hd, ?_⟩
                  · subst hk
                    exact ⟨m, S, hs.equ ⟨by cases dst <;> rfl, fun i => by cases dst <;> rfl, fun j => by cases dst <;> rfl⟩⟩
                  · simp only [ha, ht, g1, g2]
                    refine ⟨c0, ?_⟩
                    rw [k1, k2]
                    dsimp only
                    rw [k3]
                    exact ⟨c1, by first | trivial | rfl⟩
                · cases h4
              · cases h4
            · cases h4
          · cases h4
        · split at h4
          · rename_i cd p g1
            cases h4
            exact byval g1 rfl
          · cases h4
        · cases h4
      · rename_i t l c
        split at h4
        · rename_i d p q g1 g2
          split at h4
          · rename_i cd ob n g3
            split at h4
            · rename_i g4
              cases h4
              exact via (fun σ' => σ' = app σ (some d) _) (fun σ' hk m S a w hs => ⟨m, S, hk ▸ hs⟩) ⟨hd, by simp only [g1, g2, g3]; exact ⟨hc, by simpa using g4, by first | trivial | rfl⟩⟩
            · cases h4
          · cases h4
        · cases h4
      · split at h4
        · rename_i cd p g1
          cases h4
          exact byval g1 rfl
        · cases h4
    · -- a call
      obtain ⟨cl, g, as, q, g1, g2, g4, g5, g6, rfl⟩ := h4
      obtain ⟨vs, hargs, hrun⟩ := tgt_ok hT h g2 g6.1
      obtain ⟨dst, op, ty, pos, after, guard⟩ := o
      dsimp only at g1 hd
      subst g1
      have g5' := g5
      unfold reachOk at g5
      simp only [Bool.and_eq_true, List.all_eq_true, List.contains_eq_mem, decide_eq_true_eq] at g5
      obtain ⟨⟨⟨k1, k2⟩, k3⟩, k4⟩ := g5
      have hrun := hrun dst ty pos after guard
      unfold Oper.wp Oper.upon
      rw [hrun]
      have hcl : ∀ k ∈ reach σ.mem as, ∀ ob, look k σ.mem = some ob → ∀ j ∈ ob.keys, j ∈ reach σ.mem as := fun k hk ob hob j hj => (k2 k hk).2 j (by simp only [objKeys, hob]; exact hj)
      refine (call_ok h (mem0 := σ.mem) h (fun _ _ hs => hs) (fun _ hk => hk) (vs := vs.toArray) hargs (nodup_of k1) (fun k hk => here_some (k2 k hk).1) hcl (fun p hp k hk => k3 p hp k hk) k4 0 (by omega) g6).mono ?_
      rintro en w' ⟨r, v, m', S', rfl, rfl, hs⟩
      obtain ⟨⟨s1, s2⟩, _⟩ := hs fun i hi => absurd hi (by simp)
      have hgn : grownKs (reach σ.mem as) ((reach σ.mem as).map fun k => ((look k σ.mem).getD default).ren (toE (reach σ.mem as))) = [] := grownKs_none fun k hk => by
        have h1 := (k2 k hk).1
        obtain ⟨o, ho⟩ := Option.isSome_iff_exists.1 (here_some h1)
        rw [ho] at h1 ⊢
        have := here_not h1
        cases o <;> first | rfl | cases this
      rw [hgn] at s1
      refine hn m' S' _ w' (((s1.put s2 dst (by exact hd)).equ ⟨by cases dst <;> rfl, fun i => by cases dst <;> rfl, fun j => ?_⟩))
      have e3 : (app σ dst ⟨True, q.ren (ofE (reach σ.mem as) 0), [], none, wide σ.mem (reach σ.mem as) ++ wide σ.mem (as.flatMap PV.keys)⟩).mem = σ.mem := rfl
      rw [e3]
      have e4 := back_same (d := 0) k4 (fun k hk => (k2 k hk).1) hcl (reach σ.mem as) (fun k hk => hk) j
      rw [← e4]
      cases dst <;> rfl
    · -- a call that makes objects
      obtain ⟨l, e0, ⟨cl, g, as, r0, g1, g2, g4, g5, g6, g7, rfl⟩, rfl⟩ := h4
      rw [app_more] at hn
      obtain ⟨vs, hargs, hrun⟩ := tgt_ok hT h g2 g6.1
      obtain ⟨dst, op, ty, pos, after, guard⟩ := o
      dsimp only at g1 hd
      subst g1
      have g5' := g5
      unfold reachOk at g5
      simp only [Bool.and_eq_true, List.all_eq_true, List.contains_eq_mem, decide_eq_true_eq] at g5
      obtain ⟨⟨⟨k1, k2⟩, k3⟩, k4⟩ := g5
      have hrun := hrun dst ty pos after guard
      unfold Oper.wp Oper.upon
      rw [hrun]
      have hcl : ∀ k ∈ reach σ.mem as, ∀ ob, look k σ.mem = some ob → ∀ j ∈ ob.keys, j ∈ reach σ.mem as := fun k hk ob hob j hj => (k2 k hk).2 j (by simp only [objKeys, hob]; exact hj)
      have hd2 : dst.getD 0 < 10000 := by
        cases hdst : dst with
        | none => simp
        | some d => rw [hdst] at hd; exact Sta.has_small hd
      refine (call_ok h (mem0 := σ.mem) h (fun _ _ hs => hs) (fun _ hk => hk) (vs := vs.toArray) hargs (nodup_of k1) (fun k hk => here_some (k2 k hk).1) hcl (fun p hp k hk => k3 p hp k hk) k4 (dst.getD 0) hd2 g6).mono ?_
      rintro en w' ⟨r, v, m', S', rfl, rfl, hs⟩
      obtain ⟨⟨s1, s2⟩, _⟩ := hs fun i hi => by
        have := g7.1 (dst.getD 0 + 10000 * (0 + i)) (newKeys_mem hi)
        rwa [Nat.zero_add] at this
      have hl1 := g7.2.1
      dsimp only at hc hn
      refine hn m' S' _ w' (((s1.put s2 dst (by exact hd)).equ ⟨by cases dst <;> rfl, fun i => ?_, fun j => ?_⟩))
      · unfold app callE
        dsimp only
        generalize grownKs (reach σ.mem as) r.ext = gs at hl1
        match gs, hl1 with
        | [], _ => cases dst <;> rfl
        | [k], _ => cases dst <;> rfl
        | _ :: _ :: _, hl1 => simp at hl1
      · have hput : ∀ (s : Slots) (M : Mem) (p : PV), (Sta.put ⟨σ.n, s, M⟩ dst p).mem = M := fun s M p => by cases dst <;> rfl
        rw [hput]
        have happ : ∀ e : Eff, (app σ dst e).mem = e.set ++ eraseN? e.kill σ.mem := fun e => by unfold app; cases dst <;> rfl
        rw [happ]
        unfold callE
        dsimp only
        generalize grownKs (reach σ.mem as) r.ext = gs at hl1
        generalize backMem (ofE (reach σ.mem as) (dst.getD 0)) (reach σ.mem as) r.ext = X
        generalize newMem (ofE (reach σ.mem as) (dst.getD 0)) (dst.getD 0) 0 r.new = Y
        match gs, hl1 with
        | [], _ =>
          show look j ((X ++ (Y ++ [])) ++ σ.mem) = _
          rw [List.append_nil, List.append_assoc]
          rfl
        | [k], _ =>
          show look j ((X ++ (Y ++ markSet σ.mem (some k))) ++ eraseNs k σ.mem) = look j (X ++ (Y ++ eraseM k (markM k σ.mem)))
          rw [List.append_assoc, List.append_assoc, look_app, look_app (l := X)]
          cases look j X with
          | some q => rfl
          | none =>
            dsimp only
            rw [look_app, look_app (l := Y)]
            cases look j Y with
            | some q => rfl
            | none => exact mark_erase h
        | _ :: _ :: _, hl1 => simp at hl1
  · rw [hw _ h1, if_neg (by simp)]
    refine hn m S _ w ?_
    unfold idleEff
    rw [app_put]
    exact h.put (p := idleV) (v := undef) (RepD.v undef) o.dst hd

theorem AnyS_ok (hT : TabOk P tb) {Q : Exit → Act → World → Prop} (hQ : ∀ σ m S a w, Sim B m S σ a w → K σ → Q .normal a w) : ∀ (fuel : Nat) (listed : Array Bool) (σ : Sta) (m : Map) (S : Cells) (a : Act) (w : World), Sim B m S σ a w → AnyS P tb ops E K fuel listed σ → wpAny P .any ops Q fuel listed a w
  | 0, _, σ, m, S, a, w, h, hs => ⟨hs.1, hQ σ m S a w h hs.2⟩
  | fuel + 1, listed, σ, m, S, a, w, h, hs => ⟨fun h0 => hQ σ m S a w h (hs.1 h0), fun i hi => by
    obtain ⟨o, h1, h2, h3, h4⟩ := hs.2 i hi
    unfold wpOp
    rw [h1]
    exact eff_ok hT h h2 h3 fun m' S' a' w' hs' => AnyS_ok hT hQ fuel _ _ m' S' a' w' hs' h4⟩

/-! ### What is to be shown -/
def namers (mem : Mem) (st : Mem) (k : Nat) : List Nat := dedup ((mem.map (·.1)).filter fun j => (objKeys mem j).contains k && !(st.map (·.1)).contains j)
def hits (mem : Mem) (k : Nat) : List Nat → List Nat
  | [] => []
  | b :: r => (b + 5000000) :: (coKeys k ((look b mem).getD default) ++ hits mem k r)
def hitE (mem : Mem) (e : Eff) : Eff := match e.kill with
  | some k => ⟨e.cond, e.val, e.set, some k, e.reads ++ hits mem k (namers mem e.set k)⟩
  | none => e
theorem hits_mem {mem : Mem} {k b : Nat} : ∀ {bs : List Nat}, b ∈ bs → b + 5000000 ∈ hits mem k bs ∧ ∀ x ∈ coKeys k ((look b mem).getD default), x ∈ hits mem k bs
  | [], h => by cases h
  | c :: r, h => by
    unfold hits
    rcases List.mem_cons.1 h with rfl | h
    · exact ⟨List.mem_cons_self .., fun x hx => List.mem_cons_of_mem _ (List.mem_append_left _ hx)⟩
    · obtain ⟨h1, h2⟩ := hits_mem (mem := mem) (k := k) h
      exact ⟨List.mem_cons_of_mem _ (List.mem_append_right _ h1), fun x hx => List.mem_cons_of_mem _ (List.mem_append_right _ (h2 x hx))⟩
theorem hitE_more {mem : Mem} {e : Eff} : ∃ l, hitE mem e = more l e := by
  unfold hitE more
  cases e.kill with
  | none => exact ⟨[], rfl⟩
  | some k => exact ⟨_, rfl⟩
theorem hitE_ok {mem : Mem} {e : Eff} : hitOk mem (hitE mem e) := by
  intro k hk j ob hj hkk
  have hek : e.kill = some k := by
    unfold hitE at hk
    split at hk
    · rename_i k' h'; rw [h']; exact hk
    · exact hk
  have he : hitE mem e = ⟨e.cond, e.val, e.set, some k, e.reads ++ hits mem k (namers mem e.set k)⟩ := by unfold hitE; rw [hek]
  rw [he]
  by_cases h1 : j ∈ e.set.map (·.1)
  · exact .inl h1
  · have hn : j ∈ namers mem e.set k := by
      unfold namers
      rw [dedup_iff, List.mem_filter]
      simp only [Bool.and_eq_true, Bool.not_eq_true', List.contains_eq_mem, decide_eq_true_eq, decide_eq_false_iff_not]
      exact ⟨List.mem_map.2 ⟨_, look_mem hj, rfl⟩, by simp only [objKeys, hj]; exact hkk, h1⟩
    obtain ⟨h2, h3⟩ := hits_mem (mem := mem) (k := k) hn
    rw [hj] at h3
    exact .inr ⟨List.mem_append_right _ h2, fun x hx => List.mem_append_right _ (h3 x hx)⟩

section
variable (P tb)
def vcOwn (σ : Sta) (d : Option Nat) (e : Eff) (N : Eff → Sta → Prop) : Prop := e.cond ∧ N (hitE σ.mem e) (app σ d e)
def vcEffCall (σ : Sta) (d : Option Nat) (g : Nat) (args : List PV) (objs : List MObj) (ks wd : List Nat) (N : Eff → Sta → Prop) : Prop :=
  (∃ q, Meets P g args objs (fun r => r = ⟨q, objs, []⟩) ∧ N ⟨True, q.ren (ofE ks 0), [], none, wd⟩ (σ.put d (q.ren (ofE ks 0)))) ∨
  ∃ r : Res, Meets P g args objs (fun r' => r' = r) ∧ ((∀ k ∈ newKeys (d.getD 0) 0 r.new, look k σ.mem = none) ∧ (grownKs ks r.ext).length ≤ 1 ∧ r.new.length ≤ 90) ∧
    vcOwn σ d (callE σ (d.getD 0) ks wd r) N
def vcGo (σ : Sta) (dst : Option Nat) (g : Nat) (as : List PV) (N : Eff → Sta → Prop) : Prop :=
  as.all PV.calm = true ∧ reachOk σ.mem as (reach σ.mem as) = true ∧ vcEffCall P σ dst g (as.map (PV.ren (toE (reach σ.mem as)))) ((reach σ.mem as).map fun k => ((look k σ.mem).getD default).ren (toE (reach σ.mem as))) (reach σ.mem as)
          (wide σ.mem (reach σ.mem as) ++ (wide σ.mem (as.flatMap PV.keys))) N
def vcEff (o : Oper) (σ : Sta) (N : Eff → Sta → Prop) : Prop :=
  opsKnown σ o.op.operands.toList = true ∧ match o.op with
  | .pick c x y => match σ.ev c, σ.ev x, σ.ev y with
    | some (.d (.v (.bool t))), some p, some q => both t true (N ⟨True, p, [], none, opKeys σ [c, x, y]⟩ (σ.put o.dst p)) (N ⟨True, q, [], none, opKeys σ [c, x, y]⟩ (σ.put o.dst q))
    | _, _, _ => False
  | .call ⟨.value f, args, _⟩ => match σ.callee f, evs σ args.toList with
    | some (g, caps), some ps => (ps ++ caps).all PV.calm = true ∧ reachOk σ.mem (ps ++ caps) (reach σ.mem (ps ++ caps)) = true ∧
        vcEffCall P σ o.dst g ((ps ++ caps).map (PV.ren (toE (reach σ.mem (ps ++ caps))))) ((reach σ.mem (ps ++ caps)).map fun k => ((look k σ.mem).getD default).ren (toE (reach σ.mem (ps ++ caps)))) (reach σ.mem (ps ++ caps))
          (wide σ.mem (reach σ.mem (ps ++ caps)) ++ (wide σ.mem ((ps ++ caps).flatMap PV.keys))) N
    | _, _ => False
  | .call ⟨.invoke r name, args, _⟩ => match σ.ev r, evs σ args.toList with
    | some (.ifc t k), some ps => match methOf tb t name with
      | some g => vcGo P σ o.dst g (PV.ptr k 0 :: ps) N
      | none => False
    | _, _ => False
  | _ => match opEff tb o σ with
    | some e => vcOwn σ o.dst e N
    | none => False
def vcD (ops : Array Oper) (K : List Eff → Sta → Prop) : List Oper → List Eff → Sta → Prop
  | [], acc, σ => K acc.reverse σ
  | o :: r, acc, σ => σ.has o.dst = true ∧ match o.guard with
    | none => vcEff P tb o σ fun e σ' => vcD ops K r (e :: acc) σ'
    | some (j, want) => match (ops[j]?).bind (·.dst) with
      | some d => match look d σ.slots with
        | some (.d (.v (.bool b))) => (b = want → vcEff P tb o σ fun e σ' => vcD ops K r (e :: acc) σ') ∧ (b = !want → vcD ops K r (idleEff :: acc) (σ.put o.dst idleV))
        | some (.d (.v (.tuple _))) => vcD ops K r (idleEff :: acc) (σ.put o.dst idleV)
        | _ => False
      | none => False
def vcDraw (ops : Array Oper) (K : Sta → Prop) (σ : Sta) : Prop := vcD P tb ops (fun E σ' => textB ops E ops.size 0 (Array.replicate ops.size false) = true ∧ K σ') ops.toList [] σ
end

theorem vcEff_ok {o : Oper} {N : Eff → Sta → Prop} (hd : σ.has o.dst = true) (hw : wantedS ops σ o = some true) (h : vcEff P tb o σ N) : ∃ e, EffAt P tb ops o σ e ∧ e.cond ∧ ∃ σ', N e σ' ∧ σ' = app σ o.dst e := by
  obtain ⟨h1, h⟩ := h
  obtain ⟨dst, op, ty, pos, after, guard⟩ := o
  dsimp only at h h1 hd
  have go : ∀ {cl : Call} {g : Nat} {as : List PV}, op = .call cl → σ.tgt tb cl = some (g, as) → vcGo P σ dst g as N → ∃ e, EffAt P tb ops ⟨dst, op, ty, pos, after, guard⟩ σ e ∧ e.cond ∧ ∃ σ', N e σ' ∧ σ' = app σ dst e := by
    rintro cl g as hop g1 ⟨g3, g4, ⟨q, g5, g6⟩ | ⟨r, g5, g6, g8, g7⟩⟩
    case inr =>
      obtain ⟨l, hl⟩ := hitE_more (mem := σ.mem) (e := callE σ (dst.getD 0) (reach σ.mem as) (wide σ.mem (reach σ.mem as) ++ (wide σ.mem (as.flatMap PV.keys))) r)
      exact ⟨_, ⟨hd, .inl ⟨hw, h1, hitE_ok, .inr (.inr ⟨l, _, ⟨cl, g, as, r, hop, g1, g3, g4, g5, g6, rfl⟩, hl⟩)⟩⟩, by rw [hl, more_val.2.2.2.1]; exact g8, _, g7, by rw [hl, app_more]⟩
    exact ⟨⟨True, q.ren (ofE (reach σ.mem as) 0), [], none, wide σ.mem (reach σ.mem as) ++ (wide σ.mem (as.flatMap PV.keys))⟩, ⟨hd, .inl ⟨hw, h1, (fun k hk => by cases hk), .inr (.inl ⟨cl, g, as, q, hop, g1, g3, g4, g5, rfl⟩)⟩⟩, trivial, _, g6, (app_put ..).symm⟩
  split at h
  · rename_i c x y
    split at h
    · rename_i t p q g1 g2 g3
      cases t
      · exact ⟨⟨True, q, [], none, opKeys σ [c, x, y]⟩, ⟨hd, .inl ⟨hw, h1, (fun k hk => by cases hk), .inl (OwnEff.of (by simp only [opEff, leakAt, opEff0, valOp, g1, g2, g3]; rfl))⟩⟩, trivial, _, h.2 rfl, (app_put ..).symm⟩
      · exact ⟨⟨True, p, [], none, opKeys σ [c, x, y]⟩, ⟨hd, .inl ⟨hw, h1, (fun k hk => by cases hk), .inl (OwnEff.of (by simp only [opEff, leakAt, opEff0, valOp, g1, g2, g3]; rfl))⟩⟩, trivial, _, h.1 rfl, (app_put ..).symm⟩
    · exact h.elim
  · rename_i f args ats
    split at h
    · rename_i g caps ps g1 g2
      exact go (cl := ⟨.value f, args, ats⟩) (g := g) (as := ps ++ caps) rfl (by simp only [Sta.tgt, g1, g2]) h
    · exact h.elim
  · rename_i r name args ats
    split at h
    · rename_i t k ps g1 g2
      split at h
      · rename_i g g3
        have e3 : σ.tgt tb ⟨.invoke r name, args, ats⟩ = some (g, .ptr k 0 :: ps) := by
          unfold Sta.tgt
          dsimp only
          rw [g1, g2]
          dsimp only
          rw [g3]
        exact go rfl e3 h
      · exact h.elim
    · exact h.elim
  · split at h
    · rename_i e he
      obtain ⟨l, hl⟩ := hitE_more (mem := σ.mem) (e := e)
      exact ⟨_, ⟨hd, .inl ⟨hw, h1, hitE_ok, .inl ⟨l, e, he, hl⟩⟩⟩, by rw [hl, more_val.2.2.2.1]; exact h.1, _, h.2, by rw [hl, app_more]⟩
    · exact h.elim
theorem vcD_ok {K' : List Eff → Sta → Prop} : ∀ {l : List Oper} {acc : List Eff} {σ : Sta}, vcD P tb ops K' l acc σ → ∃ es σ', Walk P tb ops (fun s => s = σ') l es σ ∧ K' (acc.reverse ++ es) σ'
  | [], acc, σ, h => ⟨[], σ, rfl, by rw [List.append_nil]; exact h⟩
  | o :: r, acc, σ, h => by
    obtain ⟨hd, h⟩ := h
    have go : wantedS ops σ o = some true → (vcEff P tb o σ fun e σ' => vcD P tb ops K' r (e :: acc) σ') → ∃ es σ', Walk P tb ops (fun s => s = σ') (o :: r) es σ ∧ K' (acc.reverse ++ es) σ' := fun hw hv => by
      obtain ⟨e, h1, h2, σ1, h3, rfl⟩ := vcEff_ok hd hw hv
      obtain ⟨es, σ', k1, k2⟩ := vcD_ok h3
      exact ⟨e :: es, σ', ⟨h1, h2, k1⟩, by simpa using k2⟩
    split at h
    · rename_i hg
      exact go (by unfold wantedS; rw [hg]) h
    · rename_i j want hg
      split at h
      · rename_i d hdd
        split at h
        · rename_i b hb
          by_cases hbw : b = want
          · exact go (by unfold wantedS; rw [hg]; dsimp only; rw [hdd]; dsimp only; rw [hb]; simp [hbw]) (h.1 hbw)
          · have hbn : b = !want := by cases b <;> cases want <;> simp_all
            obtain ⟨es, σ', k1, k2⟩ := vcD_ok (h.2 hbn)
            refine ⟨idleEff :: es, σ', ⟨⟨hd, .inr ⟨?_, rfl⟩⟩, trivial, ?_⟩, by simpa using k2⟩
            · unfold wantedS; rw [hg]; dsimp only; rw [hdd]; dsimp only; rw [hb, hbn]; simp
            · unfold idleEff; rw [app_put]; exact k1
        · rename_i us hb
          obtain ⟨es, σ', k1, k2⟩ := vcD_ok h
          refine ⟨idleEff :: es, σ', ⟨⟨hd, .inr ⟨?_, rfl⟩⟩, trivial, ?_⟩, by simpa using k2⟩
          · unfold wantedS; rw [hg]; dsimp only; rw [hdd]; dsimp only; rw [hb]
          · unfold idleEff; rw [app_put]; exact k1
        · exact h.elim
      · exact h.elim
theorem Walk.imp {K K' : Sta → Prop} : ∀ {l : List Oper} {es : List Eff} {σ : Sta}, (∀ s, K s → K' s) → Walk P tb ops K l es σ → Walk P tb ops K' l es σ
  | [], [], _, h, hw => h _ hw
  | _ :: _, _ :: _, _, h, ⟨h1, h2, h3⟩ => ⟨h1, h2, h3.imp h⟩
  | [], _ :: _, _, _, h => h.elim
  | _ :: _, [], _, _, h => h.elim

theorem draw_ok (hT : TabOk P tb) (hm : P.follows .mixedOrders = true) : DrawOk P (vcDraw P tb) := by
  refine ⟨hm, fun B ops K Q hK m S σ a w h hv => ?_⟩
  obtain ⟨es, σ', h1, h2, h3⟩ := vcD_ok hv
  have hKK : ∀ s s', Equ s s' → (∀ m S a w, Sim B m S s a w → Q .normal a w) → (∀ m S a w, Sim B m S s' a w → Q .normal a w) := fun s s' e hs m S a w h => hs m S a w (h.equ ⟨e.n.symm, fun i => (e.slots i).symm, fun k => (e.mem k).symm⟩)
  refine AnyS_ok (P := P) (tb := tb) (B := B) (E := fun i => es.getD i default) (K := fun s => ∀ m S a w, Sim B m S s a w → Q .normal a w) hT (fun σ m S a w h hs => hs m S a w h) _ _ σ m S a _ h.drewn ?_
  have hsz : ops.size = ops.toList.length := by simp
  rw [hsz]
  refine AnyS_text hKK ops.toList es 0 _ σ (by simp) (by simp) ?_ (Walk.imp (K := fun s => s = σ') (fun s hs m S a w h => hK m S s a w h (by rw [hs]; exact h3)) h1)
  simpa using h2
end
end Go.Proofs.YtplooifpgmlofaaGreat
