/- An iterator's contract out of its code. No condition. -/
import Derived.Test.YtplooifpgmlofaaV22
namespace Go.Proofs.Ytplooifpgmlofaa
open Go.RowKit

/-- What a slot says beyond a call of yield: data, and pointers that the iterator captured. -/
def sameP : PV → PV → Bool
  | .ptr k o, .ptr k' o' => k == k' && o == o'
  | _, _ => false
def staysP (caps : List PV) (p : PV) : Bool := p.keys.isEmpty || caps.any fun c => sameP p c
def pureP : PV → Bool
  | .d (.v _) => true
  | _ => false
def mapS (f : PV → Bool) (s : Slots) : Slots := s.map fun e => (e.1, if f e.2 then e.2 else .any)
def Sta.keepY (caps : List PV) (σ : Sta) : Sta := ⟨σ.n, mapS (staysP caps) σ.slots, σ.mem⟩
def Sta.pureY (σ : Sta) : Sta := ⟨σ.n, mapS pureP σ.slots, []⟩
theorem look_mapS {f : PV → Bool} {i : Nat} {p : PV} : ∀ {s : Slots}, look i (mapS f s) = some p → ∃ q, look i s = some q ∧ p = if f q then q else .any
  | [], h => by cases h
  | (j, q) :: r, h => by
    rcases look_cons (h : look i ((j, if f q then q else .any) :: mapS f r) = some p) with ⟨rfl, rfl⟩ | ⟨hne, h⟩
    · exact ⟨q, by simp [look], rfl⟩
    · obtain ⟨q', h1, h2⟩ := look_mapS h
      exact ⟨q', by unfold look; rw [if_neg hne]; exact h1, h2⟩
section
variable (P : Program) (tb : Tab) (l : Nat) (caps : List PV) (xs : List (List PV))
def vcYCall (f : Operand) (args : List Operand) (dst : Option Nat) (i : Option Nat) (σ : Sta) (N : Option Nat → Sta → Prop) : Prop :=
  match σ.ev f with
  | some (.d (.v (.func (.yield l') ⟨[]⟩ ⟨[]⟩))) => match i, evs σ args with
    | some n, some ps => match xs[n]? with
      | some x => l' = l ∧ All2 Le ps x ∧ N (some (n + 1)) ((σ.keepY caps).put dst (.b true)) ∧ N none (σ.pureY.put dst (.b false))
      | none => False
    | _, _ => False
  | some (.clo g cs) => match i, evs σ args with
    | some n, some ps => ((ps ++ cs).all fun p => p.keys.isEmpty) = true ∧ ∃ q : Value, Meets P g (ps ++ cs) [] (Ret (.d (.v q))) ∧ N (some n) ((σ.keepY caps).put dst (.d (.v q)))
    | _, _ => False
  | _ => False
def vcYOp (o : Oper) (i : Option Nat) (σ : Sta) (N : Option Nat → Sta → Prop) : Prop :=
  σ.has o.dst = true ∧ match o.op with
  | .call ⟨.value f, args, _⟩ => vcYCall P l caps xs f args.toList o.dst i σ N
  | op => match valOp tb σ op with
    | some (c, p) => c ∧ N i (σ.put o.dst p)
    | none => False
def vcYOps (ops : Array Oper) : List Oper → (Option Nat → Sta → Prop) → Option Nat → Sta → Prop
  | [], K, i, σ => K i σ
  | o :: r, K, i, σ => match o.guard with
    | none => vcYOp P tb l caps xs o i σ (vcYOps ops r K)
    | some (j, want) => match (ops[j]?).bind (·.dst) with
      | some d => match look d σ.slots with
        | some (.d (.v (.bool b))) => (b = want → vcYOp P tb l caps xs o i (σ.put (some d) (.b want)) (vcYOps ops r K)) ∧ (b = !want → σ.has o.dst = true ∧ vcYOps ops r K i ((σ.put (some d) (.b !want)).put o.dst idleV))
        | some (.d (.v (.tuple _))) => σ.has o.dst = true ∧ vcYOps ops r K i (σ.put o.dst idleV)
        | _ => False
      | none => False
/-- An operation of a region that draws and leaves the world alone. -/
def vcSOp (o : Oper) (σ : Sta) (N : Sta → Prop) : Prop :=
  σ.has o.dst = true ∧ match valOp tb σ o.op with
    | some (c, p) => c ∧ N (σ.put o.dst p)
    | none => False
def vcSOps (ops : Array Oper) : List Oper → (Sta → Prop) → Sta → Prop
  | [], K, σ => K σ
  | o :: r, K, σ => match o.guard with
    | none => vcSOp tb o σ (vcSOps ops r K)
    | some (j, want) => match (ops[j]?).bind (·.dst) with
      | some d => match look d σ.slots with
        | some (.d (.v (.bool b))) => (b = want → vcSOp tb o (σ.put (some d) (.b want)) (vcSOps ops r K)) ∧ (b = !want → σ.has o.dst = true ∧ vcSOps ops r K ((σ.put (some d) (.b !want)).put o.dst idleV))
        | some (.d (.v (.tuple _))) => σ.has o.dst = true ∧ vcSOps ops r K (σ.put o.dst idleV)
        | _ => False
      | none => False
def LaterY (σ σ' : Sta) : Prop := σ'.n = σ.n ∧ σ'.mem = σ.mem ∧ slotsIn σ σ'.slots
abbrev KY := Exit → Option Nat → Sta → Prop
def kSeqY (N : Option Nat → Sta → Prop) (K : KY) : KY
  | .normal, i, σ => N i σ
  | e, i, σ => K e i σ
def kBlockY (id : Nat) (K : KY) : KY
  | .exit j, i, σ => if j = id then K .normal i σ else K (.exit j) i σ
  | e, i, σ => K e i σ
def kLoopY (I : Nat → Option Nat → Sta → Prop) (n : Nat) (K : KY) : KY := kSeqY (fun i σ => ∃ n' σ', n' < n ∧ I n' i σ' ∧ LaterY σ σ') K
def vcYCode : Code → KY → Option Nat → Sta → Prop
  | .skip, K, i, σ => K .normal i σ
  | .label _, K, i, σ => K .normal i σ
  | .region _ ops false, K, i, σ => vcYOps P tb l caps xs ops ops.toList (K .normal) i σ
  | .region _ ops true, K, some n, σ => (P.follows .mixedOrders = true ∧ Region.lexB .any ops = true) ∧ vcSOps tb ops ops.toList (K .normal (some n)) (σ.keepY caps)
  | .seq x y, K, i, σ => vcYCode x (kSeqY (vcYCode y K) K) i σ
  | .cond c x y, K, i, σ => match σ.ev c with
    | some (.d (.v (.bool t))) => (t = true → vcYCode x K i σ) ∧ (t = false → vcYCode y K i σ)
    | _ => False
  | .block id c, K, i, σ => vcYCode c (kBlockY id K) i σ
  | .loop c, K, i, σ => ∃ I : Nat → Option Nat → Sta → Prop, (∃ n σ', I n i σ' ∧ LaterY σ σ') ∧ ∀ n i σ', I n i σ' → vcYCode c (kLoopY I n K) i σ'
  | .exit id, K, i, σ => K (.exit id) i σ
  | .ret, K, i, σ => K .ret i σ
  | _, _, _, _ => False
def kEndY : KY
  | .normal, i, _ => i = none ∨ i = some xs.length
  | .ret, i, _ => i = none ∨ i = some xs.length
  | _, _, _ => False
end

section
variable {P : Program} {tb : Tab} {caps : List PV} {xs : List (List PV)} {ext : List MObj} {J : Nat → Cells → World → Prop} {R : World → Prop} {vs : List Value} {l : Nat} {σ σ' : Sta} {a : Act} {w : World} {i : Option Nat} {m : Map} {S : Cells}
abbrev baseAt (w : World) (T : Nat → Prop) (S : Cells) (m : Map) : Base := ⟨w, T, S, m, [], [], fun _ => none, w⟩
/-- Where the iterator is: the rounds that it has asked for (none: it was told to stop). -/
def LiveY (J : Nat → Cells → World → Prop) (R : World → Prop) (vs : List Value) (caps : List PV) (ext : List MObj) : Option Nat → Sta → Act → World → Prop
  | some n, σ, a, w => σ.mem = extMem 1000000 ext ∧ ∃ S m T, J n S w ∧ All2 (Rep0 m w S) vs caps ∧ Sim (baseAt w T S m) m S σ a w
  | none, σ, a, w => R w ∧ Sim (baseAt w (fun _ => False) (fun _ _ => False) noMap) noMap (fun _ _ => False) σ a w
theorem LiveY.sim (h : LiveY J R vs caps ext i σ a w) : ∃ B m S, Sim B m S σ a w ∧ B.df = [] ∧ ∀ σ' a', σ'.mem = σ.mem → Sim B m S σ' a' w → LiveY J R vs caps ext i σ' a' w := by
  cases i with
  | some n =>
    obtain ⟨h0, S, m, T, h1, h2, h3⟩ := h
    exact ⟨_, m, S, h3, rfl, fun σ' a' e hs => ⟨e.trans h0, S, m, T, h1, h2, hs⟩⟩
  | none =>
    obtain ⟨h1, h2⟩ := h
    exact ⟨_, _, _, h2, rfl, fun σ' a' _ hs => ⟨h1, hs⟩⟩
theorem put_mem {d : Option Nat} {p : PV} : (σ.put d p).mem = σ.mem := by cases d <;> rfl
theorem LiveY.put (h : LiveY J R vs caps ext i σ a w) {d : Option Nat} (hd : σ.has d = true) (x : Value) : LiveY J R vs caps ext i (σ.put d (.d (.v x))) (a.put d x) w := by
  obtain ⟨B, m, S, h1, _, h2⟩ := h.sim
  exact h2 _ _ put_mem (h1.put (p := .d (.v x)) (.v x) d hd)
theorem LiveY.say (h : LiveY J R vs caps ext i σ a w) {d : Nat} {p : PV} (hl : look d σ.slots = some p) : LiveY J R vs caps ext i (σ.put (some d) p) a w := by
  obtain ⟨B, m, S, h1, _, h2⟩ := h.sim
  exact h2 _ _ put_mem (h1.say hl fun _ hr => hr)
theorem all2_both {α β : Type} {R R' : α → β → Prop} : ∀ {as : List α} {bs : List β}, All2 R as bs → All2 R' as bs → ∀ b ∈ bs, ∃ a, R a b ∧ R' a b
  | a :: _, b :: _, ⟨h1, h2⟩, ⟨k1, k2⟩, c, hc => by
    rcases List.mem_cons.1 hc with rfl | hc
    · exact ⟨a, h1, k1⟩
    · exact all2_both h2 k2 c hc
  | [], [], _, _, _, hc => by cases hc
  | [], _ :: _, h, _, _, _ => h.elim
  | _ :: _, [], h, _, _, _ => h.elim
/-- After a call that says nothing of the frame. -/
theorem refresh {T T' : Nat → Prop} {m' : Map} {S' : Cells} {w' : World} (h : Sim (baseAt w T S m) m S σ a w) (hc : All2 (Rep0 m w S) vs caps) (hc' : All2 (Rep0 m' w' S') vs caps) (hM : MemOk (baseAt w' T' S' m') m' S' (extMem 1000000 ext) w')
    (hS : ∀ b o, S b o → S' b o) (hcell : ∀ b o, S b o → w'.cell? ⟨b, o, none⟩ = w.cell? ⟨b, o, none⟩) (hmem : σ.mem = extMem 1000000 ext) : Sim (baseAt w' T' S' m') m' S' (σ.keepY caps) a w' := by
  rw [← hmem] at hM
  refine { hM with defers := h.defers, size := h.size, frozen := h.frozen, slots := fun i p hp => ?_ }
  obtain ⟨q, h1, rfl⟩ := look_mapS hp
  obtain ⟨v, h2, h3⟩ := h.slots i q h1
  refine ⟨v, h2, ?_⟩
  split
  · rename_i hq
    unfold staysP at hq
    simp only [Bool.or_eq_true, List.isEmpty_iff, List.any_eq_true] at hq
    rcases hq with hq | ⟨c, hcm, hq⟩
    · exact h3.keep hS hcell fun k hk => by rw [hq] at hk; cases hk
    · unfold sameP at hq
      split at hq
      · rename_i k o k' o'
        simp only [Bool.and_eq_true, beq_iff_eq] at hq
        obtain ⟨rfl, rfl⟩ := hq
        obtain ⟨v1, g1, g2⟩ := all2_both hc hc' _ hcm
        obtain ⟨b, c, e1, rfl⟩ := g1
        obtain ⟨b', c', e2, rfl⟩ : ∃ b c, m k = some ⟨some b, c⟩ ∧ v = .pointer (some ⟨b, o, none⟩) := h3
        rw [e1] at e2
        cases e2
        exact g2
      · cases hq
  · trivial
theorem stopped {B : Base} {w' : World} (h : Sim B m S σ a w) (hd : B.df = []) (hg : B.gh = fun _ => none) : Sim (baseAt w' (fun _ => False) (fun _ _ => False) noMap) noMap (fun _ _ => False) σ.pureY a w' :=
  { dom := fun _ _ hk => (by cases hk), objs := fun _ _ ho => (by cases ho), subs := fun _ _ _ _ hk => (by cases hk), subx := fun _ _ _ _ _ _ hb => .inr (.inr ⟨_, _, hb⟩), parts := fun _ _ _ hk => (noMap_has hk).elim, young := fun _ _ hk => (noMap_has hk).elim, grow := Grow.refl _ _, sold := fun _ _ hs => hs, snew := fun _ _ hs _ => hs, sin := fun _ _ hs => hs.elim, scell := fun _ _ hs => hs.elim, ext := fun _ _ _ _ hk => (by cases hk), marks := fun _ hx => nomatch hx
    defers := h.defers.trans hd, size := h.size, frozen := fun i hi => (h.frozen i hi).trans (by rw [hg]), slots := fun i p hp => by
      obtain ⟨q, h1, rfl⟩ := look_mapS hp
      obtain ⟨v, h2, h3⟩ := h.slots i q h1
      refine ⟨v, h2, ?_⟩
      split
      · rename_i hq
        unfold pureP at hq
        split at hq
        · rename_i x
          have h3 : RepD w S v (.v x) := h3
          cases h3
          exact RepD.v _
        · cases hq
      · trivial }
/-- What the iterator is given, and what a call of yield does. -/
structure GivenY (P : Program) (l : Nat) (J : Nat → Cells → World → Prop) (R : World → Prop) (vs : List Value) (caps : List PV) (ext : List MObj) (xs : List (List PV)) : Prop where
  at_ : ∀ i S W, J i S W → ∃ m T, All2 (Rep0 m W S) vs caps ∧ MemOk ⟨W, T, S, m, [], [], fun _ => none, W⟩ m S (extMem 1000000 ext) W
  grow : ∀ i S W W', J i S W → Grow (fun _ => False) W W' → J i S W'
  yield_ : ∀ i S W x (args : Array Value), J i S W → xs[i]? = some x → All2 (Rep noMap W S) args.toList x → YldAt P l args W fun e W' =>
      (e = .returned (.bool true) ∧ ∃ S', J (i + 1) S' W' ∧ ∀ b o, S b o → S' b o ∧ W'.cell? ⟨b, o, none⟩ = W.cell? ⟨b, o, none⟩) ∨ (e = .returned (.bool false) ∧ R W')
  keys : ∀ x ∈ xs, ∀ p ∈ x, p.keys = []
theorem yield_run {o : Oper} {f : Operand} {args : Array Operand} {tys : Array TypeId} (ho : o.op = .call ⟨.value f, args, tys⟩) (hf : a.eval f = .func (.yield l) #[] #[]) : (execOp a.eval o).run P w = (Instr.yield l (args.map a.eval)).run P w := by
  obtain ⟨dst, op, ty, pos, after, guard⟩ := o
  subst ho
  simp only [execOp, resolve, hf, Deferred.ofValue, invoke, Sem.run_bind, Sem.run_pure, Result.andThen_ok]
  simp
theorem vcYOp_ok (hT : TabOk P tb) (G : GivenY P l J R vs caps ext xs) (h : LiveY J R vs caps ext i σ a w) {o : Oper} {N : Option Nat → Sta → Prop} {next : Act → World → Prop} {Q : Exit → Act → World → Prop} (hv : vcYOp P tb l caps xs o i σ N)
    (hK : ∀ i σ a w, LiveY J R vs caps ext i σ a w → N i σ → next a w) : o.wpIn (rd none) 0 P a w next Q := by
  obtain ⟨hd, hv⟩ := hv
  obtain ⟨B, m, S, hs, hB, hput⟩ := h.sim
  split at hv
  · rename_i f args tys hop
    unfold vcYCall at hv
    split at hv
    · rename_i l' hf
      split at hv
      · rename_i n ps hps
        split at hv
        · rename_i x hx
          obtain ⟨rfl, hle, hk1, hk2⟩ := hv
          obtain ⟨h0, S, m, T, hJ, hc, hs⟩ := h
          have hfe : a.eval f = .func (.yield l') #[] #[] := ev_v hs hf
          have hargs : All2 (Rep noMap w S) (args.map a.eval).toList x := by
            have h1 := evs_ok hs hps
            have key : ∀ {us : List Value} {ps x : List PV}, All2 (Rep m w S) us ps → All2 Le ps x → (∀ p ∈ x, p.keys = []) → All2 (Rep noMap w S) us x := by
              intro us
              induction us with
              | nil => intro ps x h1 h2 _; cases ps with
                | nil => cases x with
                  | nil => trivial
                  | cons _ _ => exact h2.elim
                | cons _ _ => exact h1.elim
              | cons v us ih => intro ps x h1 h2 h3; cases ps with
                | nil => exact h1.elim
                | cons p ps => cases x with
                  | nil => exact h2.elim
                  | cons q x => exact ⟨(h1.1.le h2.1).keep (fun _ _ hs => hs) (fun _ _ _ => rfl) fun k hk => (by rw [h3 q (List.mem_cons_self ..)] at hk; cases hk), ih h1.2 h2.2 fun p hp => h3 p (List.mem_cons_of_mem _ hp)⟩
            rw [Array.toList_map]
            exact key h1 hle (G.keys x (List.mem_of_getElem? hx))
          obtain ⟨fn, tmps, assign, body, g1, g2⟩ := G.yield_ n S w x _ hJ hx hargs
          refine ⟨fun _ _ => trivial, ?_⟩
          show o.uponIn (rd none) 0 P a next Q ((execOp a.eval o).run P w)
          rw [yield_run hop hfe, g1]
          refine ⟨fun e => absurd e (rd_depth none), g2.mono ?_⟩
          rintro e w' (⟨rfl, S', hJ', hcell⟩ | ⟨rfl, hR⟩)
          · obtain ⟨m', T', k1, k2⟩ := G.at_ _ _ _ hJ'
            have h3 := refresh hs hc k1 k2 (fun b o hb => (hcell b o hb).1) (fun b o hb => (hcell b o hb).2) h0
            exact hK _ _ _ _ (LiveY.put (i := some (n + 1)) (σ := σ.keepY caps) ⟨h0, S', m', T', hJ', k1, h3⟩ (d := o.dst) hd (.bool true)) hk1
          · exact hK _ _ _ _ (LiveY.put (i := none) (σ := σ.pureY) ⟨hR, stopped hs rfl rfl⟩ (d := o.dst) hd (.bool false)) hk2
        · exact hv.elim
      · exact hv.elim
    · rename_i g cs hf
      split at hv
      · rename_i n ps hps
        obtain ⟨hk, q, hm, hn⟩ := hv
        obtain ⟨h0, S, m, T, hJ, hc, hs⟩ := h
        obtain ⟨us, e1, e2⟩ : ∃ vs : List Value, a.eval f = .func (.func g) #[] vs.toArray ∧ All2 (Rep0 m w S) vs cs := ev_ok hs hf
        have hargs : All2 (Rep noMap w S) (args.toList.map a.eval ++ us) (ps ++ cs) := ((evs_ok hs hps).app (e2.imp fun _ _ _ hr => Rep.of0 hr)).imp fun v p hp hr =>
          hr.keep (fun _ _ hs => hs) (fun _ _ _ => rfl) fun k hk' => by
            have := List.all_eq_true.1 hk p hp
            rw [List.isEmpty_iff] at this
            rw [this] at hk'
            cases hk'
        have hM : MemOk (baseAt w (fun _ => False) S noMap) noMap S (extMem 1000000 []) w :=
          { dom := fun k l hk => (by cases hk), objs := fun k o hk => (by simp [extMem, look] at hk), subs := fun _ _ _ _ hk => (by cases hk), subx := fun _ _ _ _ _ _ hb => .inr (.inr ⟨_, _, hb⟩), parts := fun _ _ _ hk => (noMap_has hk).elim, young := fun _ _ hk => (noMap_has hk).elim, grow := Grow.refl _ _, sold := fun _ _ hs => hs, snew := fun _ _ hs _ => hs, sin := hs.sin, scell := fun _ _ _ => rfl, ext := fun k l _ _ hk => .inl hk, marks := fun _ hx => nomatch hx }
        have hcall := hm.2 w S noMap (fun _ => False) (args.toList.map a.eval ++ us).toArray (by simpa using hargs) hM
        refine oper_in (ro := none) (.inl rfl) ?_
        unfold Oper.wp
        have hrun : (execOp a.eval o).run P w = .ok (.enter g (args.toList.map a.eval ++ us).toArray) w := by
          obtain ⟨dst, op, ty, pos, after, guard⟩ := o
          dsimp only at hop
          subst hop
          simp only [execOp, resolve, e1, Deferred.ofValue, invoke, Sem.run_bind, Sem.run_pure, Result.andThen_ok]
          rw [← hm.1]
          congr 2
          simp
        rw [hrun]
        refine hcall.mono ?_
        rintro e w' ⟨r, v, m', S', rfl, rfl, h1, h2, _⟩
        have h1 : RepD w' S' v (.v q) := h1
        cases h1
        have hg : Grow (fun _ => False) w w' := h2.grow
        have hJ' := G.grow _ _ _ _ hJ hg
        obtain ⟨m2, T2, k1, k2⟩ := G.at_ _ _ _ hJ'
        have h3 := refresh hs hc k1 k2 (fun b o hb => hb) (hg.cells hs.sin fun _ _ _ h => h) h0
        exact hK _ _ _ _ (LiveY.put (i := some n) (σ := σ.keepY caps) ⟨h0, S, m2, T2, hJ', k1, h3⟩ (d := o.dst) hd q) hn
      · exact hv.elim
    · exact hv.elim
  · split at hv
    · rename_i c p hp
      obtain ⟨r, h1, h2⟩ := val_ok (o := o) hT hs hp hv.1
      exact oper_in (ro := none) (.inl rfl) (upon_val h1 (hK _ _ _ _ (hput _ _ put_mem (hs.put h2 o.dst hd)) hv.2))
    · exact hv.elim
theorem vcYOps_ok (hT : TabOk P tb) (G : GivenY P l J R vs caps ext xs) {ops : Array Oper} {K : Option Nat → Sta → Prop} {Q : Exit → Act → World → Prop} (hK : ∀ i σ a w, LiveY J R vs caps ext i σ a w → K i σ → Q .normal a w) : ∀ (ls : List Oper) {i : Option Nat} {σ : Sta} {a : Act} {w : World},
    LiveY J R vs caps ext i σ a w → vcYOps P tb l caps xs ops ls K i σ → wpListIn (rd none) 0 P ops Q ls a w
  | [], i, σ, a, w, h, hv => hK _ _ _ _ h hv
  | o :: r, i, σ, a, w, h, hv => by
    have ih := fun i' σ' a' w' (h' : LiveY J R vs caps ext i' σ' a' w') (hv' : vcYOps P tb l caps xs ops r K i' σ') => vcYOps_ok hT G hK r h' hv'
    obtain ⟨B, m, S, hs, _, _⟩ := h.sim
    unfold vcYOps at hv
    unfold wpListIn
    split at hv
    · rename_i hg
      rw [if_pos (by simp [Region.wanted, hg])]
      exact vcYOp_ok hT G h hv ih
    · rename_i j want hg
      split at hv
      · rename_i d hd
        split at hv
        · rename_i b hb
          obtain ⟨v, h1, h2⟩ := hs.slots d _ hb
          have h2' : RepD w S v (.v (.bool b)) := h2
          cases h2'
          have hy : yielded ops a.tmps j = some b := by simp only [yielded, hd, Option.bind_some, h1]
          by_cases hbw : b = want
          · subst hbw
            rw [if_pos (by simp [Region.wanted, hg, hy])]
            exact vcYOp_ok hT G (h.say hb) (hv.1 rfl) ih
          · have hbn : b = !want := by cases b <;> cases want <;> simp_all
            subst hbn
            rw [if_neg (by simp [Region.wanted, hg, hy])]
            obtain ⟨c1, c2⟩ := hv.2 rfl
            exact ⟨fun _ _ => trivial, ih _ _ _ _ ((h.say hb).put (d := o.dst) (by exact c1) undef) c2⟩
        · rename_i us hb
          obtain ⟨v, h1, h2⟩ := hs.slots d _ hb
          have h2' : RepD w S v (.v (.tuple us)) := h2
          cases h2'
          have hy : yielded ops a.tmps j = none := by simp only [yielded, hd, Option.bind_some, h1]
          rw [if_neg (by simp [Region.wanted, hg, hy])]
          exact ⟨fun _ _ => trivial, ih _ _ _ _ (h.put (d := o.dst) (by exact hv.1) undef) hv.2⟩
        · exact hv.elim
      · exact hv.elim
theorem vcSOp_ok (hT : TabOk P tb) {B : Base} (h : Sim B m S σ a w) {o : Oper} {N : Sta → Prop} {next : Act → Prop} (hv : vcSOp tb o σ N) (hK : ∀ σ' a', Sim B m S σ' a' w → σ'.mem = σ.mem → N σ' → next a') : o.still P a w next := by
  obtain ⟨hd, hv⟩ := hv
  split at hv
  · rename_i c p hp
    obtain ⟨r, h1, h2⟩ := val_ok (o := o) hT h hp hv.1
    unfold Oper.still
    rw [h1]
    exact ⟨rfl, hK _ _ (h.put h2 o.dst hd) put_mem hv.2⟩
  · exact hv.elim
theorem vcSOps_ok (hT : TabOk P tb) {B : Base} {ops : Array Oper} {K : Sta → Prop} {Q : Act → Prop} {M : Mem} (hK : ∀ σ a, Sim B m S σ a w → σ.mem = M → K σ → Q a) : ∀ (ls : List Oper) {σ : Sta} {a : Act}, Sim B m S σ a w → σ.mem = M → vcSOps tb ops ls K σ → wpStill P ops w Q ls a
  | [], σ, a, h, hM, hv => hK _ _ h hM hv
  | o :: r, σ, a, h, hM, hv => by
    have ih := fun σ' a' (h' : Sim B m S σ' a' w) (hM' : σ'.mem = M) (hv' : vcSOps tb ops r K σ') => vcSOps_ok hT hK r h' hM' hv'
    unfold vcSOps at hv
    unfold wpStill
    split at hv
    · rename_i hg
      rw [if_pos (by simp [Region.wanted, hg])]
      exact vcSOp_ok hT h hv fun σ' a' h' hm' hv' => ih _ _ h' (hm'.trans hM) hv'
    · rename_i j want hg
      split at hv
      · rename_i d hd
        split at hv
        · rename_i b hb
          obtain ⟨v, h1, h2⟩ := h.slots d _ hb
          have h2' : RepD w S v (.v (.bool b)) := h2
          cases h2'
          have hy : yielded ops a.tmps j = some b := by simp only [yielded, hd, Option.bind_some, h1]
          have hsay := h.say hb fun v hr => hr
          by_cases hbw : b = want
          · subst hbw
            rw [if_pos (by simp [Region.wanted, hg, hy])]
            exact vcSOp_ok hT hsay (hv.1 rfl) fun σ' a' h' hm' hv' => ih _ _ h' (hm'.trans hM) hv'
          · have hbn : b = !want := by cases b <;> cases want <;> simp_all
            subst hbn
            rw [if_neg (by simp [Region.wanted, hg, hy])]
            obtain ⟨c1, c2⟩ := hv.2 rfl
            exact ih _ _ (hsay.put (p := idleV) (v := undef) (RepD.v undef) o.dst (by exact c1)) (by rw [put_mem, put_mem]; exact hM) c2
        · rename_i us hb
          obtain ⟨v, h1, h2⟩ := h.slots d _ hb
          have h2' : RepD w S v (.v (.tuple us)) := h2
          cases h2'
          have hy : yielded ops a.tmps j = none := by simp only [yielded, hd, Option.bind_some, h1]
          rw [if_neg (by simp [Region.wanted, hg, hy])]
          exact ih _ _ (h.put (p := idleV) (v := undef) (RepD.v undef) o.dst (by exact hv.1)) (by rw [put_mem]; exact hM) hv.2
        · exact hv.elim
      · exact hv.elim
theorem laterY_ok (h : LiveY J R vs caps ext i σ a w) (hl : LaterY σ σ') : LiveY J R vs caps ext i σ' a w := by
  obtain ⟨B, m, S, hs, _, h2⟩ := h.sim
  obtain ⟨e1, e2, e3⟩ := hl
  refine h2 _ _ e2 ?_
  have hM : MemOk B m S σ'.mem w := by rw [e2]; exact hs.toMemOk
  refine { hM with defers := hs.defers, size := hs.size.trans (by rw [e1]), frozen := by rw [e1]; exact hs.frozen, slots := fun i p hp => ?_ }
  obtain ⟨q, hq, hql⟩ := slotsIn_look e3 i p hp
  obtain ⟨v, g1, g2⟩ := hs.slots i q hq
  exact ⟨v, g1, g2.le hql⟩
theorem vcYCode_ok (hT : TabOk P tb) (G : GivenY P l J R vs caps ext xs) : ∀ (c : Code) {K : KY} {Q : Exit → Act → World → Prop}, (∀ e i σ a w, LiveY J R vs caps ext i σ a w → K e i σ → Q e a w) → ∀ {i : Option Nat} {σ : Sta} {a : Act} {w : World},
    LiveY J R vs caps ext i σ a w → vcYCode P tb l caps xs c K i σ → c.wpIn (rd none) 0 P Q a w
  | .skip, K, Q, hK, i, σ, a, w, h, hv => wpIn_skip (hK _ _ _ _ _ h hv)
  | .label _, K, Q, hK, i, σ, a, w, h, hv => wpIn_label (hK _ _ _ _ _ h hv)
  | .region id ops false, K, Q, hK, i, σ, a, w, h, hv => wpIn_region_list (vcYOps_ok hT G (fun i σ a w h hk => hK .normal i σ a w h hk) ops.toList h hv)
  | .region id ops true, K, Q, hK, none, σ, a, w, h, hv => hv.elim
  | .region id ops true, K, Q, hK, some n, σ, a, w, h, hv => by
    obtain ⟨⟨hm, hB⟩, hv⟩ := hv
    obtain ⟨h0, S, m, T, hJ, hc, hs⟩ := h
    have hg : Grow (fun _ => False) w { w with drawn := w.drawn + 1 } := Grow.drewn _ w
    have hJ' := G.grow _ _ _ _ hJ hg
    obtain ⟨m2, T2, k1, k2⟩ := G.at_ _ _ _ hJ'
    have h3 := refresh hs hc k1 k2 (fun b o hb => hb) (hg.cells hs.sin fun _ _ _ h => h) h0
    simp only [Region.lexB, Bool.and_eq_true] at hB
    have hst := vcSOps_ok (P := P) (ops := ops) (K := K .normal (some n)) (Q := fun a' => normalQ Q .normal a' { w with drawn := w.drawn + 1 }) hT (fun σ' a' hs' hm' hk => hK .normal (some n) σ' a' _ ⟨hm'.trans h0, S, m2, T2, hJ', k1, hs'⟩ hk) ops.toList h3 rfl hv
    refine region_any_in hm (.inl rfl) (wpAny_of_still (Q := fun a' => normalQ Q .normal a' { w with drawn := w.drawn + 1 }) (fun _ h => h) _ _ _ ?_)
    have := wpAnyS_lex (md := .any) hB.1 ops.toList 0 (Array.replicate ops.size false) a (by simp) (by simpa using hB.2) hst
    simpa using this
  | .seq x y, K, Q, hK, i, σ, a, w, h, hv => by
    refine wpIn_seq (vcYCode_ok hT G x (K := kSeqY (vcYCode P tb l caps xs y K) K) ?_ h hv)
    intro e i σ a w h hk
    cases e with
    | normal => exact vcYCode_ok hT G y hK h hk
    | _ => exact hK _ _ _ _ _ h hk
  | .cond c x y, K, Q, hK, i, σ, a, w, h, hv => by
    obtain ⟨B, m, S, hs, _, _⟩ := h.sim
    unfold vcYCode at hv
    split at hv
    · rename_i t ht
      exact wpIn_cond_split (t := t) (ev_v hs ht) (fun e => vcYCode_ok hT G x hK h (hv.1 e)) fun e => vcYCode_ok hT G y hK h (hv.2 e)
    · exact hv.elim
  | .block id c, K, Q, hK, i, σ, a, w, h, hv => by
    refine wpIn_block (vcYCode_ok hT G c (K := kBlockY id K) ?_ h hv)
    intro e i σ a w h hk
    cases e with
    | exit j =>
      unfold kBlockY at hk
      unfold Exit.inBlock
      dsimp only at hk ⊢
      split at hk
      · rename_i e; rw [if_pos e]; exact hK _ _ _ _ _ h hk
      · rename_i e; rw [if_neg e]; exact hK _ _ _ _ _ h hk
    | _ => exact hK _ _ _ _ _ h hk
  | .loop c, K, Q, hK, i, σ, a, w, h, hv => by
    obtain ⟨I, ⟨n0, σ0, h0, hl⟩, hr⟩ := hv
    refine wp_rounds_in (fun n a w => ∃ i σ, LiveY J R vs caps ext i σ a w ∧ I n i σ) ?_ (n := n0) ⟨i, σ0, laterY_ok h hl, h0⟩
    rintro n a w ⟨i, σ, hs, hi⟩
    refine vcYCode_ok hT G c (K := kLoopY I n K) ?_ hs (hr n i σ hi)
    intro e i σ a w h hk
    cases e with
    | normal =>
      obtain ⟨n', σ', h1, h2, h3⟩ := hk
      exact ⟨n', h1, i, σ', laterY_ok h h3, h2⟩
    | _ => exact hK _ _ _ _ _ h hk
  | .exit id, K, Q, hK, i, σ, a, w, h, hv => wpIn_exit (hK _ _ _ _ _ h hv)
  | .ret, K, Q, hK, i, σ, a, w, h, hv => wpIn_ret (hK _ _ _ _ _ h hv)
  | .rangeFunc .., _, _, _, _, _, _, _, _, hv => hv.elim
  | .scope _, _, _, _, _, _, _, _, _, hv => hv.elim
  | .goto _, _, _, _, _, _, _, _, _, hv => hv.elim
  | .refuse _, _, _, _, _, _, _, _, _, hv => hv.elim
/-- An iterator's contract out of its body. -/
theorem iters_of (hT : TabOk P tb) {g : Nat} {fn : Func} {c : Code} (hf : P.funcs[g]? = some fn) (hb : fn.body = some c) (hp : Plain P g) (hn : (decide (fn.ntmps < 10000) && decide (caps.length + 1 ≤ fn.ntmps)) = true) (hr : fn.results = #[]) (hxk : ∀ x ∈ xs, ∀ p ∈ x, p.keys = [])
    (hv : ∀ l, vcYCode P tb l caps xs c (kEndY xs) (some 0) ⟨fn.ntmps, argSlots 0 (.d (.v (.func (.yield l) #[] #[])) :: caps), extMem 1000000 ext⟩) : Iters P g caps ext xs := by
  simp only [Bool.and_eq_true, decide_eq_true_eq] at hn
  obtain ⟨hs, hl⟩ := hn
  refine ⟨hp, fun l vs J R w S hat hgr hgR hy hJ => callsIn_of_wp_marks (F := rd none) (n := 0) hf hb trivial ?_⟩
  have G : GivenY P l J R vs.toList caps ext xs := ⟨hat, hgr, hy, hxk⟩
  obtain ⟨m, T, h1, h2⟩ := hat _ _ _ hJ
  have hwid : wid fn.ntmps = fn.ntmps := Nat.mod_eq_of_lt hs
  have hlen : vs.size = caps.length := by rw [← Array.length_toList]; exact h1.len
  have hargs : All2 (Rep m w S) (#[Value.func (.yield l) #[] #[]] ++ vs).toList (.d (.v (.func (.yield l) #[] #[])) :: caps) := by
    rw [Array.toList_append]
    exact ⟨RepD.v _, h1.imp fun _ _ _ hr => Rep.of0 hr⟩
  have hsz : (#[Value.func (.yield l) #[] #[]] ++ vs).size = caps.length + 1 := by simp; omega
  have hsim : Sim (baseAt w T S m) m S ⟨fn.ntmps, argSlots 0 (.d (.v (.func (.yield l) #[] #[])) :: caps), extMem 1000000 ext⟩ { tmps := (#[Value.func (.yield l) #[] #[]] ++ vs) ++ Array.replicate (fn.ntmps - (#[Value.func (.yield l) #[] #[]] ++ vs).size) undef, defers := [] } w := by
    refine { h2 with defers := rfl, size := ?_, frozen := fun i hi => absurd hi (by show ¬ froz fn.ntmps i = true; unfold froz; rw [if_pos hs]; exact Bool.false_ne_true), slots := fun i p hp => ?_ }
    · show Array.size _ = wid fn.ntmps
      rw [hwid, Array.size_append, Array.size_replicate, hsz]
      omega
    · obtain ⟨_, g2⟩ := look_args hp
      obtain ⟨v, g3, g4⟩ := hargs.get (i := i) (by simpa using g2)
      refine ⟨v, ?_, g4⟩
      have hi := (List.getElem?_eq_some_iff.1 g3).1
      show (_ ++ Array.replicate _ undef)[i]? = some v
      rw [Array.getElem?_append_left (by rw [← Array.length_toList]; exact hi)]
      rw [← Array.getElem?_toList]
      exact g3
  refine vcYCode_ok hT G c (K := kEndY xs) ?_ (i := some 0) ⟨rfl, S, m, T, hJ, h1, hsim⟩ (hv l)
  have fin : ∀ i σ (a : Act) w', LiveY J R vs.toList caps ext i σ a w' → (i = none ∨ i = some xs.length) → LeavesInM (rd none) 0 P fn a.tmps (fun e w' => (∃ v, e = .returned v) ∧ ((∃ S', J xs.length S' w') ∨ R w')) a.defers .returning w' := by
    intro i σ a w' h hi
    obtain ⟨B, m, S, h1, h2, _⟩ := h.sim
    rw [h1.defers, h2]
    refine ⟨.tuple #[], ?_, ⟨_, rfl⟩, ?_⟩
    · unfold results
      rw [hr]
      simp
    · rcases hi with rfl | rfl
      · exact .inr h.1
      · obtain ⟨_, S, _, _, hj, _⟩ := h
        exact .inl ⟨S, hj⟩
  intro e i σ a w' h hk
  cases e with
  | normal => exact fin i σ a w' h hk
  | ret => exact fin i σ a w' h hk
  | _ => exact hk.elim
section
variable {ops : Array Oper} {K : Option Nat → Sta → Prop} {o : Oper} {r : List Oper}
@[simp] theorem vcYOps_nil : vcYOps P tb l caps xs ops [] K i σ = K i σ := _root_.id rfl
@[simp] theorem vcYOps_cons : vcYOps P tb l caps xs ops (o :: r) K i σ = (match o.guard with
    | none => vcYOp P tb l caps xs o i σ (vcYOps P tb l caps xs ops r K)
    | some (j, want) => match (ops[j]?).bind (·.dst) with
      | some d => match look d σ.slots with
        | some (.d (.v (.bool b))) => both b want (vcYOp P tb l caps xs o i (σ.put (some d) (.b want)) (vcYOps P tb l caps xs ops r K)) (σ.has o.dst = true ∧ vcYOps P tb l caps xs ops r K i ((σ.put (some d) (.b !want)).put o.dst idleV))
        | some (.d (.v (.tuple _))) => σ.has o.dst = true ∧ vcYOps P tb l caps xs ops r K i (σ.put o.dst idleV)
        | _ => False
      | none => False) := _root_.id rfl
end
section
variable {ops : Array Oper} {K : Sta → Prop} {o : Oper} {r : List Oper}
@[simp] theorem vcSOp_eq {N : Sta → Prop} : vcSOp tb o σ N = (σ.has o.dst = true ∧ match valOp tb σ o.op with
    | some (c, p) => c ∧ N (σ.put o.dst p)
    | none => False) := _root_.id rfl
@[simp] theorem vcSOps_nil : vcSOps tb ops [] K σ = K σ := _root_.id rfl
@[simp] theorem vcSOps_cons : vcSOps tb ops (o :: r) K σ = (match o.guard with
    | none => vcSOp tb o σ (vcSOps tb ops r K)
    | some (j, want) => match (ops[j]?).bind (·.dst) with
      | some d => match look d σ.slots with
        | some (.d (.v (.bool b))) => both b want (vcSOp tb o (σ.put (some d) (.b want)) (vcSOps tb ops r K)) (σ.has o.dst = true ∧ vcSOps tb ops r K ((σ.put (some d) (.b !want)).put o.dst idleV))
        | some (.d (.v (.tuple _))) => σ.has o.dst = true ∧ vcSOps tb ops r K (σ.put o.dst idleV)
        | _ => False
      | none => False) := _root_.id rfl
end
section
variable {K : KY}
@[simp] theorem vcY_skip : vcYCode P tb l caps xs .skip K i σ = K .normal i σ := _root_.id rfl
@[simp] theorem vcY_region {id : Nat} {ops : Array Oper} : vcYCode P tb l caps xs (.region id ops false) K i σ = vcYOps P tb l caps xs ops ops.toList (K .normal) i σ := _root_.id rfl
@[simp] theorem vcY_draw {id : Nat} {ops : Array Oper} {n : Nat} : vcYCode P tb l caps xs (.region id ops true) K (some n) σ = ((P.follows .mixedOrders = true ∧ Region.lexB .any ops = true) ∧ vcSOps tb ops ops.toList (K .normal (some n)) (σ.keepY caps)) := _root_.id rfl
@[simp] theorem vcY_seq {x y : Code} : vcYCode P tb l caps xs (.seq x y) K i σ = vcYCode P tb l caps xs x (kSeqY (vcYCode P tb l caps xs y K) K) i σ := _root_.id rfl
@[simp] theorem vcY_cond {c : Operand} {x y : Code} : vcYCode P tb l caps xs (.cond c x y) K i σ = (match σ.ev c with
    | some (.d (.v (.bool t))) => both t true (vcYCode P tb l caps xs x K i σ) (vcYCode P tb l caps xs y K i σ)
    | _ => False) := _root_.id rfl
@[simp] theorem vcY_block {id : Nat} {c : Code} : vcYCode P tb l caps xs (.block id c) K i σ = vcYCode P tb l caps xs c (kBlockY id K) i σ := _root_.id rfl
@[simp] theorem vcY_exit {id : Nat} : vcYCode P tb l caps xs (.exit id) K i σ = K (.exit id) i σ := _root_.id rfl
@[simp] theorem vcY_ret : vcYCode P tb l caps xs .ret K i σ = K .ret i σ := _root_.id rfl
theorem vcY_loop {c : Code} (I : Nat → Option Nat → Sta → Prop) (h0 : ∃ n σ', I n i σ' ∧ LaterY σ σ') (hr : ∀ n i σ', I n i σ' → vcYCode P tb l caps xs c (kLoopY I n K) i σ') : vcYCode P tb l caps xs (.loop c) K i σ := ⟨I, h0, hr⟩
@[simp] theorem kLoopY_normal {I : Nat → Option Nat → Sta → Prop} {n : Nat} : kLoopY I n K .normal i σ = ∃ n' σ', n' < n ∧ I n' i σ' ∧ LaterY σ σ' := rfl
@[simp] theorem kLoopY_exit {I : Nat → Option Nat → Sta → Prop} {n id : Nat} : kLoopY I n K (.exit id) i σ = K (.exit id) i σ := rfl
@[simp] theorem kLoopY_ret {I : Nat → Option Nat → Sta → Prop} {n : Nat} : kLoopY I n K .ret i σ = K .ret i σ := rfl
end
attribute [simp] vcYOp vcYCall kSeqY kBlockY kEndY Sta.keepY Sta.pureY mapS staysP sameP pureP LaterY slotsIn
end
section
variable {P : Program} {tb : Tab} {D : DrawT} {K : Exit → Sta → Prop} {σ : Sta}
/-- The frozen slots, as one number. -/
def maskOf (l : List Nat) : Nat := l.foldr (fun d m => m ||| 2 ^ d) 0
theorem maskOf_bit (d : Nat) : ∀ l : List Nat, (maskOf l).testBit d = l.contains d
  | [] => by simp [maskOf]
  | j :: l => by
    have := maskOf_bit d l
    unfold maskOf at this ⊢
    rw [List.foldr_cons, Nat.testBit_or, this, Nat.testBit_two_pow, List.contains_cons]
    by_cases h : d = j
    · subst h; simp
    · have h' : ¬ j = d := fun e => h e.symm
      simp [h, h']
theorem maskOf_pos : ∀ {l : List Nat} {d : Nat}, d ∈ l → 0 < maskOf l := fun {l d} h => by
  have h1 : (maskOf l).testBit d = true := by rw [maskOf_bit]; simpa using h
  rcases Nat.eq_zero_or_pos (maskOf l) with h0 | h0
  · rw [h0] at h1; simp at h1
  · exact h0
@[simp high] theorem wid_mask {n : Nat} {l : List Nat} (h : n < 10000) : wid (n + 10000 * maskOf l) = n := by unfold wid; omega
@[simp high] theorem froz_mask {n d : Nat} {l : List Nat} (h : n < 10000) : froz (n + 10000 * maskOf l) d = l.contains d := by
  unfold froz
  have e : (n + 10000 * maskOf l) / 10000 = maskOf l := by omega
  rw [e, ← Nat.testBit_eq_decide_div_mod_eq, maskOf_bit]
  split
  · rename_i h1
    cases hc : l.contains d
    · rfl
    · have := maskOf_pos (l := l) (d := d) (by simpa using hc)
      omega
  · rfl
/-- A loop over a function, by the iterator's contract and what holds between the rounds. -/
theorem vc_range {g : Operand} {ps : Array Tmp} {x y : Code} (sp : RSpec) (hit : Iters P sp.f (sp.caps.map (PV.ren0 (toE sp.ks))) (sp.objs.map (MObj.ren (toE sp.ks))) sp.xs) (hB : rangeB σ ps x y sp = true) (hx : ∀ x ∈ sp.xs, x.length = ps.size ∧ ∀ p ∈ x, p.keys = [])
    (h0 : ∃ σ0, sp.I 0 σ0 ∧ Later σ σ0) (hI : ∀ i σi, sp.I i σi → rangeI g σ.n sp σi) (hr : ∀ i x' σi, sp.I i σi → sp.xs[i]? = some x' → vcCode P tb D x (kAssign (vcCode P tb D y (kRound sp.I i σ.n K))) (rangeS σ.n ps sp x' σi)) (hd : ∀ σn, sp.I sp.xs.length σn → K .normal σn) :
    vcCode P tb D (.rangeFunc g ps x y) K σ := ⟨sp, hit, hB, hx, h0, hI, hr, hd⟩
@[simp] theorem kRound_normal {I : Nat → Sta → Prop} {i n : Nat} : kRound I i n K .normal σ = ∃ σ', I (i + 1) σ' ∧ Later (outS n σ) σ' := rfl
@[simp] theorem kRound_ret {I : Nat → Sta → Prop} {i n : Nat} : kRound I i n K .ret σ = K .ret (outS n σ) := rfl
@[simp] theorem kRound_exit {I : Nat → Sta → Prop} {i n id : Nat} : kRound I i n K (.exit id) σ = K (.exit id) (outS n σ) := rfl
attribute [simp] kAssign rangeI rangeS slotsP outS
end
end Go.Proofs.Ytplooifpgmlofaa
