/- What is to be shown of code, of a function's end, of a function: a contract out of its body. No condition. -/
import Derived.Test.YtplooifpgmlofaaGreatV13i
namespace Go.Proofs.YtplooifpgmlofaaGreat
open Go.RowKit

structure DrawT where
  dr : Array Oper → (Sta → Prop) → Sta → Prop
  pre : List (Nat × List Prep)
instance : CoeFun DrawT fun _ => Array Oper → (Sta → Prop) → Sta → Prop := ⟨DrawT.dr⟩
instance : Coe (Array Oper → (Sta → Prop) → Sta → Prop) DrawT := ⟨fun d => ⟨d, []⟩⟩
def isRoom : Prep → Option (Nat × Nat)
  | .room k j => some (k, j)
  | _ => none
def prepK : List Prep → (Sta → Prop) → Sta → Prop
  | [], K, σ => K σ
  | p :: r, K, σ => match isRoom p with
    | some (k, j) => match roomOf σ k j with
      | some (σ1, σ2) => prepK r K σ1 ∧ prepK r K σ2
      | none => False
    | none => match p.run σ with
      | some σ' => prepK r K σ'
      | none => False
def preK (hs : List (Nat × List Prep)) (ops : Array Oper) (K : Sta → Prop) (σ : Sta) : Prop := match look (((ops[0]?).bind (·.dst)).getD 0) hs with
  | some pr => prepK pr K σ
  | none => K σ
section
variable (P : Program) (tb : Tab)
def kSeq (N : Sta → Prop) (K : Exit → Sta → Prop) : Exit → Sta → Prop
  | .normal, σ => N σ
  | e, σ => K e σ
def kBlock (id : Nat) (K : Exit → Sta → Prop) : Exit → Sta → Prop
  | .exit j, σ => if j = id then K .normal σ else K (.exit j) σ
  | e, σ => K e σ
def kLoop (I : Nat → Sta → Prop) (n : Nat) (K : Exit → Sta → Prop) : Exit → Sta → Prop := kSeq (fun σ => ∃ n' σ', n' < n ∧ I n' σ' ∧ Later σ σ') K
structure RSpec where
  f : Nat
  caps : List PV
  ks : List Nat
  objs : List MObj
  xs : List (List PV)
  mask : Nat
  I : Nat → Sta → Prop
def kAssign (N : Sta → Prop) : Exit → Sta → Prop
  | .normal, σ => N σ
  | _, _ => False
def kRound (I : Nat → Sta → Prop) (i n : Nat) (K : Exit → Sta → Prop) : Exit → Sta → Prop
  | .normal, σ => ∃ σ', I (i + 1) σ' ∧ Later (outS n σ) σ'
  | .ret, σ => K .ret (outS n σ)
  | .exit id, σ => K (.exit id) (outS n σ)
  | _, _ => False
def rangeB (σ : Sta) (ps : Array Tmp) (assign body : Code) (sp : RSpec) : Bool :=
  calmC assign && calmC body && decide (σ.n < 10000) && nodupB sp.ks && (decide (sp.ks.length = sp.objs.length) && decide (sp.ks.length < 1000000)) && sp.objs.all (fun o => o.keys.all fun j => sp.ks.contains j) && sp.caps.all (fun p => p.keys0.all fun j => sp.ks.contains j) &&
  (ps.toList.all fun p => Sta.has ⟨σ.n + 10000 * sp.mask, [], []⟩ (some p))
def rangeI (g : Operand) (n : Nat) (sp : RSpec) (σ : Sta) : Prop := σ.n = n ∧ σ.ev g = some (.clo sp.f sp.caps) ∧ All2 (fun k o => look k σ.mem = some o) sp.ks sp.objs
def rangeS (n : Nat) (ps : Array Tmp) (sp : RSpec) (x : List PV) (σ : Sta) : Sta := ⟨n + 10000 * sp.mask, slotsP ps.toList x σ.slots, σ.mem⟩
def vcCode (D : DrawT) : Code → (Exit → Sta → Prop) → Sta → Prop
  | .skip, K, σ => K .normal σ
  | .label _, K, σ => K .normal σ
  | .region _ ops draw, K, σ => preK D.pre ops (if draw then D ops (K .normal) else vcOps P tb ops ops.toList (K .normal)) σ
  | .seq x y, K, σ => vcCode D x (kSeq (vcCode D y K) K) σ
  | .cond c x y, K, σ => match σ.ev c with
    | some (.d (.v (.bool t))) => (t = true → vcCode D x K σ) ∧ (t = false → vcCode D y K σ)
    | _ => False
  | .block id c, K, σ => vcCode D c (kBlock id K) σ
  | .loop c, K, σ => ∃ I : Nat → Sta → Prop, (∃ n σ', I n σ' ∧ Later σ σ') ∧ ∀ n σ', I n σ' → vcCode D c (kLoop I n K) σ'
  | .exit id, K, σ => K (.exit id) σ
  | .ret, K, σ => K .ret σ
  | .rangeFunc g ps assign body, K, σ => ∃ sp : RSpec, Iters P sp.f (sp.caps.map (PV.ren0 (toE sp.ks))) (sp.objs.map (MObj.ren (toE sp.ks))) sp.xs ∧ rangeB σ ps assign body sp = true ∧ (∀ x ∈ sp.xs, x.length = ps.size ∧ ∀ p ∈ x, p.keys = []) ∧
      (∃ σ0, sp.I 0 σ0 ∧ Later σ σ0) ∧ (∀ i σi, sp.I i σi → rangeI g σ.n sp σi) ∧
      (∀ i x σi, sp.I i σi → sp.xs[i]? = some x → vcCode D assign (kAssign (vcCode D body (kRound sp.I i σ.n K))) (rangeS σ.n ps sp x σi)) ∧ (∀ σn, sp.I sp.xs.length σn → K .normal σn)
  | _, _, _ => False
end

section
variable {P : Program} {tb : Tab} {B : Base} {m : Map} {S : Cells} {σ σ' : Sta} {a : Act} {w : World}
theorem prepK_ok : ∀ {l : List Prep} {K : Sta → Prop} {m : Map} {S : Cells} {σ : Sta}, Sim B m S σ a w → prepK l K σ → ∃ m' S' σ', Sim B m' S' σ' a w ∧ K σ'
  | [], K, m, S, σ, h, hv => ⟨m, S, σ, h, hv⟩
  | p :: r, K, m, S, σ, h, hv => by
    unfold prepK at hv
    split at hv
    · split at hv
      · rename_i σ1 σ2 h1
        rcases room_ok h h1 with g | g
        · exact prepK_ok g hv.1
        · exact prepK_ok g hv.2
      · exact hv.elim
    · split at hv
      · rename_i σ1 h1
        obtain ⟨m1, S1, g⟩ := prep_ok h h1
        exact prepK_ok g hv
      · exact hv.elim
theorem preK_ok {hs : List (Nat × List Prep)} {ops : Array Oper} {K : Sta → Prop} (h : Sim B m S σ a w) (hv : preK hs ops K σ) : ∃ m' S' σ', Sim B m' S' σ' a w ∧ K σ' := by
  unfold preK at hv
  split at hv
  · exact prepK_ok h hv
  · exact ⟨m, S, σ, h, hv⟩
def DrawOk (P : Program) (D : DrawT) : Prop := P.follows .mixedOrders = true ∧
  ∀ (B : Base) (ops : Array Oper) (K : Sta → Prop) (Q : Exit → Act → World → Prop), (∀ m S σ a w, Sim B m S σ a w → K σ → Q .normal a w) → ∀ m S σ a w, Sim B m S σ a w → D ops K σ → wpAny P .any ops Q ops.size (Array.replicate ops.size false) a { w with drawn := w.drawn + 1 }
def Base.wm (B : Base) (L : List Nat) : Base := { B with ds := L.map fun d => (d, .deferred (some [])), df := L.map fun d => { target := .collected d, args := #[] } }

theorem all2_mem {R : Nat → MObj → Prop} : ∀ {ks : List Nat} {os : List MObj}, All2 R ks os → ∀ k ∈ ks, ∃ o ∈ os, R k o
  | k :: ks, o :: os, ⟨h1, h2⟩, j, hj => by
    rcases List.mem_cons.1 hj with rfl | hj
    · exact ⟨o, List.mem_cons_self .., h1⟩
    · obtain ⟨o', h3, h4⟩ := all2_mem h2 j hj
      exact ⟨o', List.mem_cons_of_mem _ h3, h4⟩
  | [], [], _, _, hj => by cases hj
  | [], _ :: _, h, _, _ => h.elim
  | _ :: _, [], h, _, _ => h.elim
theorem all2_looks {mem : Mem} {f : Nat → Nat} : ∀ {ks : List Nat} {os : List MObj}, All2 (fun k o => look k mem = some o) ks os → (ks.map fun k => ((look k mem).getD default).ren f) = os.map (MObj.ren f)
  | k :: ks, o :: os, ⟨h1, h2⟩ => by rw [List.map_cons, List.map_cons, h1, Option.getD_some, all2_looks h2]
  | [], [], _ => rfl
  | [], _ :: _, h => h.elim
  | _ :: _, [], h => h.elim
theorem MemOk.other {B B' : Base} {mem : Mem} (h : MemOk B m S mem w) (h1 : B'.w = B.w := by rfl) (h2 : B'.S = B.S := by rfl) (h3 : B'.cw = B.cw := by rfl) (h4 : B'.T = B.T := by rfl) (h5 : B'.m = B.m := by rfl) (h6 : B'.ds = [] := by rfl) : MemOk B' m S mem w :=
  { dom := h.dom, objs := h.objs, subs := h.subs, subx := by rw [h1, h5]; exact h.subx, parts := h.parts, young := by rw [h1, h4]; exact h.young, grow := by rw [h1, h4]; exact h.grow, sold := by rw [h2]; exact h.sold, snew := by rw [h1, h2]; exact h.snew, sin := h.sin, scell := by rw [h2, h3]; exact h.scell, ext := by rw [h1, h5]; exact h.ext, marks := by rw [h6]; exact fun _ hx => nomatch hx }
theorem range_ok {D : DrawT} {g : Operand} {ps : Array Tmp} {assign body : Code} {K : Exit → Sta → Prop} {Q : Exit → Act → World → Prop} {L : List Nat}
    (hA : ∀ (l : Nat) (B' : Base) (K' : Exit → Sta → Prop) (Q' : Exit → Act → World → Prop), calmC assign = true → (∀ e m S σ a w, Sim B' m S σ a w → K' e σ → Q' e a w) → ∀ m S σ a w, Sim B' m S σ a w → vcCode P tb D assign K' σ → assign.wpIn (rd (some l)) 0 P Q' a w)
    (hY : ∀ (l : Nat) (B' : Base) (K' : Exit → Sta → Prop) (Q' : Exit → Act → World → Prop), calmC body = true → (∀ e m S σ a w, Sim B' m S σ a w → K' e σ → Q' e a w) → ∀ m S σ a w, Sim B' m S σ a w → vcCode P tb D body K' σ → body.wpIn (rd (some l)) 0 P Q' a w)
    (hK : ∀ L e m S σ a w, L.Nodup → Sim (B.wm L) m S σ a w → K e σ → Q e a w) (hL : L.Nodup) (h : Sim (B.wm L) m S σ a w) (hv : vcCode P tb D (.rangeFunc g ps assign body) K σ) : (Code.rangeFunc g ps assign body).wpIn (rd none) 0 P Q a w := by
  obtain ⟨sp, hit, hB, hxs, ⟨σ0, hI0, hl0⟩, hsh, hround, hdone⟩ := hv
  unfold rangeB at hB
  simp only [Bool.and_eq_true, List.all_eq_true, decide_eq_true_eq, List.contains_eq_mem] at hB
  obtain ⟨⟨⟨⟨⟨⟨⟨cA, cY⟩, hn⟩, hnd⟩, hkl, hlen⟩, hok⟩, hck⟩, hps⟩ := hB
  obtain ⟨m0, S0, h0⟩ := later_ok h hl0
  refine wpIn_rangeFunc fun fn _ => ?_
  let rec0 : LoopState → Option Code → Loop := fun st pe => { state := st, pending := pe, fn, tmps := a.tmps, params := ps, assign, body, defers := w.heap.size }
  obtain ⟨W1, hW1⟩ : ∃ W1, (w.alloc (.deferred (some []))).alloc (.loop (rec0 .ready none)) = W1 := ⟨_, rfl⟩
  have hg1 : Grow (fun _ => False) w W1 := by rw [← hW1]; exact (Grow.alloc _ w _).step (Grow.alloc (fun _ => False) _ _) fun _ _ h => h
  have hL1 : W1.heap[w.heap.size + 1]? = some (.loop (rec0 .ready none)) := by
    rw [← hW1]; have := World.alloc_heap_new (w.alloc (.deferred (some []))) (.loop (rec0 .ready none)); rwa [World.size_alloc] at this
  have hD1 : W1.heap[w.heap.size]? = some (.deferred (some [])) := by
    rw [← hW1]; exact (Below.heap_alloc _ _ _ (by simp)).trans (World.alloc_heap_new w _)
  let Bo : Loop → Base := fun o => { B with ds := (w.heap.size + 1, .loop o) :: (B.wm (w.heap.size :: L)).ds, df := (B.wm L).df }
  have hLlt : ∀ d ∈ L, d < w.heap.size := fun d hd => (Array.getElem?_eq_some_iff.1 (h.marks (d, .deferred (some [])) (List.mem_map.2 ⟨d, hd, rfl⟩)).2.1).1
  have hne : ∀ y ∈ (B.wm (w.heap.size :: L)).ds, y.1 ≠ w.heap.size + 1 := fun y hy => by
    obtain ⟨d, hd, rfl⟩ := List.mem_map.1 hy
    rcases List.mem_cons.1 hd with rfl | hd
    · show w.heap.size ≠ w.heap.size + 1; omega
    · have := hLlt d hd; show d ≠ w.heap.size + 1; omega
  have hsz0 : B.w.heap.size ≤ w.heap.size := h.grow.size
  have hs3 : Sim (Bo (rec0 .ready none)) m0 S0 σ0 a W1 :=
    ((Sim.mark (B := B.wm L) (ds := (B.wm L).ds) (h0.grown0 hg1) (x := (w.heap.size, .deferred (some []))) ⟨rfl, hsz0⟩ hD1 fun o hs => Nat.lt_irrefl _ (h0.sin _ o hs)).mark (x := (w.heap.size + 1, .loop (rec0 .ready none))) ⟨rfl, Nat.le_succ_of_le hsz0⟩ hL1 fun o hs => by
      exact Nat.not_lt.2 (Nat.le_succ _) (h0.sin _ o hs))
  obtain ⟨_, ev0, _⟩ := hsh 0 σ0 hI0
  obtain ⟨vs, hg, _⟩ : ∃ vs : List Value, a.eval g = .func (.func sp.f) #[] vs.toArray ∧ All2 (Rep0 m0 W1 S0) vs sp.caps := ev_ok hs3 ev0
  let J : Nat → Cells → World → Prop := fun i S W => ∃ m σi, Sim (Bo (rec0 .ready none)) m S σi a W ∧ sp.I i σi
  let R : World → Prop := fun W => ∃ (e : Exit) (c : Code) (m : Map) (S : Cells) (σo : Sta), Sim (Bo (rec0 .done (some c))) m S σo a W ∧ K e σo ∧ ((e = .ret ∧ c = .ret) ∨ ∃ id, e = .exit id ∧ c = .exit id)
  have hdf : a.defers = (B.wm L).df := h.defers
  have hasz : a.tmps.size = wid σ.n := h.size
  refine ⟨w.heap.size + 1, [{ target := .collected w.heap.size, args := #[] }], W1, { target := .fn (.func sp.f) vs.toArray, args := #[.func (.yield (w.heap.size + 1)) #[] #[]] }, W1, sp.f,
    #[.func (.yield (w.heap.size + 1)) #[] #[]] ++ vs.toArray, W1, ?_, ?_, fun _ _ => trivial, ?_, fun e => absurd e (rd_depth none), ?_⟩
  · rw [← hW1]; exact run_enterLoop_outer _ _ _ _ _
  · simp only [resolve, hg]
    simp [go_sem]
  · have := hit.1
    unfold Plain at this
    simp [invoke, go_sem, this]
  refine CallsIn.mono (hit.2 (w.heap.size + 1) vs.toArray J R W1 S0 ?_ ?_ ?_ ?_ ⟨m0, σ0, hs3, hI0⟩) ?_
  · rintro i S W ⟨m, σi, hs, hi⟩
    obtain ⟨_, e2, e3⟩ := hsh i σi hi
    obtain ⟨vs', hg', hr'⟩ : ∃ vs : List Value, a.eval g = .func (.func sp.f) #[] vs.toArray ∧ All2 (Rep0 m W S) vs sp.caps := ev_ok hs e2
    rw [hg] at hg'
    have hvs : vs.toArray = vs'.toArray := by injection hg'
    have hvs : vs = vs' := by simpa using hvs
    subst hvs
    have hmem : ∀ k ∈ sp.ks, ∃ o ∈ sp.objs, look k σi.mem = some o := all2_mem e3
    obtain ⟨T, mE, hM, hto⟩ := hs.toMemOk.lend hlen (nodup_of hnd) (fun k hk => by obtain ⟨o, _, h⟩ := hmem k hk; rw [h]; rfl) fun k hk o ho j hj => by
      obtain ⟨o', h1, h2⟩ := hmem k hk
      rw [ho] at h2
      cases h2
      exact hok o h1 j hj
    rw [all2_looks e3] at hM
    exact ⟨mE, T, by simpa using hr'.maps fun v p hp hr => Rep0.ren (fun k hk l hl => hto k (hck p hp k hk) l hl) hr, hM⟩
  · rintro i S W W' ⟨m, σi, hs, hi⟩ hgr
    exact ⟨m, σi, hs.grown0 hgr, hi⟩
  · rintro W W' ⟨e, c, m, S, σo, hs, hr⟩ hgr
    exact ⟨e, c, m, S, σo, hs.grown0 hgr, hr⟩
  · rintro i S W x args ⟨m, σi, hs, hi⟩ hx hargs
    obtain ⟨hxl, hxk⟩ := hxs x (List.mem_of_getElem? hx)
    obtain ⟨e1, _, _⟩ := hsh i σi hi
    have hargs' : All2 (Rep m W S) args.toList x := hargs.imp fun v p hp hr => hr.keep (fun _ _ h => h) (fun _ _ _ => rfl) fun k hk => by rw [hxk p hp] at hk; cases hk
    have hl := (hs.marks (w.heap.size + 1, .loop (rec0 .ready none)) (List.mem_cons_self ..)).2.1
    have hsz : args.size = ps.size := by rw [← hxl, ← hargs.len, Array.length_toList]
    refine ⟨fn, _, assign, body, run_yield hl hsz, roundIn_of_wpIn (F := rd none) trivial ?_⟩
    show assign.wpIn (rd (some (w.heap.size + 1))) 0 P _ _ _
    have hr := hs.base.inR (mask := sp.mask) (ps := ps) (args := args) (xs := x) (by rw [e1, List.all_eq_true]; exact hps) hargs'
    rw [e1] at hr
    refine hA _ _ (kAssign (vcCode P tb D body (kRound sp.I i σ.n K))) _ cA ?_ m S _ _ W hr (hround i x σi hi hx)
    intro e m1 S1 σ1 a1 w1 h1 hk1
    cases e with
    | normal =>
      have hl1 := (h1.marks (w.heap.size + 1, .loop (rec0 .ready none)) (List.mem_cons_self ..)).2.1
      refine ⟨_, run_beginRound hl1 rfl, ?_⟩
      have h2 := Sim.turn (B := { Bo (rec0 .ready none) with S := S, cw := W, df := [], gh := fun i => a.tmps[i]? }) (ds := (B.wm (w.heap.size :: L)).ds) h1 (x := (w.heap.size + 1, .loop (rec0 .ready none))) (o' := .loop { rec0 .ready none with state := .busy }) hne rfl
      refine hY _ _ (kRound sp.I i σ.n K) _ cY ?_ m1 S1 σ1 a1 _ h2 hk1
      intro e m3 S3 σ3 a3 w3 h3 hk3
      have hl3 := (h3.marks (w.heap.size + 1, .loop (rec0 .busy none)) (List.mem_cons_self ..)).2.1
      have out : ∀ (o : Loop), Sim { Bo o with S := S, cw := W } m3 S3 (outS σ.n σ3) a (w3.putObj (w.heap.size + 1) (.loop o)) := fun o =>
        (Sim.turn (B := { Bo (rec0 .ready none) with S := S, cw := W, df := [], gh := fun i => a.tmps[i]? }) (ds := (B.wm (w.heap.size :: L)).ds) h3 (x := (w.heap.size + 1, .loop (rec0 .busy none))) (o' := .loop o) hne rfl).outR (B := { Bo o with S := S, cw := W }) (a' := a) (g := B.gh) (df := (B.wm L).df) hdf hn hasz
      cases e with
      | normal =>
        obtain ⟨σ', hI', hlat⟩ := hk3
        obtain ⟨m6, S6, h6⟩ := later_ok (out (rec0 .ready none)) hlat
        exact ⟨_, _, run_endRound none hl3, .inl ⟨rfl, S6, ⟨m6, σ', Sim.rebase (B := Bo (rec0 .ready none)) hs.toMemOk h6, hI'⟩, fun b o hsb => ⟨h6.sold b o hsb, h6.scell b o hsb⟩⟩⟩
      | ret => exact ⟨_, _, run_endRound (some .ret) hl3, .inr ⟨rfl, .ret, .ret, m3, S3, _, Sim.rebase (B := Bo (rec0 .done (some .ret))) hs.toMemOk (out (rec0 .done (some .ret))), hk3, .inl ⟨rfl, rfl⟩⟩⟩
      | exit id => exact ⟨_, _, run_endRound (some (.exit id)) hl3, .inr ⟨rfl, .exit id, .exit id, m3, S3, _, Sim.rebase (B := Bo (rec0 .done (some (.exit id)))) hs.toMemOk (out (rec0 .done (some (.exit id)))), hk3, .inr ⟨id, rfl, rfl⟩⟩⟩
      | goto t => exact hk3.elim
      | panic ch => exact hk3.elim
      | outgrown => exact hk3.elim
    | exit id => exact hk1.elim
    | goto t => exact hk1.elim
    | ret => exact hk1.elim
    | panic ch => exact hk1.elim
    | outgrown => exact hk1.elim
  · rintro e W2 ⟨⟨v, rfl⟩, hend⟩
    have hnd1 : (w.heap.size :: L).Nodup := List.nodup_cons.2 ⟨fun hm => Nat.lt_irrefl _ (hLlt _ hm), hL⟩
    have fin : ∀ (o : Loop) m S σo, Sim (Bo o) m S σo a W2 → Sim (B.wm (w.heap.size :: L)) m S σo { a with defers := { target := .collected w.heap.size, args := #[] } :: a.defers } (W2.putObj (w.heap.size + 1) (.loop { o with state := .exhausted })) := fun o m S σo hs => by
      have h1 := (Sim.turn (B := Bo o) (ds := (B.wm (w.heap.size :: L)).ds) hs (x := (w.heap.size + 1, .loop o)) (o' := .loop { o with state := .exhausted }) hne rfl).drop
      exact { dom := h1.dom, objs := h1.objs, subs := h1.subs, subx := h1.subx, parts := h1.parts, young := h1.young, grow := h1.grow, sold := h1.sold, snew := h1.snew, sin := h1.sin, scell := h1.scell, ext := h1.ext, marks := h1.marks, defers := by show _ :: a.defers = _; rw [hdf]; rfl, size := h1.size, frozen := h1.frozen, slots := h1.slots }
    rcases hend with ⟨S', m, σn, hs, hi⟩ | ⟨e, c, m, S', σo, hs, hk, hc⟩
    · have hl := (hs.marks (w.heap.size + 1, .loop (rec0 .ready none)) (List.mem_cons_self ..)).2.1
      exact ⟨none, _, run_endLoop hl (by simp [rec0]), hK _ _ _ _ _ _ _ hnd1 (fin _ _ _ _ hs) (hdone σn hi)⟩
    · have hl := (hs.marks (w.heap.size + 1, .loop (rec0 .done (some c))) (List.mem_cons_self ..)).2.1
      refine ⟨some c, _, run_endLoop hl (by simp [rec0]), ?_⟩
      rcases hc with ⟨rfl, rfl⟩ | ⟨id, rfl, rfl⟩
      · exact wpIn_ret (hK _ _ _ _ _ _ _ hnd1 (fin _ _ _ _ hs) hk)
      · exact wpIn_exit (hK _ _ _ _ _ _ _ hnd1 (fin _ _ _ _ hs) hk)
end

/-! ### The end of a function -/
def resVals (tb : Tab) (σ : Sta) : List ResultVar → Option (Prop × List PV)
  | [] => some (True, [])
  | .tmp t :: r => match look t σ.slots, resVals tb σ r with
    | some p, some (c, ps) => if p.is2 then some (c, p :: ps) else none
    | _, _ => none
  | .cell x t :: r => match look x σ.slots, resVals tb σ r with
    | some p, some (c, ps) => match vLoad tb σ t p with
      | some (c', q) => if q.is2 then some (c' ∧ c, q :: ps) else none
      | none => none
    | _, _ => none
def viewR1 (nk : List Nat) (mem : Mem) : PV → Prop × Mem × PV
  | .rw k n => if nk.contains k || decide (1000000 ≤ k) then (True, mem, .rw k n) else view1 mem (.rw k n)
  | p => view1 mem p
def viewRL (nk : List Nat) (mem : Mem) : List PV → Prop × Mem × List PV
  | [] => (True, mem, [])
  | p :: r => ((viewR1 nk mem p).1 ∧ (viewRL nk (viewR1 nk mem p).2.1 r).1, (viewRL nk (viewR1 nk mem p).2.1 r).2.1, (viewR1 nk mem p).2.2 :: (viewRL nk (viewR1 nk mem p).2.1 r).2.2)
def viewR (nk : List Nat) (mem : Mem) : PV → Prop × Mem × PV
  | .agg cs => ((viewRL nk mem cs).1, (viewRL nk mem cs).2.1, .agg (viewRL nk mem cs).2.2)
  | p => viewR1 nk mem p
def viewRs (nk : List Nat) (mem : Mem) : List PV → Prop × Mem × List PV
  | [] => (True, mem, [])
  | p :: r => ((viewR nk mem p).1 ∧ (viewRs nk (viewR nk mem p).2.1 r).1, (viewRs nk (viewR nk mem p).2.1 r).2.1, (viewR nk mem p).2.2 :: (viewRs nk (viewR nk mem p).2.1 r).2.2)
def oneV (ps : List PV) : PV := match ps with
  | [p] => p
  | ps => .tup ps
def toR (nk : List Nat) (k : Nat) : Nat := if nk.contains k then 2000000 + nk.idxOf k else k
def toGrown : MObj → MObj
  | .row t sz xs false => .grown t sz xs
  | .row t sz xs true => .row t sz xs true
  | .box t cs => .box t cs
  | .map es => .map es
  | .grown t sz xs => .grown t sz xs
  | .nest t sz xs pr cs foc => .nest t sz xs pr cs foc
  | .sys H => .sys H
def moved (mem : Mem) (k : Nat) : Bool := (look (k + 3000000) mem).isSome
def extO (mem : Mem) (k : Nat) : MObj := bif moved mem k then toGrown ((look k mem).getD default) else (look k mem).getD default
def exts (mem : Mem) : Nat → Nat → List MObj
  | 0, _ => []
  | n + 1, k => extO mem k :: exts mem n (k + 1)
def outOk (nx : Nat) (nk : List Nat) (mem : Mem) (ps : List PV) : Bool :=
  nodupB nk && nk.all (fun k => decide (k < 1000000) && (look k mem).isSome && (objKeys mem k).all fun j => nk.contains j || (decide (1000000 ≤ j) && decide (j < 1000000 + nx))) && decide (nk.length ≤ 90) &&
  (List.range nx).all (fun i => (look (1000000 + i) mem).isSome && (!moved mem (1000000 + i) || isGrown (extO mem (1000000 + i))) && (objKeys mem (1000000 + i)).all fun j => nk.contains j || (decide (1000000 ≤ j) && decide (j < 1000000 + nx))) &&
  ps.all fun p => p.keys.all fun j => nk.contains j || (decide (1000000 ≤ j) && decide (j < 1000000 + nx))
def vcRet0 (tb : Tab) (nx : Nat) (rs : List ResultVar) (Q : Res → Prop) (σ : Sta) : Prop := ∃ nk : List Nat, ∃ r : Res,
  match resVals tb σ rs with
  | some (c, ps) => c ∧ (viewRs nk σ.mem ps).1 ∧ outOk nx nk (viewRs nk σ.mem ps).2.1 (viewRs nk σ.mem ps).2.2 = true ∧
      Q r ∧ Le ((oneV (viewRs nk σ.mem ps).2.2).ren (toR nk)) r.val ∧ All2 LeO ((exts (viewRs nk σ.mem ps).2.1 nx 1000000).map (MObj.ren (toR nk))) r.ext ∧ All2 LeO (nk.map fun k => ((look k (viewRs nk σ.mem ps).2.1).getD default).ren (toR nk)) r.new
  | none => False
def vcRet (tb : Tab) (nx : Nat) (rs : List ResultVar) (Q : Res → Prop) (σ : Sta) : Prop := ∃ pr σ1, Prep.all σ pr = some σ1 ∧ vcRet0 tb nx rs Q σ1
end Go.Proofs.YtplooifpgmlofaaGreat
