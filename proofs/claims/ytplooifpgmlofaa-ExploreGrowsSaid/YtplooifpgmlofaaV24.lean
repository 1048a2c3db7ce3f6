/- Functions that defer one closure: it runs at the end, before the results are read. No condition. -/
import Derived.Test.YtplooifpgmlofaaV23
namespace Go.Proofs.Ytplooifpgmlofaa
open Go.RowKit

/-- A contract of a function that is called at another one's end. -/
def MeetsD (P : Program) (f : Nat) (args : List PV) (ext : List MObj) (Q : Res → Prop) : Prop :=
  Plain P f ∧ ∀ (w : World) (S : Cells) (m : Map) (T : Nat → Prop) (vs : Array Value), All2 (Rep m w S) vs.toList args → MemOk ⟨w, T, S, m, [], [], fun _ => none, w⟩ m S (extMem 1000000 ext) w →
    ∀ u, CallsDIn (rd none) 0 P f vs u w fun e u' w' => u' = u ∧ ∃ r v m' S', Q r ∧ e = .returned v ∧ Rep m' w' S' v r.val ∧ MemOk ⟨w, T, S, m', [], [], fun _ => none, w⟩ m' S' (extMem 1000000 r.ext ++ extMem 2000000 r.new) w' ∧ KeptM w m m' r.ext ∧ r.ext.length = ext.length ∧ r.new.length ≤ 90
theorem MeetsD.mono {P : Program} {f : Nat} {args : List PV} {ext : List MObj} {Q Q' : Res → Prop} (h : MeetsD P f args ext Q) (hq : ∀ r, Q r → Q' r) : MeetsD P f args ext Q' := ⟨h.1, fun w S m T vs ha hm u =>
  (h.2 w S m T vs ha hm u).mono fun _ _ _ ⟨e, r, v, m', S', h1, h2⟩ => ⟨e, r, v, m', S', hq r h1, h2⟩⟩
section
variable {P : Program} {tb : Tab} {B : Base} {m : Map} {S : Cells} {σ σ' : Sta} {a : Act} {w : World}
/-- A function's beginning. -/
theorem start_sim {n : Nat} {args : List PV} {ext : List MObj} {T : Nat → Prop} {vs : Array Value} (hs : n < 10000) (hl : args.length ≤ n) (ha : All2 (Rep m w S) vs.toList args) (hM : MemOk ⟨w, T, S, m, [], [], fun _ => none, w⟩ m S (extMem 1000000 ext) w) :
    Sim ⟨w, T, S, m, [], [], fun _ => none, w⟩ m S ⟨n, argSlots 0 args, extMem 1000000 ext⟩ { tmps := vs ++ Array.replicate (n - vs.size) undef, defers := [] } w := by
  have hvl : vs.size = args.length := by rw [← Array.length_toList, ha.len]
  have hwid : wid n = n := Nat.mod_eq_of_lt hs
  refine { hM with defers := rfl, size := ?_, frozen := fun i hi => absurd hi (by show ¬ froz n i = true; unfold froz; rw [if_pos hs]; exact Bool.false_ne_true), slots := fun i p hp => ?_ }
  · show (vs ++ Array.replicate (n - vs.size) undef).size = wid n
    rw [hwid]
    simp; omega
  · obtain ⟨_, h2⟩ := look_args hp
    obtain ⟨v, h3, h4⟩ := ha.get (i := i) (by simpa using h2)
    refine ⟨v, ?_, h4⟩
    have hi := (List.getElem?_eq_some_iff.1 h3).1
    show (vs ++ Array.replicate (n - vs.size) undef)[i]? = some v
    rw [Array.getElem?_append_left (by simpa using hi)]
    simpa using h3
theorem ext_dom {T : Nat → Prop} {ext : List MObj} (hM : MemOk ⟨w, T, S, m, [], [], fun _ => none, w⟩ m S (extMem 1000000 ext) w) : ∀ k l, m k = some l → 1000000 ≤ k ∧ k < 1000000 + ext.length := fun k l hk => by
  have := hM.dom k l hk
  rw [look_ext] at this
  split at this
  · rename_i h1
    obtain ⟨o, ho⟩ := Option.isSome_iff_exists.1 this
    have := (List.getElem?_eq_some_iff.1 ho).1
    omega
  · cases this
/-- Such a contract out of a function's body. -/
theorem meetsD_of (hT : TabOk P tb) {D : DrawT} (hD : DrawOk P D) {f : Nat} {fn : Func} {c : Code} (hf : P.funcs[f]? = some fn) (hb : fn.body = some c) (hp : Plain P f) (hcl : calmC c = true) {args : List PV} {ext : List MObj} {Q : Res → Prop}
    (hc : (decide (fn.ntmps < 10000) && decide (args.length ≤ fn.ntmps) && decide (ext.length < 1000000)) = true) (hv : vcCode P tb D c (kEnd tb ext.length fn.results.toList Q) ⟨fn.ntmps, argSlots 0 args, extMem 1000000 ext⟩) : MeetsD P f args ext Q := by
  simp only [Bool.and_eq_true, decide_eq_true_eq] at hc
  obtain ⟨⟨hs, hl⟩, hx⟩ := hc
  refine ⟨hp, fun w S m T vs ha hM u => callsDIn_of_wp (F := rd none) (n := 0) hf hb trivial ?_⟩
  have hdom := ext_dom hM
  refine code_ok hT hD (fun B => B = ⟨w, T, S, m, [], [], fun _ => none, w⟩) none c (.inl hcl) (K := kEnd tb ext.length fn.results.toList Q) ?_ rfl (start_sim hs hl ha hM) hv
  rintro B e m' S' σ a w' rfl h hk
  have fin : vcRet tb ext.length fn.results.toList Q σ → a.defers = [] ∧ ∃ v, (results fn a.tmps).run P w' = .ok v w' ∧ ∃ r v' m2 S2, Q r ∧ (Ending.returned v) = .returned v' ∧ Rep m2 w' S2 v' r.val ∧ MemOk ⟨w, T, S, m2, [], [], fun _ => none, w⟩ m2 S2 (extMem 1000000 r.ext ++ extMem 2000000 r.new) w' ∧ KeptM w m m2 r.ext ∧ r.ext.length = ext.length ∧ r.new.length ≤ 90 := fun hr => by
    obtain ⟨pr, σ1, hpr, hr⟩ := hr
    obtain ⟨m1, S1, h⟩ := preps_ok h hpr
    obtain ⟨r, v, m2, S2, g1, g2, g3, g4, g5⟩ := ret_ok (P := P) (fn := fn) hT h hdom hx hr
    exact ⟨h.defers, v, g2, r, v, m2, S2, g1, rfl, g3, g4, g5⟩
  cases e with
  | normal => exact fin hk
  | ret => exact fin hk
  | _ => exact hk.elim
theorem meetsDH (hs : List (Nat × List (Bool × Nat))) (hT : TabOk P tb) (hm : P.follows .mixedOrders = true) {f : Nat} {fn : Func} {c : Code} (hf : P.funcs[f]? = some fn) (hp : Plain P f) {args : List PV} {ext : List MObj} {Q : Res → Prop} (hb : fn.body = some c) (hcl : calmC c = true)
    (hc : (decide (fn.ntmps < 10000) && decide (args.length ≤ fn.ntmps) && decide (ext.length < 1000000)) = true) (hv : vcCode P tb (vcDrawH hs P tb) c (kEnd tb ext.length fn.results.toList Q) ⟨fn.ntmps, argSlots 0 args, extMem 1000000 ext⟩) : MeetsD P f args ext Q :=
  meetsD_of hT (drawH_ok hs hT hm) hf hb hp hcl hc hv

def kNone : Exit → Sta → Prop := fun _ _ => False
/-- At the end: the deferred call, then the results. -/
def vcLast (P : Program) (tb : Tab) (n0 d nx : Nat) (rs : List ResultVar) (Q : Res → Prop) (σ : Sta) : Prop :=
  σ.n = n0 + 10000 * maskOf [d] ∧ match look d σ.slots with
    | some (.clo g caps) => reachOk σ.mem caps (reach σ.mem caps) = true ∧ MeetsD P g (caps.map (PV.ren (toE (reach σ.mem caps)))) ((reach σ.mem caps).map fun k => ((look k σ.mem).getD default).ren (toE (reach σ.mem caps))) (afterCall ⟨n0, σ.slots, σ.mem⟩ none σ.mem (reach σ.mem caps) (vcRet tb nx rs Q))
    | _ => False
def kLast (P : Program) (tb : Tab) (n0 d nx : Nat) (rs : List ResultVar) (Q : Res → Prop) : Exit → Sta → Prop
  | .normal, σ => vcLast P tb n0 d nx rs Q σ
  | .ret, σ => vcLast P tb n0 d nx rs Q σ
  | _, _ => False
/-- The closure is made and deferred. -/
def vcDeferred (P : Program) (tb : Tab) (D : DrawT) (mk : Oper) (d : Nat) (B : Code) (nx : Nat) (rs : List ResultVar) (Q : Res → Prop) (σ : Sta) : Prop :=
  vcOp P tb mk σ fun σ1 => (σ1.n < 10000 ∧ d < σ1.n) ∧ (match look d σ1.slots with | some (.clo _ _) => True | _ => False) ∧ vcCode P tb D B (kLast P tb σ1.n d nx rs Q) ⟨σ1.n + 10000 * maskOf [d], σ1.slots, σ1.mem⟩
def vcDefer (P : Program) (tb : Tab) (D : DrawT) (R0 R1 : Code) (mk : Oper) (d : Nat) (B : Code) (nx : Nat) (rs : List ResultVar) (Q : Res → Prop) (σ : Sta) : Prop :=
  vcCode P tb D R0 (kSeq (vcCode P tb D R1 (kSeq (vcDeferred P tb D mk d B nx rs Q) kNone)) kNone) σ
def deferB (mk df : Oper) : Bool := decide (mk.guard = none) && decide (df.guard = none) && decide (df.dst = none)

theorem invoke_plain {g : Nat} (hp : Plain P g) (vs : Array Value) (w : World) : (invoke (.fn (.func g) vs) #[]).run P w = .ok (.enter g vs) w := by
  have := hp vs w
  unfold invoke
  simpa using this
theorem meets_defer (hT : TabOk P tb) {D : DrawT} (hD : DrawOk P D) {f : Nat} {fn : Func} {R0 R1 B : Code} {id : Nat} {mk df : Oper} {d : Nat} (hf : P.funcs[f]? = some fn) (hp : Plain P f) {args : List PV} {ext : List MObj} {Q : Res → Prop}
    (hb : fn.body = some (R0.seq (R1.seq ((Code.region id #[mk, df] false).seq B)))) (hdf : df.op = .defer { callee := .value (.tmp d), args := #[], argTypes := #[] }) (hgd : deferB mk df = true) (hcl : (calmC R0 && calmC R1 && calmC B) = true)
    (hc : (decide (fn.ntmps < 10000) && decide (args.length ≤ fn.ntmps) && decide (ext.length < 1000000)) = true) (hv : vcDefer P tb D R0 R1 mk d B ext.length fn.results.toList Q ⟨fn.ntmps, argSlots 0 args, extMem 1000000 ext⟩) : Meets P f args ext Q := by
  simp only [Bool.and_eq_true, decide_eq_true_eq] at hc hcl
  obtain ⟨⟨hs, hl⟩, hx⟩ := hc
  obtain ⟨⟨hc0, hc1⟩, hcB⟩ := hcl
  unfold deferB at hgd
  simp only [Bool.and_eq_true, decide_eq_true_eq] at hgd
  obtain ⟨⟨hg1, hg2⟩, hg3⟩ := hgd
  refine ⟨hp, fun w S m T vs ha hM => callsIn_wide.1 (callsIn_of_wp_marks (F := rd none) (n := 0) hf hb trivial ?_)⟩
  have hdom := ext_dom hM
  refine wpIn_seq (code_ok hT hD (fun B => B = ⟨w, T, S, m, [], [], fun _ => none, w⟩) none R0 (.inl hc0) (K := kSeq (vcCode P tb D R1 (kSeq (vcDeferred P tb D mk d B ext.length fn.results.toList Q) kNone)) kNone) ?_ rfl (start_sim hs hl ha hM) hv)
  rintro _ e m1 S1 σ1 a1 w1 rfl h1 hk1
  cases e <;> first | exact hk1.elim | skip
  refine wpIn_seq (code_ok hT hD (fun B => B = ⟨w, T, S, m, [], [], fun _ => none, w⟩) none R1 (.inl hc1) (K := kSeq (vcDeferred P tb D mk d B ext.length fn.results.toList Q) kNone) ?_ rfl h1 hk1)
  rintro _ e m2 S2 σ2 a2 w2 rfl h2 hk2
  cases e <;> first | exact hk2.elim | skip
  refine wpIn_seq (region_list_in (.inl rfl) ?_)
  show wpList P #[mk, df] _ [mk, df] a2 w2
  unfold wpList
  rw [if_pos (by simp [Region.wanted, hg1])]
  have hk2 : vcDeferred P tb D mk d B ext.length fn.results.toList Q σ2 := hk2
  unfold vcDeferred at hk2
  refine .inl (vcOp_ok hT h2 hk2 ?_)
  rintro m3 S3 σ3 a3 w3 h3 ⟨⟨n1, n2⟩, hlk, hv3⟩
  cases hcl : look d σ3.slots with
  | none => rw [hcl] at hlk; exact hlk.elim
  | some p =>
    rw [hcl] at hlk
    cases p with
    | clo g caps =>
      obtain ⟨cs, hev, hcs⟩ := callee_ok (x := .tmp d) h3 (show σ3.callee (.tmp d) = some (g, caps) by simp [Sta.callee, Sta.ev, hcl])
      obtain ⟨v, hav, _⟩ := h3.slots d _ hcl
      have hv' : v = .func (.func g) #[] cs.toArray := by
        rw [← hev]
        simp [Act.eval, hav]
      subst hv'
      unfold wpList
      rw [if_pos (by simp [Region.wanted, hg2])]
      refine .inl ?_
      unfold Oper.wp Oper.upon
      have hrun : (execOp a3.eval df).run P w3 = .ok (.defer { target := .fn (.func g) cs.toArray, args := #[] }) w3 := by
        simp only [execOp, hdf, resolve, hev, Deferred.ofValue, Sem.run_bind, Sem.run_pure, Result.andThen_ok]
        simp
      rw [hrun]
      simp only [hg3]
      show Code.wpIn (rd none) 0 P B _ { a3 with defers := { target := .fn (.func g) cs.toArray, args := #[] } :: a3.defers } w3
      have hd3 : a3.defers = [] := h3.defers
      rw [hd3]
      have h4 : Sim ⟨w, T, S, m, [], [{ target := .fn (.func g) cs.toArray, args := #[] }], fun i => a3.tmps[i]?, w⟩ m3 S3 ⟨σ3.n + 10000 * maskOf [d], σ3.slots, σ3.mem⟩ { a3 with defers := [{ target := .fn (.func g) cs.toArray, args := #[] }] } w3 :=
        { dom := h3.dom, objs := h3.objs, subs := h3.subs, subx := h3.subx, parts := h3.parts, young := h3.young, grow := h3.grow, sold := h3.sold, snew := h3.snew, sin := h3.sin, scell := h3.scell, ext := h3.ext, marks := h3.marks, defers := rfl, size := by rw [wid_mask n1, ← wid_small n1]; exact h3.size, frozen := fun _ _ => rfl, slots := h3.slots }
      refine code_ok hT hD (fun B => B = ⟨w, T, S, m, [], [{ target := .fn (.func g) cs.toArray, args := #[] }], fun i => a3.tmps[i]?, w⟩) none B (.inl hcB) (K := kLast P tb σ3.n d ext.length fn.results.toList Q) ?_ rfl h4 hv3
      have fin : ∀ m5 S5 σ5 (a5 : Act) w5, Sim ⟨w, T, S, m, [], [{ target := .fn (.func g) cs.toArray, args := #[] }], fun i => a3.tmps[i]?, w⟩ m5 S5 σ5 a5 w5 → vcLast P tb σ3.n d ext.length fn.results.toList Q σ5 →
          LeavesInM (rd none) 0 P fn a5.tmps (fun e w' => ∃ r v m' S', Q r ∧ e = .returned v ∧ Rep m' w' S' v r.val ∧ MemOk ⟨w, T, S, m', [], [], fun _ => none, w⟩ m' S' (extMem 1000000 r.ext ++ extMem 2000000 r.new) w' ∧ KeptM w m m' r.ext ∧ r.ext.length = ext.length ∧ r.new.length ≤ 90) a5.defers .returning w5 := by
        rintro m5 S5 σ5 a5 w5 h5 ⟨e5, hk5⟩
        have hd5 : a5.defers = [{ target := .fn (.func g) cs.toArray, args := #[] }] := h5.defers
        rw [hd5]
        have hfz : a5.tmps[d]? = a3.tmps[d]? := h5.frozen d (by rw [e5, froz_mask n1]; simp)
        cases hc5 : look d σ5.slots with
        | none => rw [hc5] at hk5; exact hk5.elim
        | some p5 =>
          rw [hc5] at hk5
          cases p5 with
          | clo g' caps' =>
            obtain ⟨hr5, hm5⟩ := hk5
            obtain ⟨v5, hv5, hrep5⟩ := h5.slots d _ hc5
            rw [hfz, hav] at hv5
            cases hv5
            have hrep5 : ∃ vs : List Value, (Value.func (.func g) #[] cs.toArray) = .func (.func g') #[] vs.toArray ∧ All2 (Rep0 m5 w5 S5) vs caps' := hrep5
            obtain ⟨vs5, ev5, hrep5⟩ := hrep5
            have eg : g = g' := by injection ev5 with e1 _ _; injection e1
            have ecs : cs = vs5 := by
              injection ev5 with _ _ e3
              simpa using e3
            subst eg ecs
            have hargs : All2 (Rep m5 w5 S5) cs.toArray.toList caps' := by simpa using hrep5.imp fun _ _ _ hr => Rep.of0 hr
            have hpl : Plain P g := hm5.1
            unfold reachOk at hr5
            simp only [Bool.and_eq_true, List.all_eq_true, List.contains_eq_mem, decide_eq_true_eq] at hr5
            obtain ⟨⟨⟨k1, k2⟩, k3⟩, k4⟩ := hr5
            refine ⟨by simp, .inr ⟨fun h => (by cases h), .func g, cs.toArray, g, cs.toArray, rfl, invoke_plain hpl _ _, fun _ _ => trivial, ?_⟩⟩
            have hcall := call_okC (C := fun R => CallsDIn (rd none) 0 P g cs.toArray .returning w5 fun e u' w' => u' = .returning ∧ R e w') (fun R R' hC hR => hC.mono fun e u' w' ⟨h1, h2⟩ => ⟨h1, hR e w' h2⟩) h5 (S0 := S5) (mem0 := σ5.mem) h5 (fun _ _ h => h) (fun _ h => h) hargs (nodup_of k1) (fun k hk => here_some (k2 k hk).1)
              (fun k hk ob hob j hj => (k2 k hk).2 j (by simp only [objKeys, hob]; exact hj)) (fun p hp k hk => k3 p hp k hk) k4 0 (by decide) (fun S m T ha hM => hm5.2 w5 S m T _ ha hM _)
            refine hcall.mono ?_
            rintro e u' w' ⟨rfl, r, v, m6, S6, ⟨hnew, hk⟩, rfl, hs6⟩
            obtain ⟨⟨s1, _⟩, _⟩ := hs6 hnew
            have hmem : (bif calmRes r then σ5.mem else σ5.mem) = σ5.mem := by cases calmRes r <;> rfl
            rw [hmem] at hk
            have h7 : Sim ⟨w, T, S, m, [], [], fun _ => none, w⟩ m6 S6 ⟨σ3.n, eraseSs (grownKs (reach σ5.mem caps') r.ext) σ5.slots, backMem (ofE (reach σ5.mem caps') 0) (reach σ5.mem caps') r.ext ++ (newMem (ofE (reach σ5.mem caps') 0) 0 0 r.new ++ eraseMs (grownKs (reach σ5.mem caps') r.ext) (markMs (grownKs (reach σ5.mem caps') r.ext) σ5.mem))⟩ { a5 with defers := [] } w' :=
              { dom := s1.dom, objs := s1.objs, subs := s1.subs, subx := s1.subx, parts := s1.parts, young := s1.young, grow := s1.grow, sold := s1.sold, snew := s1.snew, sin := s1.sin, scell := s1.scell, ext := s1.ext, marks := s1.marks, defers := rfl, size := by rw [wid_small n1, ← wid_mask n1 (l := [d]), ← e5]; exact s1.size, frozen := fun i hi => absurd hi (by rw [froz_small n1]; exact Bool.false_ne_true), slots := s1.slots }
            obtain ⟨pr, σ8, hpr, hr⟩ := hk
            obtain ⟨m8, S8, h8⟩ := preps_ok h7 hpr
            obtain ⟨r9, v9, m9, S9, q1, q2, q3, q4, q5⟩ := ret_ok (P := P) (fn := fn) hT h8 hdom hx hr
            exact ⟨v9, q2, r9, v9, m9, S9, q1, rfl, q3, q4, q5⟩
          | _ => exact hk5.elim
      rintro _ e m5 S5 σ5 a5 w5 rfl h5 hk5
      cases e with
      | normal => exact fin m5 S5 σ5 a5 w5 h5 hk5
      | ret => exact fin m5 S5 σ5 a5 w5 h5 hk5
      | _ => exact hk5.elim
    | _ => exact hlk.elim
end
end Go.Proofs.Ytplooifpgmlofaa
