/- All operations that leave the world alone, in one function, and that it is right. No condition. -/
import Derived.Test.YtplooifpgmlofaaGreatV5m
namespace Go.Proofs.YtplooifpgmlofaaGreat
open Go.RowKit

section
variable {P : Program} {tb : Tab} {B : Base} {m : Map} {S : Cells} {σ : Sta} {a : Act} {w : World}

def vLen (tb : Tab) (t : Nat) (x : PV) : Option (Prop × PV) :=
  match (look t tb).map TI.desc, x with
  | some (TypeDesc.slice _), .d (.sl _ xs) => some (True, .i xs.length)
  | some (TypeDesc.slice _), .d (.v (.slice _ n _)) => some (True, .i n)
  | some (TypeDesc.slice _), .rw _ n => some (True, .i n)
  | some (TypeDesc.slice _), .rs _ _ _ n _ => some (True, .i n)
  | some TypeDesc.string, .d (.v (.string s)) => some (True, .i s.size)
  | some (TypeDesc.array n _), _ => some (True, .i n)
  | _, _ => none
theorem vLen_ok (hT : TabOk P tb) {t ty : Nat} {x : PV} {c : Prop} {p : PV} (hv : vLen tb t x = some (c, p)) {u : Value} (hu : Rep m w S u x) : ∃ r, (Builtin.len_ #[t] ty #[u]).run P w = .ok r w ∧ Rep m w S r p := by
  unfold vLen at hv
  split at hv
  · rename_i e sz xs hd
    cases hv
    obtain ⟨i, hi, hd⟩ := Option.map_eq_some_iff.1 hd
    have e1 := (hT.get hi).under
    rw [hd] at e1
    obtain ⟨A, c, rfl, _⟩ := RepD.len hu
    exact ⟨_, by simp [Builtin.len_, run_underlying e1, goInt], .v _⟩
  · rename_i e A n c hd
    cases hv
    obtain ⟨i, hi, hd⟩ := Option.map_eq_some_iff.1 hd
    have e1 := (hT.get hi).under
    rw [hd] at e1
    have hu : RepD w S u (.v (.slice A n c)) := hu
    cases hu
    exact ⟨_, by simp [Builtin.len_, run_underlying e1, goInt], .v _⟩
  · rename_i e k n hd
    cases hv
    obtain ⟨i, hi, hd⟩ := Option.map_eq_some_iff.1 hd
    have e1 := (hT.get hi).under
    rw [hd] at e1
    obtain ⟨l, _, ⟨_, rfl, rfl⟩ | ⟨b, _, rfl, _⟩⟩ := hu
    · exact ⟨_, by simp [Builtin.len_, run_underlying e1, goInt], .v _⟩
    · exact ⟨_, by simp [Builtin.len_, run_underlying e1, goInt], .v _⟩
  · rename_i e k sz off n fl hd
    cases hv
    obtain ⟨i, hi, hd⟩ := Option.map_eq_some_iff.1 hd
    have e1 := (hT.get hi).under
    rw [hd] at e1
    obtain ⟨l, _, ⟨_, rfl, rfl, _⟩ | ⟨b, ad, cp, _, rfl, _⟩⟩ := hu
    · exact ⟨_, by simp [Builtin.len_, run_underlying e1, goInt], .v _⟩
    · exact ⟨_, by simp [Builtin.len_, run_underlying e1, goInt], .v _⟩
  · rename_i s hd
    cases hv
    obtain ⟨i, hi, hd⟩ := Option.map_eq_some_iff.1 hd
    have e1 := (hT.get hi).under
    rw [hd] at e1
    have hu : RepD w S u (.v (.string s)) := hu
    cases hu
    exact ⟨_, by simp [Builtin.len_, run_underlying e1, goInt], .v _⟩
  · rename_i n e hd
    cases hv
    obtain ⟨i, hi, hd⟩ := Option.map_eq_some_iff.1 hd
    have e1 := (hT.get hi).under
    rw [hd] at e1
    exact ⟨_, by simp [Builtin.len_, run_underlying e1, goInt], .v _⟩
  · cases hv

def vMin : List (IntKind × Int) → Option (Prop × PV)
  | [] => none
  | (k, n) :: r => some (True, .d (.v (.int k (r.foldl (fun m e => min m e.2) n))))
def vMax : List (IntKind × Int) → Option (Prop × PV)
  | [] => none
  | (k, n) :: r => some (True, .d (.v (.int k (r.foldl (fun m e => max m e.2) n))))
theorem run_min (l : List (IntKind × Int)) : ∀ (k : IntKind) (n : Int), ((l.map fun e => Value.int e.1 e.2).foldlM Builtin.min2 (.int k n)).run P w = .ok (.int k (l.foldl (fun m e => min m e.2) n)) w := by
  induction l with
  | nil => intro k n; rfl
  | cons e l ih =>
    intro k n
    simp only [List.map_cons, List.foldlM_cons, Sem.run_bind, Builtin.min2, Sem.run_pure, Result.andThen_ok, List.foldl_cons]
    rw [ih]
    congr 3
    rw [Int.min_def]; split <;> split <;> omega
theorem run_max (l : List (IntKind × Int)) : ∀ (k : IntKind) (n : Int), ((l.map fun e => Value.int e.1 e.2).foldlM Builtin.max2 (.int k n)).run P w = .ok (.int k (l.foldl (fun m e => max m e.2) n)) w := by
  induction l with
  | nil => intro k n; rfl
  | cons e l ih =>
    intro k n
    simp only [List.map_cons, List.foldlM_cons, Sem.run_bind, Builtin.max2, Sem.run_pure, Result.andThen_ok, List.foldl_cons]
    rw [ih]
    congr 3
    rw [Int.max_def]; split <;> split <;> omega

def vIndex (tb : Tab) (t : Nat) (x ix : PV) : Option (Prop × PV) :=
  match ix, (look t tb).map TI.desc, x with
  | .d (.v (.int _ i)), some TypeDesc.string, .d (.v (.string s)) => some (0 ≤ i ∧ i < s.size, .d (.v (.int .u8 ((s.data.toList.getD i.toNat 0).toNat : Int))))
  | .d (.v (.int _ i)), some (TypeDesc.array n e), .agg cs => match look e tb with
    | some ei => some ((0 ≤ i ∧ i < n) ∧ (readAt ei cs (i.toNat * ei.size)).1, (readAt ei cs (i.toNat * ei.size)).2)
    | none => none
  | _, _, _ => none
theorem vIndex_ok (hT : TabOk P tb) {t : Nat} {x ix : PV} {c : Prop} {p : PV} (hv : vIndex tb t x ix = some (c, p)) (hc : c) {u v : Value} (hu : Rep m w S u x) (hw : Rep m w S v ix) : ∃ r, (Instr.index t u v).run P w = .ok r w ∧ Rep m w S r p := by
  unfold vIndex at hv
  split at hv
  · rename_i k i s hd
    have hw : RepD w S v (.v (.int k i)) := hw
    have hu : RepD w S u (.v (.string s)) := hu
    cases hw; cases hu; cases hv
    obtain ⟨j, hj, hd⟩ := Option.map_eq_some_iff.1 hd
    have e1 := (hT.get hj).under
    rw [hd] at e1
    have hlt : i.toNat < s.size := by omega
    refine ⟨_, ?_, .v _⟩
    simp only [Instr.index, asIntOf, Sem.run_bind, Sem.run_pure, Result.andThen_ok, run_underlying e1, hc.1, if_true]
    have : s[i.toNat]? = some (s.data.toList.getD i.toNat 0) := by
      have h2 : i.toNat < s.data.toList.length := by simpa using hlt
      rw [List.getD_eq_getElem?_getD, List.getElem?_eq_getElem h2]
      simp only [Option.getD_some]
      rw [getElem?_pos s i.toNat hlt]
      rfl
    rw [this]
    rfl
  · rename_i k i n e cs hd
    have hw : RepD w S v (.v (.int k i)) := hw
    cases hw
    obtain ⟨j, hj, hd⟩ := Option.map_eq_some_iff.1 hd
    have e1 := (hT.get hj).under
    rw [hd] at e1
    split at hv
    · rename_i ei he
      cases hv
      obtain ⟨us, rfl, ha⟩ := hu
      obtain ⟨r, h1, h2⟩ := part_ok (hT.get he) ha hc.2
      refine ⟨r, ?_, Rep.of2 h2⟩
      simp only [Instr.index, asIntOf, Sem.run_bind, Sem.run_pure, Result.andThen_ok, run_underlying e1, hc.1, and_self, if_true, (hT.get he).sizeOf, h1]
    · cases hv
  · cases hv

theorem rlen_ok (h : Sim B m S σ a w) (p : PV) : ∀ k n l, p = .rw k n → m k = some l → (l.blk = none → rlen σ.mem p = 0) ∧ (∀ b, l.blk = some b → rlen σ.mem p ≤ l.cap) := by
  rintro k n l rfl hk
  unfold rlen
  dsimp only
  split
  · rename_i t sz xs lk ho
    obtain ⟨_, _, l', h1, h2⟩ := h.objs k _ ho
    rw [hk] at h1; cases h1
    rcases h2 with ⟨h2, rfl⟩ | ⟨b, arr, us, h2, _, h3, _⟩
    · exact ⟨fun _ => rfl, fun b hb => (by rw [h2] at hb; cases hb)⟩
    · exact ⟨fun hn => (by rw [h2] at hn; cases hn), fun _ _ => h3⟩
  · exact ⟨fun _ => rfl, fun _ _ => Nat.zero_le _⟩
def valOp (tb : Tab) (σ : Sta) : Op → Option (Prop × PV)
  | .move x => (σ.ev x).map fun p => (True, p)
  | .assign x => (σ.ev x).map fun p => (True, p)
  | .pick c a b => match σ.ev c, σ.ev a, σ.ev b with
    | some (.d (.v (.bool t))), some p, some q => some (True, if t then p else q)
    | _, _, _ => none
  | .binOp op t x y _ => match σ.ev x, σ.ev y with
    | some p, some q => vBinY tb op t y p q
    | _, _ => none
  | .unOp op _ x => match σ.ev x with
    | some p => vUn op p
    | none => none
  | .convert src dst x => match σ.ev x with
    | some p => vConvert tb src dst p
    | none => none
  | .load t x => match σ.ev x with
    | some p => vLoad tb σ t p
    | none => none
  | .fieldAddr s x f => match σ.ev x with
    | some p => vFieldAddr tb s f p
    | none => none
  | .field t x f => match σ.ev x with
    | some p => vField tb t f p
    | none => none
  | .extract x i => match σ.ev x with
    | some p => vExtract p i
    | none => none
  | .indexAddr t x i => match σ.ev x, σ.ev i with
    | some p, some q => vIndexAddr tb σ t p q
    | _, _ => none
  | .index t x i => match σ.ev x, σ.ev i with
    | some p, some q => vIndex tb t p q
    | _, _ => none
  | .lookup t x k false => match σ.ev x, σ.ev k with
    | some p, some q => vLookup tb σ t p q
    | _, _ => none
  | .slice t x lo hi mx => match σ.ev x, vBound σ lo, vBound σ hi, vBound σ mx with
    | some p, some l, some h, some m => vSlice tb t (rlen σ.mem p) p l h m
    | _, _, _, _ => none
  | .makeFunc fn first caps => vFunc σ fn first.toList caps.toList
  | .makeInterface t x => match σ.ev x, (look t tb).map TI.desc with
    | some (.ptr k 0), some (TypeDesc.pointer _) => some (True, .ifc t k)
    | _, _ => none
  | .nilCheck x => match σ.ev x with
    | some (.ptr k o) => some (True, .ptr k o)
    | some (.ep r o) => some (True, .ep r o)
    | some (.rp k s i o) => some (True, .rp k s i o)
    | some (.clo f cs) => some (True, .clo f cs)
    | some (.ifc t k) => some (True, .ifc t k)
    | _ => none
  | .build t parts => vBuild tb σ t parts.toList
  | .call c => match c.callee with
    | .builtin .len => match c.args.toList, c.argTypes.toList with
      | [x], [t] => match σ.ev x with
        | some p => vLen tb t p
        | none => none
      | _, _ => none
    | .builtin .min => match evInts σ c.args.toList with
      | some l => vMin l
      | none => none
    | .builtin .max => match evInts σ c.args.toList with
      | some l => vMax l
      | none => none
    | _ => none
  | _ => none

theorem toList_one {α : Type} {xs : Array α} {x : α} (h : xs.toList = [x]) : xs = #[x] := by cases xs; simp_all
theorem val_ok (hT : TabOk P tb) (h : Sim B m S σ a w) {o : Oper} {c : Prop} {p : PV} (hv : valOp tb σ o.op = some (c, p)) (hc : c) : ∃ r, (execOp a.eval o).run P w = .ok (.value r) w ∧ Rep m w S r p := by
  obtain ⟨dst, op, ty, pos, after, guard⟩ := o
  have wrap : ∀ {s : Sem Value}, (∃ r, s.run P w = .ok r w ∧ Rep m w S r p) → ∃ r, (do pure (.value (← s)) : Sem Next).run P w = .ok (.value r) w ∧ Rep m w S r p := by
    rintro s ⟨r, h1, h2⟩
    exact ⟨r, by simp only [Sem.run_bind, h1, Result.andThen_ok, Sem.run_pure], h2⟩
  cases op <;> simp only [valOp] at hv <;> try (cases hv; done)
  case move x =>
    obtain ⟨q, h1, h2⟩ := Option.map_eq_some_iff.1 hv
    cases h2
    exact ⟨_, rfl, ev_ok h h1⟩
  case assign x =>
    obtain ⟨q, h1, h2⟩ := Option.map_eq_some_iff.1 hv
    cases h2
    exact ⟨_, rfl, ev_ok h h1⟩
  case pick x y z =>
    split at hv
    · rename_i t p' q' h1 h2 h3
      cases hv
      refine ⟨if t then a.eval y else a.eval z, ?_, ?_⟩
      · simp only [execOp, ev_v h h1, asBool, Sem.run_bind, Sem.run_pure, Result.andThen_ok]
      · cases t
        · exact ev_ok h h3
        · exact ev_ok h h2
    · cases hv
  case binOp bop t x y yt =>
    split at hv
    · rename_i p' q' h1 h2
      exact wrap (vBinY_ok hT hv hc (ev_ok h h1) (ev_ok h h2))
    · cases hv
  case unOp uop t x =>
    split at hv
    · rename_i p' h1; exact wrap (vUn_ok hv (ev_ok h h1))
    · cases hv
  case convert src dst x =>
    split at hv
    · rename_i p' h1; exact wrap (vConvert_ok hT hv (ev_ok h h1))
    · cases hv
  case load t x =>
    split at hv
    · rename_i p' h1; exact wrap (vLoad_ok hT h hv hc (ev_ok h h1))
    · cases hv
  case fieldAddr s x f =>
    split at hv
    · rename_i p' h1; exact wrap (vFieldAddr_ok hT hv (ev_ok h h1))
    · cases hv
  case field t x f =>
    split at hv
    · rename_i p' h1; exact wrap (vField_ok hT hv hc (ev_ok h h1))
    · cases hv
  case extract x i =>
    split at hv
    · rename_i p' h1; exact wrap (vExtract_ok hv (ev_ok h h1))
    · cases hv
  case indexAddr t x i =>
    split at hv
    · rename_i p' q' h1 h2; exact wrap (vIndexAddr_ok hT hv hc (ev_ok h h1) (ev_ok h h2))
    · cases hv
  case index t x i =>
    split at hv
    · rename_i p' q' h1 h2; exact wrap (vIndex_ok hT hv hc (ev_ok h h1) (ev_ok h h2))
    · cases hv
  case slice t x lo hi mx =>
    split at hv
    · rename_i p' l1 l2 l3 h1 h2 h3 h4
      exact wrap (vSlice_ok hT hv (rlen_ok h p') hc (ev_ok h h1) (vBound_ok h h2) (vBound_ok h h3) (vBound_ok h h4))
    · cases hv
  case lookup t x k ok =>
    cases ok with
    | true => cases hv
    | false =>
      dsimp only at hv
      split at hv
      · rename_i p' q' h1 h2
        exact wrap (vLookup_ok hT h hv (ev_ok h h1) (ev_ok h h2))
      · cases hv
  case makeFunc fn first caps => exact wrap (vFunc_ok h hv)
  case build t parts => exact wrap (vBuild_ok hT h hv)
  case nilCheck x =>
    split at hv
    · rename_i k o h1
      cases hv
      have hr := ev_ok h h1
      obtain ⟨b, cc, h2, h3⟩ := hr
      exact ⟨a.eval x, by simp only [execOp, h3, Sem.run_pure], ev_ok h h1⟩
    · rename_i r o h1
      cases hv
      have hr := ev_ok h h1
      obtain ⟨b, cc, h3, _⟩ := hr
      exact ⟨a.eval x, by simp only [execOp, h3, Sem.run_pure], ev_ok h h1⟩
    · rename_i k s i o h1
      cases hv
      have hr := ev_ok h h1
      obtain ⟨b, cc, h2, h3⟩ := hr
      exact ⟨a.eval x, by simp only [execOp, h3, Sem.run_pure], ev_ok h h1⟩
    · rename_i f cs h1
      cases hv
      have hr := ev_ok h h1
      obtain ⟨us, h3, _⟩ := hr
      exact ⟨a.eval x, by simp only [execOp, h3, Sem.run_pure], ev_ok h h1⟩
    · rename_i t k h1
      cases hv
      have hr := ev_ok h h1
      obtain ⟨b, cc, _, h3⟩ := hr
      exact ⟨a.eval x, by simp only [execOp, h3, Sem.run_pure], ev_ok h h1⟩
    · cases hv
  case makeInterface t x =>
    split at hv
    · rename_i k e h1 h2
      cases hv
      obtain ⟨i, hi, hd⟩ := Option.map_eq_some_iff.1 h2
      have e1 := (hT.get hi).under
      rw [hd] at e1
      obtain ⟨b, cc, h3, h4⟩ := ev_ok h h1
      refine wrap ⟨.iface t (.pointer (some ⟨b, 0, none⟩)), ?_, b, cc, h3, rfl⟩
      simp [Instr.makeInterface, run_underlying e1, h4]
    · cases hv
  case call cl =>
    obtain ⟨callee, args, argTypes⟩ := cl
    dsimp only at hv
    split at hv
    · split at hv
      · rename_i x t h1 h2
        have e1 := toList_one h1
        have e2 := toList_one h2
        subst e1 e2
        split at hv
        · rename_i q hq
          obtain ⟨r, h3, h4⟩ := vLen_ok (P := P) (ty := ty) hT hv (ev_ok h hq)
          refine ⟨r, ?_, h4⟩
          simp only [execOp, resolve, invoke, builtin, Sem.run_bind, Sem.run_pure, Result.andThen_ok, List.map_toArray, List.map_cons, List.map_nil, h3]
        · cases hv
      · cases hv
    · split at hv
      · rename_i l hl
        cases l with
        | nil => cases hv
        | cons e l =>
          cases hv
          refine ⟨_, ?_, .v _⟩
          have e1 := evInts_ok h hl
          simp only [execOp, resolve, invoke, builtin, Sem.run_bind, Sem.run_pure, Result.andThen_ok, Builtin.min_, Array.toList_map, e1, List.map_cons, run_min]
      · cases hv
    · split at hv
      · rename_i l hl
        cases l with
        | nil => cases hv
        | cons e l =>
          cases hv
          refine ⟨_, ?_, .v _⟩
          have e1 := evInts_ok h hl
          simp only [execOp, resolve, invoke, builtin, Sem.run_bind, Sem.run_pure, Result.andThen_ok, Builtin.max_, Array.toList_map, e1, List.map_cons, run_max]
      · cases hv
    · cases hv
end
end Go.Proofs.YtplooifpgmlofaaGreat
