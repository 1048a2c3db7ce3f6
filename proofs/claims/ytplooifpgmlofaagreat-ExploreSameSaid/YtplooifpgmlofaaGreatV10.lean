/- New variables and new rows of the call's own. No condition. -/
import Derived.Test.YtplooifpgmlofaaGreatV9d
namespace Go.Proofs.YtplooifpgmlofaaGreat
open Go.RowKit

section
variable {P : Program} {tb : Tab} {B : Base} {m m' : Map} {S S' : Cells} {σ : Sta} {a : Act} {w w' : World} {mem mem' : Mem}

theorem none_of_look (h : MemOk B m S mem w) {k : Nat} (hk : look k mem = none) : m k = none := by
  cases hm : m k with
  | none => rfl
  | some l => have := h.dom k l hm; rw [hk] at this; cases this

theorem var_ok (h : Sim B m S σ a w) {t d : Nat} {cells : List PV} (hdd : d < 1000000) (hk : look d σ.mem = none) {v : Value} (hcl : All2 (Rep1 m w S) v.cells.toList cells) :
    ∃ w' m', (newVar t v).run P w = .ok ⟨w.heap.size, 0, none⟩ w' ∧ Sim B m' S { σ with mem := (d, .box t cells) :: σ.mem } a w' ∧ Rep m' w' S (.pointer (some ⟨w.heap.size, 0, none⟩)) (.ptr d 0) := by
  have hmk := none_of_look h.toMemOk hk
  have hg := Grow.alloc (fun _ => False) w (.cells v.cells t)
  have hcells := hg.cells h.sin fun _ _ _ h => h
  refine ⟨w.alloc (.cells v.cells t), upd m d ⟨some w.heap.size, 0⟩, rfl, h.new hdd hk (fun b hb => by cases hb; exact Nat.le_refl _) hg ?_, w.heap.size, 0, upd_same .., rfl⟩
  refine ⟨w.heap.size, 0, v.cells, upd_same .., heap_alloc_new w _, ?_, fun o hs => absurd (h.sin _ o hs) (Nat.lt_irrefl _)⟩
  exact hcl.imp fun _ _ _ hr => Rep1.keep (fun _ _ hs => hs) hcells (fun k _ l => upd_of hmk k l) hr

theorem row_ok (h : Sim B m S σ a w) {e d sz n cap : Nat} {arr : Array Value} {us : List Value} {xs : List (List D)} (hdd : d < 1000000) (hk : look d σ.mem = none) (h0 : 0 < sz) (hx : ∀ x ∈ xs, x.length = sz) (hn : n = xs.length) (hnc : n ≤ cap) (hcm : cap ≤ maxLen) (hsz : arr.size = cap * sz)
    (hus : All2 (RepD w S) us xs.flatten) (hone : ∀ u ∈ us, u.oneCell' = true) (hpre : ∀ (j : Nat) (v : Value), us[j]? = some v → arr[j]? = some v) :
    ∃ m', Sim B m' S { σ with mem := (d, .row e sz xs false) :: σ.mem } a (w.alloc (.cells arr e)) ∧ Rep m' (w.alloc (.cells arr e)) S (.slice (some ⟨w.heap.size, 0, none⟩) n cap) (.rw d n) := by
  subst hn
  have hg := Grow.alloc (fun _ => False) w (.cells arr e)
  have hcells := hg.cells h.sin fun _ _ _ h => h
  refine ⟨upd m d ⟨some w.heap.size, cap⟩, h.new hdd hk (fun b hb => by cases hb; exact Nat.le_refl _) hg ?_, _, upd_same .., .inr ⟨w.heap.size, rfl, rfl, hnc⟩⟩
  refine ⟨h0, hx, _, upd_same .., .inr ⟨w.heap.size, arr, us, rfl, heap_alloc_new w _, hnc, hcm, hsz, hus.imp fun _ _ _ hr => hr.keep (fun _ _ hs => hs) hcells, hone, hpre, fun o hs => absurd (h.sin _ o hs) (Nat.lt_irrefl _), fun h => by cases h⟩⟩
theorem nil_ok (h : Sim B m S σ a w) {e d sz : Nat} (hdd : d < 1000000) (hk : look d σ.mem = none) (h0 : 0 < sz) : ∃ m', Sim B m' S { σ with mem := (d, .row e sz [] false) :: σ.mem } a w ∧ Rep m' w S (.slice none 0 0) (.rw d 0) ∧ ∀ k l, m k = some l → m' k = some l := by
  refine ⟨upd m d ⟨none, 0⟩, h.new hdd hk (fun b hb => by cases hb) (Grow.refl _ _) ⟨h0, (fun x hx => by cases hx), _, upd_same .., .inl ⟨rfl, rfl⟩⟩, ⟨_, upd_same .., .inl ⟨rfl, rfl, rfl⟩⟩, upd_of (none_of_look h.toMemOk hk)⟩

def chunk (sz : Nat) : Nat → List D → List (List D)
  | 0, _ => []
  | n + 1, l => l.take sz :: chunk sz n (l.drop sz)
theorem chunk_ok (sz : Nat) : ∀ (n : Nat) (l : List D), l.length = n * sz → (chunk sz n l).flatten = l ∧ (∀ x ∈ chunk sz n l, x.length = sz) ∧ (chunk sz n l).length = n
  | 0, l, h => ⟨by simp [chunk, List.eq_nil_of_length_eq_zero (by simpa using h)], (fun x hx => by cases hx), rfl⟩
  | n + 1, l, h => by
    rw [Nat.add_mul] at h
    obtain ⟨h1, h2, h3⟩ := chunk_ok sz n (l.drop sz) (by rw [List.length_drop]; omega)
    refine ⟨by rw [chunk, List.flatten_cons, h1, List.take_append_drop], fun x hx => ?_, by rw [chunk, List.length_cons, h3]⟩
    rcases List.mem_cons.1 hx with rfl | hx
    · rw [List.length_take]; omega
    · exact h2 x hx
def datas : List PV → Option (List D)
  | [] => some []
  | .d x :: r => if PV.one (.d x) then (datas r).map (x :: ·) else none
  | .clo f [] :: r => (datas r).map (.v (.func (.func f) #[] #[]) :: ·)
  | _ => none
theorem datas_ok : ∀ {ps : List PV} {l : List D} {us : List Value}, datas ps = some l → All2 (Rep1 m w S) us ps → All2 (RepD w S) us l ∧ ∀ u ∈ us, u.oneCell' = true
  | [], l, [], h, _ => by cases h; exact ⟨trivial, fun u hu => by cases hu⟩
  | .d x :: r, l, u :: us, h, ⟨h1, h2⟩ => by
    unfold datas at h
    split at h
    · rename_i ho
      obtain ⟨l', h3, rfl⟩ := Option.map_eq_some_iff.1 h
      obtain ⟨g1, g2⟩ := datas_ok h3 h2
      refine ⟨⟨h1, g1⟩, fun v hv => ?_⟩
      rcases List.mem_cons.1 hv with rfl | hv
      · exact one_ok h1 ho
      · exact g2 v hv
    · cases h
  | .clo f [] :: r, l, u :: us, h, ⟨⟨vs, e, ha⟩, h2⟩ => by
    unfold datas at h
    obtain ⟨l', h3, rfl⟩ := Option.map_eq_some_iff.1 h
    obtain ⟨g1, g2⟩ := datas_ok h3 h2
    cases vs with
    | cons _ _ => exact ha.elim
    | nil =>
      subst e
      refine ⟨⟨.v _, g1⟩, fun v hv => ?_⟩
      rcases List.mem_cons.1 hv with rfl | hv
      · rfl
      · exact g2 v hv
  | [], _, _ :: _, _, h => h.elim
  | .agg _ :: _, _, _, h, _ => by cases h
  | .tup _ :: _, _, _, h, _ => by cases h
  | .rw _ _ :: _, _, _, h, _ => by cases h
  | .ptr _ _ :: _, _, _, h, _ => by cases h
  | .rp _ _ _ _ :: _, _, _, h, _ => by cases h
  | .rs _ _ _ _ _ :: _, _, _, h, _ => by cases h
  | .ep _ _ :: _, _, _, h, _ => by cases h
  | .any :: _, _, _, h, _ => by cases h
  | .clo _ (_ :: _) :: _, _, _, h, _ => by cases h
  | .d _ :: _, _, [], _, h => h.elim
  | .clo _ [] :: _, _, [], _, h => h.elim

def zc (z : List PV) : Nat → List PV
  | 0 => []
  | n + 1 => z ++ zc z n
theorem zc_get (z : List PV) : ∀ (n q : Nat), q < n * z.length → (zc z n)[q]? = z[q % z.length]?
  | 0, q, h => by simp at h
  | n + 1, q, h => by
    have h0 : 0 < z.length := Nat.pos_of_ne_zero fun e => by rw [e] at h; simp at h
    rw [Nat.add_mul] at h
    unfold zc
    by_cases hq : q < z.length
    · rw [List.getElem?_append_left hq, Nat.mod_eq_of_lt hq]
    · rw [List.getElem?_append_right (by omega), zc_get z n (q - z.length) (by omega), Nat.mod_eq_sub_mod (by omega : q ≥ z.length)]
theorem zc_len (z : List PV) : ∀ n, (zc z n).length = n * z.length
  | 0 => by simp [zc]
  | n + 1 => by unfold zc; rw [List.length_append, zc_len z n, Nat.add_mul]; omega
theorem zc_eq (z : List Value) (n : Nat) (h0 : 0 < z.length) : ((List.range (n * z.length)).map fun q => PV.d (.v (z.getD (q % z.length) default))) = zc (z.map fun v => .d (.v v)) n := by
  apply List.ext_getElem?
  intro q
  by_cases hq : q < n * z.length
  · rw [zc_get _ n q (by simpa using hq), List.getElem?_map, List.getElem?_range hq, List.length_map, List.getElem?_map]
    have hlt : q % z.length < z.length := Nat.mod_lt _ h0
    simp [List.getD_eq_getElem?_getD, List.getElem?_eq_getElem hlt]
  · rw [List.getElem?_eq_none (by simpa using hq), List.getElem?_eq_none (by rw [zc_len]; simpa using hq)]
def vBuildSlice (tb : Tab) (σ : Sta) (t len : Nat) (parts : List (Nat × Operand)) : Option (Nat × Nat × List (List D)) :=
  match look t tb, evParts σ parts with
  | some ti, some ps => match ti.desc with
    | .slice e => match look e tb with
      | some ei => if ei.zero.length = ei.size ∧ 0 < ei.size ∧ len * ei.size ≤ 16777216 then
          match pfill (fun i => some (i * ei.size, ei.size)) (zc (ei.zero.map fun v => .d (.v v)) len) ps with
          | some cells => (datas cells).map fun l => (e, ei.size, chunk ei.size len l)
          | none => none
        else none
      | none => none
    | _ => none
  | _, _ => none
theorem pfill_len {place : Nat → Option (Nat × Nat)} : ∀ {ps : List (Nat × PV)} {cells out : List PV}, pfill place cells ps = some out → out.length = cells.length
  | [], _, _, h => by cases h; rfl
  | (i, p) :: ps, cells, out, h => by
    unfold pfill at h
    split at h
    · split at h
      · rename_i off size _ hc
        simp only [Bool.and_eq_true, decide_eq_true_eq] at hc
        rw [pfill_len h]
        simp only [List.length_append, List.length_take, List.length_drop]
        omega
      · cases h
    · cases h
theorem buildSlice_ok (hT : TabOk P tb) (h : Sim B m S σ a w) {t len d e sz : Nat} {parts : Array (Nat × Operand)} {xs : List (List D)} (hv : vBuildSlice tb σ t len parts.toList = some (e, sz, xs)) (hdd : d < 1000000) (hk : look d σ.mem = none) :
    ∃ r w' m', (Instr.buildSlice t len (parts.map fun (i, x) => (i, a.eval x))).run P w = .ok r w' ∧ Sim B m' S { σ with mem := (d, .row e sz xs false) :: σ.mem } a w' ∧ Rep m' w' S r (.rw d len) := by
  unfold vBuildSlice at hv
  split at hv
  · rename_i ti ps h1 h2
    split at hv
    · rename_i e' hd
      split at hv
      · rename_i ei he
        split at hv
        · rename_i hc
          obtain ⟨c1, c2, c3⟩ := hc
          split at hv
          · rename_i cells hf
            obtain ⟨l, hl, hq⟩ := Option.map_eq_some_iff.1 hv
            cases hq
            have hzz := zc_eq ei.zero len (by omega)
            rw [show len * ei.zero.length = len * ei.size from by rw [c1]] at hzz
            rw [← hzz] at hf
            have hu := (hT.get h1).under
            rw [hd] at hu
            obtain ⟨z, hz, hzc⟩ := (hT.get he).zeroValue w
            have hps := evParts_ok h h2
            have hz0 : All2 (Rep1 m w S) (((Array.range (len * ei.size)).map (ei.zero.toArray[· % ei.zero.toArray.size]!)).toList) ((List.range (len * ei.size)).map fun q => .d (.v (ei.zero.getD (q % ei.zero.length) default))) := by
              have : ((Array.range (len * ei.size)).map (ei.zero.toArray[· % ei.zero.toArray.size]!)).toList = (List.range (len * ei.size)).map fun q => ei.zero.getD (q % ei.zero.length) default := by
                rw [Array.toList_map, Array.toList_range]
                apply List.map_congr_left
                intro q _
                simp [List.getD_eq_getElem?_getD]
              rw [this]
              have key : ∀ L : List Nat, All2 (Rep1 m w S) (L.map fun q => ei.zero.getD (q % ei.zero.length) default) (L.map fun q => PV.d (.v (ei.zero.getD (q % ei.zero.length) default))) := by
                intro L
                induction L with
                | nil => trivial
                | cons q L ih => exact ⟨.v _, ih⟩
              exact key _
            obtain ⟨us, g1, g2⟩ := pfill_ok hps hz0 hf
            obtain ⟨g3, g4⟩ := datas_ok hl g2
            have hlen : us.size = len * ei.size := by
              rw [← Array.length_toList, g2.len, pfill_len hf]; simp
            have hll : l.length = len * ei.size := by rw [← g3.len, Array.length_toList, hlen]
            obtain ⟨k1, k2, k3⟩ := chunk_ok ei.size len l hll
            have hlm : len ≤ 16777216 := Nat.le_trans (Nat.le_mul_of_pos_right len c2) c3
            obtain ⟨m', f1, f2⟩ := row_ok (e := e) (n := len) (cap := len) (arr := us) (us := us.toList) h hdd hk c2 k2 k3.symm (Nat.le_refl _) (by unfold maxLen; omega) hlen (by rw [k1]; exact g3) g4 (fun j v hj => by simpa using hj)
            refine ⟨_, _, m', ?_, f1, f2⟩
            have g1' : Instr.fill (fun i => some (i * ei.size, ei.size)) ((Array.range (len * ei.size)).map (ei.zero.toArray[· % ei.zero.toArray.size]!)) (parts.map fun (i, x) => (i, a.eval x)).toList = some us := by
              rw [Array.toList_map]; exact g1
            have hbig : ¬ len * ei.size > 2 ^ 24 := by omega
            by_cases hz1 : len * ei.size = 0
            · have e0 : ∀ f : Nat → Value, (Array.range 0).map f = #[] := fun f => by simp
              rw [hz1, e0] at g1'
              simp only [Instr.buildSlice, Sem.run_bind, run_underlying hu, Result.andThen_ok, (hT.get he).sizeOf, hz1, if_true, e0, g1']
              rfl
            · simp only [Instr.buildSlice, Sem.run_bind, run_underlying hu, Result.andThen_ok, (hT.get he).sizeOf, hbig, if_false, hz1, hz, Sem.run_pure, hzc, g1']
              rfl
          · cases hv
        · cases hv
      · cases hv
    · cases hv
  · cases hv
end
end Go.Proofs.YtplooifpgmlofaaGreat
