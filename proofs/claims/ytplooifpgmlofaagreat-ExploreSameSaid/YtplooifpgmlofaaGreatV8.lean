/- Rows of the call's own: how they are let go as data, and how they grow. No condition. -/
import Derived.Test.YtplooifpgmlofaaGreatV7
namespace Go.Proofs.YtplooifpgmlofaaGreat
open Go.RowKit

section
variable {P : Program} {tb : Tab} {B : Base} {m m' : Map} {S S' : Cells} {σ : Sta} {a : Act} {w w' : World} {mem mem' : Mem}

theorem all2_get {us : List Value} {l : List D} (h : All2 (RepD w S) us l) {i : Nat} {x : D} (hx : l[i]? = some x) : ∃ u, us[i]? = some u ∧ RepD w S u x := h.get hx

theorem row_data {t sz k n : Nat} {xs : List (List D)} {v : Value} (ho : ObjOk m w S k (.row t sz xs true)) (hv : Rep m w S v (.rw k n)) (hn : n ≤ xs.length) : RepD w S v (.sl sz (xs.take n)) := by
  obtain ⟨h0, h1, l, h2, h3⟩ := ho
  obtain ⟨l', g1, g2⟩ := hv
  rw [h2] at g1; cases g1
  have hl : (xs.take n).length = n := by rw [List.length_take]; omega
  have hrow : ∀ x ∈ xs.take n, x.length = sz := fun x hx => h1 x (List.mem_of_mem_take hx)
  rcases g2 with ⟨_, rfl, rfl⟩ | ⟨b, gb, rfl, gc⟩
  · exact .sl none 0 0 sz _ (fun _ _ => .bool false) (by simp) (Nat.le_refl _) (Nat.zero_le _) (fun _ => rfl) h0 hrow (fun h => by simp at h) (fun i j hi => by simp at hi) (fun i x j p hx => by simp at hx)
  · rcases h3 with ⟨h3, _⟩ | ⟨b', arr, us, e, h4, h5, h6, h7, h8, h9, h10, h11, h12⟩
    · rw [gb] at h3; cases h3
    rw [gb] at e; cases e
    have hus : us.length = xs.length * sz := by rw [h8.len, flatten_len sz xs h1]
    have hij : ∀ i j, i < n → j < sz → i * sz + j < xs.length * sz := fun i j hi hj => by
      have := Nat.mul_le_mul_right sz (show i + 1 ≤ xs.length by omega)
      rw [Nat.add_mul] at this; omega
    refine .sl _ n l.cap sz _ (fun i j => us.getD (i * sz + j) default) hl.symm gc h6 (fun h => by cases h) h0 hrow (fun hp => ⟨b, 0, rfl, fun i j hi hj => ?_⟩) (fun i j hi hj => ?_) fun i x j p hx hp => ?_
    · rw [hl] at hi
      have hlt := hij i j hi hj
      rw [Nat.zero_add]
      refine ⟨h12 rfl _ hlt, ?_⟩
      have hu : us[i * sz + j]? = some (us.getD (i * sz + j) default) := by rw [List.getD_eq_getElem?_getD, List.getElem?_eq_getElem (by omega)]; rfl
      have := h10 _ _ hu
      simp only [World.cell?, h4]
      simpa using this
    · rw [hl] at hi
      have hlt := hij i j hi hj
      rw [List.getD_eq_getElem?_getD, List.getElem?_eq_getElem (by omega)]
      exact h9 _ (List.getElem_mem _)
    · have hi : i < n := by have := (List.getElem?_eq_some_iff.1 hx).1; omega
      rw [List.getElem?_take, if_pos hi] at hx
      have hlx := h1 x (List.mem_of_getElem? hx)
      have hj : j < sz := by rw [← hlx]; exact (List.getElem?_eq_some_iff.1 hp).1
      have hxi : i < xs.length := (List.getElem?_eq_some_iff.1 hx).1
      have hf : xs.flatten[i * sz + j]? = some p := by
        have h := flatten_get sz xs h1 i hxi
        rw [List.getD_eq_getElem?_getD, hx, Option.getD_some] at h
        rw [← h, List.getElem?_take, if_pos hj, List.getElem?_drop] at hp
        exact hp
      obtain ⟨u, hu, hr⟩ := all2_get h8 hf
      rw [List.getD_eq_getElem?_getD, hu]
      exact hr

theorem leak_ok (h : Sim B m S σ a w) {k t sz : Nat} {xs : List (List D)} {l : Bool} (hk : look k σ.mem = some (.row t sz xs l)) (hkk : k < 1000000) :
    ∃ S', Sim B m S' { σ with mem := (k, .row t sz xs true) :: σ.mem } a w ∧ (∀ b o, S b o → S' b o) := by
  obtain ⟨h0, h1, lc, h2, h3⟩ := h.objs _ _ hk
  have hdom : ∀ j l', m j = some l' → (look j ((k, MObj.row t sz xs true) :: σ.mem)).isSome := fun j l' hj => by
    unfold look
    split
    · rfl
    · exact h.dom j l' hj
  have hsubs : ∀ j i c b, m.sub j i c = some b → ∃ o, look j ((k, MObj.row t sz xs true) :: σ.mem) = some o ∧ isNest o = true := fun j i c b hj => by
    obtain ⟨q, hq, hn⟩ := h.subs j i c b hj
    refine ⟨q, ?_, hn⟩
    unfold look
    rw [if_neg (by rintro rfl; rw [hk] at hq; cases hq; cases hn)]
    exact hq
  rcases h3 with ⟨h3, h4⟩ | ⟨b, arr, us, e, h4, h5, h6, h7, h8, h9, h10, h11, h12⟩
  · refine ⟨S, h.world { h.toMemOk with dom := hdom, subs := hsubs, subx := h.subx, ext := fun j l h1 h2 h3 => (h.ext j l h1 h2 h3).imp id fun ⟨g1, g2⟩ => ⟨look_more g1, g2⟩, objs := fun j q hq => ?_ } (fun _ _ hs => hs) (fun _ _ _ => rfl) fun _ _ hl => hl, fun _ _ hs => hs⟩
    rcases look_cons hq with ⟨rfl, rfl⟩ | ⟨_, hq⟩
    · exact ⟨h0, h1, lc, h2, .inl ⟨h3, h4⟩⟩
    · exact h.objs j q hq
  · have hmk : m k = some ⟨some b, lc.cap⟩ := by rw [h2]; cases lc; cases e; rfl
    have hlt := h.toMemOk.lt hmk
    have hb0 : B.w.heap.size ≤ b := by
      rcases h.fresh k b _ hmk with h' | h'
      · exact h'
      · omega
    refine ⟨fun b' o => S b' o ∨ (b' = b ∧ o < xs.length * sz), h.world ?_ (fun _ _ hs => .inl hs) (fun _ _ _ => rfl) fun _ _ hl => hl, fun _ _ hs => .inl hs⟩
    refine { h.toMemOk with dom := hdom, subs := hsubs, subx := h.subx, ext := fun j l h1 h2 h3 => (h.ext j l h1 h2 h3).imp id fun ⟨g1, g2⟩ => ⟨look_more g1, g2⟩, objs := fun j q hq => ?_, sold := fun _ _ hs => .inl (h.sold _ _ hs), snew := fun b' o hs hb' => ?_, marks := fun x hx => ⟨(h.marks x hx).1, (h.marks x hx).2.1, fun o hs => hs.elim (fun hs => (h.marks x hx).2.2 o hs) fun e => h.toMemOk.noMark (.inl ⟨_, hmk⟩) hx e.1⟩, sin := fun b' o hs => ?_ }
    · rcases look_cons hq with ⟨rfl, rfl⟩ | ⟨hne, hq⟩
      · refine ⟨h0, h1, lc, h2, .inr ⟨b, arr, us, e, h4, h5, h6, h7, h8.imp fun _ _ _ hr => hr.keep (fun _ _ hs => .inl hs) fun _ _ _ => rfl, h9, h10, fun o hs => ⟨rfl, ?_⟩, fun _ o ho => .inr ⟨rfl, ho⟩⟩⟩
        rcases hs with hs | hs
        · exact (h11 o hs).2
        · exact hs.2
      · refine (h.objs j q hq).keep (fun _ _ hs => .inl hs) (fun _ _ _ => rfl) (fun _ _ _ hl => hl) (fun _ hl => hl) rfl fun b' hb => ⟨rfl, fun o hs => ?_⟩
        rcases hs with hs | ⟨rfl, _⟩
        · exact hs
        · exact absurd (h.parts j k _ hb (.inl ⟨_, hmk⟩)) hne
    · rcases hs with hs | ⟨rfl, _⟩
      · exact h.snew _ _ hs hb'
      · omega
    · rcases hs with hs | ⟨rfl, _⟩
      · exact h.sin _ _ hs
      · exact hlt

theorem seg_data {t sz k off n fl : Nat} {xs : List (List D)} {v : Value} (ho : ObjOk m w S k (.row t sz xs true)) (hv : Rep m w S v (.rs k sz off n fl)) (hn : off + n ≤ xs.length) : RepD w S v (.sl sz ((xs.drop off).take n)) := by
  obtain ⟨h0, h1, l, h2, h3⟩ := ho
  obtain ⟨l', g1, g2⟩ := hv
  rw [h2] at g1; cases g1
  have hl : ((xs.drop off).take n).length = n := by rw [List.length_take, List.length_drop]; omega
  have hrow : ∀ x ∈ (xs.drop off).take n, x.length = sz := fun x hx => h1 x (List.mem_of_mem_drop (List.mem_of_mem_take hx))
  rcases g2 with ⟨_, rfl, rfl, _⟩ | ⟨b, ad, cp, gb, rfl, ⟨gc, gc2⟩, _, gad, _⟩
  · exact .sl none 0 0 sz _ (fun _ _ => .bool false) (by simp) (Nat.le_refl _) (Nat.zero_le _) (fun _ => rfl) h0 hrow (fun h => by simp at h) (fun i j hi => by simp at hi) (fun i x j p hx => by simp at hx)
  · rcases h3 with ⟨h3, _⟩ | ⟨b', arr, us, e, h4, h5, h6, h7, h8, h9, h10, h11, h12⟩
    · rw [gb] at h3; cases h3
    rw [gb] at e; cases e
    have hus : us.length = xs.length * sz := by rw [h8.len, flatten_len sz xs h1]
    have hij : ∀ i j, i < n → j < sz → (off + i) * sz + j < xs.length * sz := fun i j hi hj => by
      have := Nat.mul_le_mul_right sz (show off + i + 1 ≤ xs.length by omega)
      rw [Nat.add_mul] at this; omega
    refine .sl _ n cp sz _ (fun i j => us.getD ((off + i) * sz + j) default) hl.symm gc (Nat.le_trans gc2 h6) (fun h => by cases h) h0 hrow (fun hp => ⟨b, off * sz, ?_, fun i j hi hj => ?_⟩) (fun i j hi hj => ?_) fun i x j p hx hp => ?_
    · rw [hl] at hp; rw [gad (by omega)]
    · rw [hl] at hi
      have hlt := hij i j hi hj
      rw [← Nat.add_mul]
      refine ⟨h12 rfl _ hlt, ?_⟩
      have hu : us[(off + i) * sz + j]? = some (us.getD ((off + i) * sz + j) default) := by rw [List.getD_eq_getElem?_getD, List.getElem?_eq_getElem (by omega)]; rfl
      have := h10 _ _ hu
      simp only [World.cell?, h4]
      simpa using this
    · rw [hl] at hi
      have hlt := hij i j hi hj
      rw [List.getD_eq_getElem?_getD, List.getElem?_eq_getElem (by omega)]
      exact h9 _ (List.getElem_mem _)
    · have hi : i < n := by have := (List.getElem?_eq_some_iff.1 hx).1; omega
      rw [List.getElem?_take, if_pos hi, List.getElem?_drop] at hx
      have hlx := h1 x (List.mem_of_getElem? hx)
      have hj : j < sz := by rw [← hlx]; exact (List.getElem?_eq_some_iff.1 hp).1
      have hxi : off + i < xs.length := (List.getElem?_eq_some_iff.1 hx).1
      have hf : xs.flatten[(off + i) * sz + j]? = some p := by
        have h := flatten_get sz xs h1 (off + i) hxi
        rw [List.getD_eq_getElem?_getD, hx, Option.getD_some] at h
        rw [← h, List.getElem?_take, if_pos hj, List.getElem?_drop] at hp
        exact hp
      obtain ⟨u, hu, hr⟩ := all2_get h8 hf
      rw [List.getD_eq_getElem?_getD, hu]
      exact hr
def view1 (mem : Mem) : PV → Prop × Mem × PV
  | .rw k n => match look k mem with
    | some (.row t sz xs _) => if k < 1000000 then (n ≤ xs.length, (k, .row t sz xs true) :: mem, .d (.sl sz (xs.take n))) else (False, mem, .any)
    | _ => (False, mem, .any)
  | .rs k sz off n _ => match look k mem with
    | some (.row t sz' xs _) => if k < 1000000 then (sz' = sz ∧ off + n ≤ xs.length, (k, .row t sz' xs true) :: mem, .d (.sl sz' ((xs.drop off).take n))) else (False, mem, .any)
    | _ => (False, mem, .any)
  | .clo f [] => (True, mem, .d (.v (.func (.func f) #[] #[])))
  | p => (True, mem, p)
def viewL (mem : Mem) : List PV → Prop × Mem × List PV
  | [] => (True, mem, [])
  | p :: r => ((view1 mem p).1 ∧ (viewL (view1 mem p).2.1 r).1, (viewL (view1 mem p).2.1 r).2.1, (view1 mem p).2.2 :: (viewL (view1 mem p).2.1 r).2.2)
def view2 (mem : Mem) : PV → Prop × Mem × PV
  | .agg cs => ((viewL mem cs).1, (viewL mem cs).2.1, .agg (viewL mem cs).2.2)
  | p => view1 mem p
theorem view1_ok (h : Sim B m S σ a w) {v : Value} {p : PV} (hv : Rep1 m w S v p) (hc : (view1 σ.mem p).1) :
    ∃ S', Sim B m S' { σ with mem := (view1 σ.mem p).2.1 } a w ∧ (∀ b o, S b o → S' b o) ∧ Rep1 m w S' v (view1 σ.mem p).2.2 := by
  unfold view1 at hc ⊢
  split at hc
  · rename_i k n
    split at hc
    · rename_i t sz xs l hk
      split at hc
      · rename_i hkk
        simp only [hkk, if_true]
        obtain ⟨S', h1, h2⟩ := leak_ok h hk hkk
        have hv' : Rep m w S' v (.rw k n) := Rep.keep h2 (fun _ _ _ => rfl) (fun _ _ _ hl => hl) hv
        exact ⟨S', h1, h2, row_data (t := t) (h1.objs k _ (by simp [look])) hv' hc⟩
      · exact hc.elim
    · exact hc.elim
  · rename_i k sz off n fl
    split at hc
    · rename_i t sz' xs l hk
      split at hc
      · rename_i hkk
        simp only [hkk, if_true]
        obtain ⟨rfl, hc⟩ := hc
        obtain ⟨S', h1, h2⟩ := leak_ok h hk hkk
        have hv' : Rep m w S' v (.rs k sz' off n fl) := Rep.keep h2 (fun _ _ _ => rfl) (fun _ _ _ hl => hl) hv
        exact ⟨S', h1, h2, seg_data (t := t) (h1.objs k _ (by simp [look])) hv' hc⟩
      · exact hc.elim
    · exact hc.elim
  · rename_i f
    obtain ⟨vs, rfl, ha⟩ := hv
    cases vs with
    | nil => exact ⟨S, h, fun _ _ hs => hs, .v _⟩
    | cons _ _ => exact ha.elim
  · exact ⟨S, h, fun _ _ hs => hs, hv⟩
theorem viewL_ok : ∀ {ps : List PV} {σ : Sta} {S : Cells} {vs : List Value}, Sim B m S σ a w → All2 (Rep1 m w S) vs ps → (viewL σ.mem ps).1 →
    ∃ S', Sim B m S' { σ with mem := (viewL σ.mem ps).2.1 } a w ∧ (∀ b o, S b o → S' b o) ∧ All2 (Rep1 m w S') vs (viewL σ.mem ps).2.2
  | [], σ, S, [], h, _, _ => ⟨S, h, fun _ _ hs => hs, trivial⟩
  | p :: ps, σ, S, v :: vs, h, ⟨h1, h2⟩, ⟨c1, c2⟩ => by
    obtain ⟨S1, g1, g2, g3⟩ := view1_ok h h1 c1
    obtain ⟨S2, k1, k2, k3⟩ := viewL_ok (ps := ps) (vs := vs) g1 (h2.imp fun _ _ _ hr => Rep1.keep g2 (fun _ _ _ => rfl) (fun _ _ _ hl => hl) hr) c2
    exact ⟨S2, k1, fun b o hs => k2 b o (g2 b o hs), Rep1.keep k2 (fun _ _ _ => rfl) (fun _ _ _ hl => hl) g3, k3⟩
  | [], _, _, _ :: _, _, h, _ => h.elim
  | _ :: _, _, _, [], _, h, _ => h.elim
theorem view2_ok (h : Sim B m S σ a w) {v : Value} {p : PV} (hv : Rep2 m w S v p) (hc : (view2 σ.mem p).1) :
    ∃ S', Sim B m S' { σ with mem := (view2 σ.mem p).2.1 } a w ∧ (∀ b o, S b o → S' b o) ∧ Rep2 m w S' v (view2 σ.mem p).2.2 := by
  have fin : ∀ q, Rep1 m w S v q → (view1 σ.mem q).1 → ∃ S', Sim B m S' { σ with mem := (view1 σ.mem q).2.1 } a w ∧ (∀ b o, S b o → S' b o) ∧ Rep2 m w S' v (view1 σ.mem q).2.2 := fun q hq hc => by
    obtain ⟨S', k1, k2, k3⟩ := view1_ok h hq hc
    exact ⟨S', k1, k2, Rep2.of1 k3⟩
  cases p with
  | agg cs =>
    obtain ⟨vs, rfl, ha⟩ := hv
    obtain ⟨S', h1, h2, h3⟩ := viewL_ok h ha hc
    exact ⟨S', h1, h2, vs, rfl, h3⟩
  | d x => exact fin (.d x) hv hc
  | tup cs => exact fin (.tup cs) hv hc
  | rw k n => exact fin (.rw k n) hv hc
  | ptr k off => exact fin (.ptr k off) hv hc
  | rp k sz i off => exact fin (.rp k sz i off) hv hc
  | rs k sz off n fl => exact fin (.rs k sz off n fl) hv hc
  | ep row off => exact fin (.ep row off) hv hc
  | mp k => exact fin (.mp k) hv hc
  | ifc t k => exact fin (.ifc t k) hv hc
  | fd sz xs => exact fin (.fd sz xs) hv hc
  | clo f cs => exact fin (.clo f cs) hv hc
  | any => exact fin .any hv hc
end
end Go.Proofs.YtplooifpgmlofaaGreat
