/- Stores into a row's elements; make. No condition. -/
import Derived.Test.YtplooifpgmlofaaGreatV10
import Derived.Laws.MakeOwn
namespace Go.Proofs.YtplooifpgmlofaaGreat
open Go.RowKit

section
variable {P : Program} {tb : Tab} {B : Base} {m m' : Map} {S S' : Cells} {σ : Sta} {a : Act} {w w' : World}

theorem flatten_set (sz : Nat) {xs : List (List D)} (h : ∀ x ∈ xs, x.length = sz) {i off : Nat} {ls : List D} (hi : i < xs.length) (ho : off + ls.length ≤ sz) :
    (xs.set i ((xs.getD i []).take off ++ ls ++ (xs.getD i []).drop (off + ls.length))).flatten = xs.flatten.take (i * sz + off) ++ ls ++ xs.flatten.drop (i * sz + off + ls.length) := by
  have hr := flatten_get sz xs h i hi
  have hrl : (xs.getD i []).length = sz := by
    rw [List.getD_eq_getElem?_getD, List.getElem?_eq_getElem hi]
    exact h _ (List.getElem_mem hi)
  rw [List.set_eq_take_append_cons_drop, if_pos hi, List.flatten_append, List.flatten_cons, flatten_take sz xs h i (by omega), flatten_drop sz xs h (i + 1)]
  generalize xs.flatten = F at *
  generalize xs.getD i [] = r at *
  have e1 : F.drop (i * sz) = r ++ F.drop ((i + 1) * sz) := by
    conv => lhs; rw [← List.take_append_drop sz (F.drop (i * sz)), hr]
    rw [List.drop_drop, Nat.add_mul, Nat.one_mul]
  have e2 : F.take (i * sz + off) = F.take (i * sz) ++ r.take off := by
    rw [List.take_add, e1, List.take_append_of_le_length (by omega)]
  have e3 : F.drop (i * sz + off + ls.length) = r.drop (off + ls.length) ++ F.drop ((i + 1) * sz) := by
    rw [Nat.add_assoc, ← List.drop_drop, e1, List.drop_append_of_le_length (by omega)]
  rw [e2, e3]
  simp only [List.append_assoc]

theorem rowStore_ok (h : Sim B m S σ a w) {k e sz i off b : Nat} {cc : Nat} {xs : List (List D)} {vs : List Value} {ls : List D} (hk : look k σ.mem = some (.row e sz xs false)) (hm : m k = some ⟨some b, cc⟩) (hi : i < xs.length) (ho : off + ls.length ≤ sz)
    (hv : All2 (RepD w S) vs ls) (hone : ∀ v ∈ vs, v.oneCell' = true) :
    ∃ w', (storeCells ⟨b, i * sz + off, none⟩ vs 0).run P w = .ok () w' ∧ Sim B m S { σ with mem := (k, .row e sz (xs.set i ((xs.getD i []).take off ++ ls ++ (xs.getD i []).drop (off + ls.length))) false) :: σ.mem } a w' := by
  obtain ⟨h0, h1, lc, h2, h3⟩ := h.objs _ _ hk
  rw [hm] at h2; cases h2
  rcases h3 with ⟨h3, _⟩ | ⟨b', arr, us, e1, h4, h5, h6, h7, h8, h9, h10, h11, h12⟩
  · cases h3
  cases e1
  have hvl := hv.len
  have hus : us.length = xs.length * sz := by rw [h8.len, flatten_len sz xs h1]
  have hmul : i * sz + off + ls.length ≤ us.length := by
    have := Nat.mul_le_mul_right sz (show i + 1 ≤ xs.length by omega)
    rw [Nat.add_mul] at this; omega
  have hfit : i * sz + off + 0 + vs.length ≤ arr.size := by
    have h5 : xs.length ≤ cc := h5
    have h7 : arr.size = cc * sz := h7
    have := Nat.mul_le_mul_right sz h5
    omega
  obtain ⟨w', arr', k1, k2, k3, k4⟩ := run_storeCells (P := P) b e vs (i * sz + off) 0 arr w h4 hfit hone
  rw [Nat.add_zero] at k4
  have hns : ∀ o, ¬ S b o := fun o hs => by have := (h11 o hs).1; cases this
  refine ⟨w', k1, h.write hk (.inl rfl) hm hns k2 ?_⟩
  obtain ⟨tl, htl⟩ : ∃ tl, arr.toList = us ++ tl := by
    refine ⟨arr.toList.drop us.length, ?_⟩
    have : arr.toList.take us.length = us := by
      apply List.ext_getElem?
      intro j
      rw [List.getElem?_take]
      split
      · rename_i hj
        obtain ⟨x, hx⟩ : ∃ x, us[j]? = some x := ⟨_, List.getElem?_eq_getElem hj⟩
        rw [hx, Array.getElem?_toList]
        exact h10 j x hx
      · rw [List.getElem?_eq_none (by omega)]
    conv => lhs; rw [← List.take_append_drop us.length arr.toList, this]
  have ha' : arr'.toList = (us.take (i * sz + off) ++ vs ++ us.drop (i * sz + off + vs.length)) ++ tl := by
    rw [k4, htl, List.take_append_of_le_length (by omega), List.drop_append_of_le_length (by omega), List.append_assoc, List.append_assoc, List.append_assoc]
  have hpre : ∀ (j : Nat) (x : Value), (us.take (i * sz + off) ++ vs ++ us.drop (i * sz + off + vs.length))[j]? = some x → arr'[j]? = some x := fun j x hx => by
    rw [← Array.getElem?_toList, ha', List.getElem?_append_left (List.getElem?_eq_some_iff.1 hx).1]
    exact hx
  have hcells : ∀ b' o, S b' o → w'.cell? ⟨b', o, none⟩ = w.cell? ⟨b', o, none⟩ := k2.cells h.sin fun b' o hs e => hns o (e ▸ hs)
  have hflat : All2 (RepD w S) (us.take (i * sz + off) ++ vs ++ us.drop (i * sz + off + vs.length)) (xs.set i ((xs.getD i []).take off ++ ls ++ (xs.getD i []).drop (off + ls.length))).flatten := by
    rw [flatten_set sz h1 hi ho, hvl]
    exact ((h8.take _).app hv).app (h8.drop _)
  have hone' : ∀ x ∈ us.take (i * sz + off) ++ vs ++ us.drop (i * sz + off + vs.length), x.oneCell' = true := fun x hx => by
    rcases List.mem_append.1 hx with hx | hx
    · rcases List.mem_append.1 hx with hx | hx
      · exact h9 x (List.mem_of_mem_take hx)
      · exact hone x hx
    · exact h9 x (List.mem_of_mem_drop hx)
  have hrl : (xs.getD i []).length = sz := by
    rw [List.getD_eq_getElem?_getD, List.getElem?_eq_getElem hi]
    exact h1 _ (List.getElem_mem hi)
  have hxy : ∀ x ∈ xs.set i ((xs.getD i []).take off ++ ls ++ (xs.getD i []).drop (off + ls.length)), x.length = sz := fun x hx => by
    rcases List.mem_or_eq_of_mem_set hx with hx | rfl
    · exact h1 x hx
    · simp only [List.length_append, List.length_take, List.length_drop]; omega
  refine ⟨h0, hxy, _, hm, .inr ⟨b, arr', _, rfl, k3, by rw [List.length_set]; exact h5, h6, ?_, hflat.imp fun _ _ _ hr => hr.keep (fun _ _ hs => hs) hcells, hone', hpre, fun o hs => absurd hs (hns o), fun hl => by cases hl⟩⟩
  have e1 : arr'.toList.length = arr.toList.length := by
    rw [ha', htl]
    simp only [List.length_append, List.length_take, List.length_drop]
    omega
  simpa [← h7] using e1

def elemPut (r ls : List D) (off size sz : Nat) : List D := if off = 0 ∧ size = sz then ls else r.take off ++ ls ++ r.drop (off + size)
def focPut (ps qs : List PV) (off size : Nat) : List PV := if off = 0 ∧ size = ps.length then qs else ps.take off ++ qs ++ ps.drop (off + size)
theorem focStore_ok (h : Sim B m S σ a w) {k e sz i off b : Nat} {cc : Nat} {xs : List (List D)} {pr : Nat → Bool} {cs : List (Nat × Nat)} {ps qs : List PV} {vs : List Value} (hk : look k σ.mem = some (.nest e sz xs pr cs (some (i, ps)))) (hm : m k = some ⟨some b, cc⟩) (ho : off + qs.length ≤ ps.length)
    (hv : All2 (Rep1 m w S) vs qs) (hone : ∀ v ∈ vs, v.oneCell' = true) :
    ∃ w', (storeCells ⟨b, i * sz + off, none⟩ vs 0).run P w = .ok () w' ∧ Sim B m S { σ with mem := (k, .nest e sz xs pr cs (some (i, ps.take off ++ qs ++ ps.drop (off + qs.length)))) :: σ.mem } a w' := by
  obtain ⟨h0, h1, lc, h2, h3⟩ := h.objs _ _ hk
  rw [hm] at h2; cases h2
  rcases h3 with ⟨h3, _⟩ | ⟨b', arr, us, e1, h4, h5, h6, h7, h8, h9, h10, h11, h12, h13, h14, h15⟩
  · cases h3
  cases e1
  have hvl := hv.len
  obtain ⟨hpl, hi⟩ := h15 ps i focAt_self
  have hmul : i * sz + sz ≤ xs.length * sz := by
    have := Nat.mul_le_mul_right sz (show i + 1 ≤ xs.length by omega)
    rw [Nat.add_mul] at this; omega
  have hfit : i * sz + off + 0 + vs.length ≤ arr.size := by
    have h5 : xs.length ≤ cc := h5
    have h7 : arr.size = cc * sz := h7
    have := Nat.mul_le_mul_right sz h5
    omega
  obtain ⟨w', arr', k1, k2, k3, k4⟩ := run_storeCells (P := P) b e vs (i * sz + off) 0 arr w h4 hfit hone
  rw [Nat.add_zero] at k4
  refine ⟨w', k1, h.write hk (.inr rfl) hm h11 k2 ?_⟩
  have hcells : ∀ b' o, S b' o → w'.cell? ⟨b', o, none⟩ = w.cell? ⟨b', o, none⟩ := k2.cells h.sin fun b' o hs e => h11 o (e ▸ hs)
  have hget : ∀ q, (us.take (i * sz + off) ++ vs ++ us.drop (i * sz + off + vs.length))[q]? = if q < i * sz + off then us[q]? else if q < i * sz + off + vs.length then vs[q - (i * sz + off)]? else us[q]? := fun q => by
    have e1 : (us.take (i * sz + off)).length = i * sz + off := by rw [List.length_take]; omega
    rw [List.append_assoc, List.getElem?_append, e1]
    split
    · rename_i hq; rw [List.getElem?_take, if_pos hq]
    · rename_i hq
      rw [List.getElem?_append]
      by_cases hq2 : q - (i * sz + off) < vs.length
      · rw [if_pos hq2, if_pos (by omega)]
      · rw [if_neg hq2, if_neg (by omega), List.getElem?_drop]
        congr 1
        omega
  have hgetA : ∀ q : Nat, arr'[q]? = if q < i * sz + off then arr[q]? else if q < i * sz + off + vs.length then vs[q - (i * sz + off)]? else arr[q]? := fun q => by
    rw [← Array.getElem?_toList, k4]
    have e1 : (arr.toList.take (i * sz + off)).length = i * sz + off := by rw [List.length_take, Array.length_toList]; omega
    rw [List.append_assoc, List.getElem?_append, e1]
    split
    · rename_i hq; rw [List.getElem?_take, if_pos hq, Array.getElem?_toList]
    · rename_i hq
      rw [List.getElem?_append]
      by_cases hq2 : q - (i * sz + off) < vs.length
      · rw [if_pos hq2, if_pos (by omega)]
      · rw [if_neg hq2, if_neg (by omega), List.getElem?_drop, Array.getElem?_toList]
        congr 1
        omega
  have hlen' : (us.take (i * sz + off) ++ vs ++ us.drop (i * sz + off + vs.length)).length = xs.length * sz := by
    simp only [List.length_append, List.length_take, List.length_drop]; omega
  have kp : ∀ {v : Value} {p : PV}, Rep1 m w S v p → Rep1 m w' S v p := fun hr => Rep1.keep (fun _ _ hs => hs) hcells (fun _ _ _ hl => hl) hr
  have hblk : ∀ i c b', m.sub k i c = some b' → w'.heap[b']? = w.heap[b']? ∧ ∀ o, S b' o → S b' o := fun i2 c2 b' hb' => ⟨k2.block b' (h.toMemOk.ltH (.inr ⟨i2, c2, hb'⟩)) (h13 i2 c2 b' hb').1, fun _ hs => hs⟩
  refine ⟨h0, h1, _, hm, .inr ⟨b, arr', _, rfl, k3, h5, h6, ?_, hlen', fun x hx => ?_, fun q v hq => ?_, h11, fun i2 x hx c p u hp hu => ?_, fun i2 c b' hb' => ?_, h14, fun ps2 i2 hi2 => ?_⟩⟩
  · have e1 : arr'.toList.length = arr.toList.length := by
      rw [k4]
      simp only [List.length_append, List.length_take, List.length_drop, Array.length_toList]
      omega
    simpa [← h7] using e1
  · rcases List.mem_append.1 hx with hx | hx
    · rcases List.mem_append.1 hx with hx | hx
      · exact h9 x (List.mem_of_mem_take hx)
      · exact hone x hx
    · exact h9 x (List.mem_of_mem_drop hx)
  · rw [hget] at hq
    rw [hgetA]
    split
    · rename_i hq1; rw [if_pos hq1] at hq; exact h10 _ _ hq
    · rename_i hq1
      rw [if_neg hq1] at hq
      split
      · rename_i hq2; rw [if_pos hq2] at hq; exact hq
      · rename_i hq2; rw [if_neg hq2] at hq; exact h10 _ _ hq
  · have hxl := h1 x (List.mem_of_getElem? hx)
    have hc : c < sz := by rw [← hxl]; exact (List.getElem?_eq_some_iff.1 hp).1
    have hi2 : i2 < xs.length := (List.getElem?_eq_some_iff.1 hx).1
    rw [hget] at hu
    unfold NCell
    by_cases hii : i2 = i
    · subst hii
      rw [focAt_self]
      have hpc : ∀ q : Nat, (ps.take off ++ qs ++ ps.drop (off + qs.length))[q]? = if q < off then ps[q]? else if q < off + qs.length then qs[q - off]? else ps[q]? := fun q => by
        have e1 : (ps.take off).length = off := by rw [List.length_take]; omega
        rw [List.append_assoc, List.getElem?_append, e1]
        split
        · rename_i hq; rw [List.getElem?_take, if_pos hq]
        · rename_i hq
          rw [List.getElem?_append]
          by_cases hq2 : q - off < qs.length
          · rw [if_pos hq2, if_pos (by omega)]
          · rw [if_neg hq2, if_neg (by omega), List.getElem?_drop]
            congr 1
            omega
      have old : us[i2 * sz + c]? = some u → ∃ q, ps[c]? = some q ∧ Rep1 m w' S u q := fun hu => by
        have hn := h12 i2 x hx c p u hp hu
        unfold NCell at hn
        rw [focAt_self] at hn
        obtain ⟨q, e1, e2⟩ := hn
        exact ⟨q, e1, kp e2⟩
      show ∃ q, (ps.take off ++ qs ++ ps.drop (off + qs.length))[c]? = some q ∧ _
      rw [hpc]
      by_cases hc1 : c < off
      · rw [if_pos (by omega)] at hu
        rw [if_pos hc1]
        exact old hu
      · rw [if_neg (by omega)] at hu
        rw [if_neg hc1]
        by_cases hc2 : c < off + qs.length
        · rw [if_pos (by omega), show i2 * sz + c - (i2 * sz + off) = c - off from by omega] at hu
          rw [if_pos hc2]
          obtain ⟨q, hq⟩ : ∃ q, qs[c - off]? = some q := ⟨_, List.getElem?_eq_getElem (by omega)⟩
          obtain ⟨u', hu', hr⟩ := hv.get hq
          rw [hu] at hu'; cases hu'
          exact ⟨q, hq, kp hr⟩
        · rw [if_neg (by omega)] at hu
          rw [if_neg hc2]
          exact old hu
    · rw [focAt_ne hii]
      have hu' : us[i2 * sz + c]? = some u := by
        rcases Nat.lt_or_gt_of_ne hii with hlt | hgt
        · have := Nat.mul_le_mul_right sz (show i2 + 1 ≤ i by omega)
          rw [Nat.add_mul] at this
          rw [if_pos (by omega)] at hu
          exact hu
        · have := Nat.mul_le_mul_right sz (show i + 1 ≤ i2 by omega)
          rw [Nat.add_mul] at this
          rw [if_neg (by omega), if_neg (by omega)] at hu
          exact hu
      have hn := h12 i2 x hx c p u hp hu'
      unfold NCell at hn
      rw [focAt_ne hii] at hn
      dsimp only at hn ⊢
      split at hn
      · split at hn
        · rename_i hpr
          rw [if_pos hpr]
          exact hn.keep (fun _ _ hs => hs) hcells rfl (hblk i2 c)
        · rename_i hpr
          rw [if_neg hpr]
          exact RepD.keep (fun _ _ hs => hs) hcells hn
      · exact RepD.keep (fun _ _ hs => hs) hcells hn
  · obtain ⟨g1, g2, g3, g4, g5, g6⟩ := h13 i2 c b' hb'
    refine ⟨g1, g2, g3, g4, g5, ?_⟩
    by_cases hii : i2 = i
    · subst hii; rw [focAt_self] at g6; cases g6
    · exact focAt_ne hii
  · by_cases hii : i2 = i
    · subst hii
      rw [focAt_self] at hi2; cases hi2
      refine ⟨?_, hi⟩
      simp only [List.length_append, List.length_take, List.length_drop]; omega
    · rw [focAt_ne hii] at hi2; cases hi2
def vStoreR (tb : Tab) (σ : Sta) (t : Nat) (x p : PV) : Option (Prop × Mem) :=
  match x with
  | .rp k sz i off => match look k σ.mem with
    | some (.row e sz' xs l) => match look t tb, datas p.cells with
      | some ti, some ls => if p.plain && decide (ls.length = ti.size) && decide (sz' = sz) then
          some (l = false ∧ i < xs.length ∧ off + ti.size ≤ sz, (k, .row e sz (xs.set i (elemPut (xs.getD i []) ls off ti.size sz)) false) :: σ.mem) else none
      | _, _ => none
    | some (.nest e sz' xs pr cs (some (j, ps))) => match look t tb with
      | some ti => if p.plain && p.cells.all PV.one && decide (p.cells.length = ti.size) && decide (sz' = sz) && decide (i = j) then
          some (off + ti.size ≤ ps.length, (k, .nest e sz' xs pr cs (some (j, focPut ps p.cells off ti.size))) :: σ.mem) else none
      | _ => none
    | _ => none
  | x => vStore tb σ t x p
theorem vStoreR_ok (hT : TabOk P tb) (h : Sim B m S σ a w) {t : Nat} {x p : PV} {c : Prop} {mem' : Mem} (hv : vStoreR tb σ t x p = some (c, mem')) (hc : c) {u v : Value} (hu : Rep m w S u x) (hw : Rep m w S v p) :
    ∃ w', (Instr.storeAt t u v).run P w = .ok () w' ∧ Sim B m S { σ with mem := mem' } a w' := by
  unfold vStoreR at hv
  split at hv
  · rename_i k sz i off
    split at hv
    · rename_i e sz' xs l h2
      split at hv
      · rename_i ti ls h1 h3
        split at hv
        · rename_i hp
          simp only [Bool.and_eq_true, decide_eq_true_eq] at hp
          obtain ⟨⟨p1, p2⟩, rfl⟩ := hp
          cases hv
          obtain ⟨rfl, c2, c3⟩ := hc
          obtain ⟨b, cc, hm, rfl⟩ := hu
          have hcl := cells_plain hw p1
          obtain ⟨g1, g2⟩ := datas_ok h3 hcl
          have e1 : v.cells.size = ti.size := by rw [← p2, ← g1.len]; simp
          obtain ⟨w', k1, k2⟩ := rowStore_ok (P := P) h h2 hm c2 (by rw [p2]; exact c3) g1 g2
          refine ⟨w', ?_, ?_⟩
          · simp only [Instr.storeAt, Instr.sureAddr, Sem.run_bind, Sem.run_pure, Result.andThen_ok, storeVar, (hT.get h1).sizeOf, e1, ne_eq, not_true, if_false, k1]
          · have e2 : elemPut (xs.getD i []) ls off ti.size sz' = (xs.getD i []).take off ++ ls ++ (xs.getD i []).drop (off + ls.length) := by
              unfold elemPut
              split
              · rename_i hz
                obtain ⟨rfl, hz⟩ := hz
                have hrl : (xs.getD i []).length = sz' := by
                  rw [List.getD_eq_getElem?_getD, List.getElem?_eq_getElem c2]
                  exact (h.objs _ _ h2).2.1 _ (List.getElem_mem c2)
                rw [List.take_zero, List.nil_append, List.drop_of_length_le (by omega), List.append_nil]
              · rw [p2]
            rw [e2]
            exact k2
        · cases hv
      · cases hv
    · rename_i e sz' xs pr cs j ps h2
      split at hv
      · rename_i ti h1
        split at hv
        · rename_i hp
          simp only [Bool.and_eq_true, decide_eq_true_eq] at hp
          obtain ⟨⟨⟨⟨p1, p2⟩, p3⟩, rfl⟩, rfl⟩ := hp
          cases hv
          obtain ⟨b, cc, hm, rfl⟩ := hu
          have hcl := cells_plain hw p1
          have e1 : v.cells.size = ti.size := by rw [← p3, ← hcl.len]; simp
          obtain ⟨w', k1, k2⟩ := focStore_ok (P := P) h h2 hm (off := off) (by rw [p3]; exact hc) hcl (one_all hcl p2)
          refine ⟨w', ?_, ?_⟩
          · simp only [Instr.storeAt, Instr.sureAddr, Sem.run_bind, Sem.run_pure, Result.andThen_ok, storeVar, (hT.get h1).sizeOf, e1, ne_eq, not_true, if_false, k1]
          · have e2 : focPut ps p.cells off ti.size = ps.take off ++ p.cells ++ ps.drop (off + p.cells.length) := by
              unfold focPut
              split
              · rename_i hz
                obtain ⟨rfl, hz⟩ := hz
                rw [List.take_zero, List.nil_append, List.drop_of_length_le (by omega), List.append_nil]
              · rw [p3]
            rw [e2]
            exact k2
        · cases hv
      · cases hv
    · cases hv
  · exact vStore_ok hT h hv hc hu hw

theorem makeSlice_ok (hT : TabOk P tb) (h : Sim B m S σ a w) {t d e : Nat} {ti ei : TI} {kl kc : IntKind} {l c : Int} (h1 : look t tb = some ti) (hd : ti.desc = .slice e) (he : look e tb = some ei) (hsz : ei.zero.length = ei.size) (h0 : 0 < ei.size) (hone : ei.zero.all Value.oneCell' = true)
    (hl : 0 ≤ l) (hlc : l ≤ c) (hb : (ei.bytes : Int) * c ≤ 281474976710656) (hcm : c ≤ 4294967296) (hdd : d < 1000000) (hk : look d σ.mem = none) :
    ∃ r w' m', (Instr.makeSlice t (.int kl l) (.int kc c)).run P w = .ok r w' ∧ Sim B m' S { σ with mem := (d, .row e ei.size (List.replicate l.toNat (ei.zero.map .v)) false) :: σ.mem } a w' ∧ Rep m' w' S r (.rw d l.toNat) := by
  have hu := (hT.get h1).under
  rw [hd] at hu
  obtain ⟨j, z, i1, i2, i3, i4, i5⟩ := (hT.get he).info
  have hzs : z.cells.size = ei.size := by rw [i5]; simpa using hsz
  have hrow : ∀ x ∈ List.replicate l.toNat (ei.zero.map D.v), x.length = ei.size := fun x hx => by rw [(List.mem_replicate.1 hx).2]; simpa using hsz
  have hfl : (List.replicate l.toNat (ei.zero.map D.v)).flatten.length = l.toNat * ei.size := by rw [flatten_len ei.size _ hrow, List.length_replicate]
  have hrun := run_make (P := P) w t e j z hu i1 i4 kl kc l c hl hlc (by rw [i3]; exact hb) (by omega)
  have hlc' : l.toNat ≤ c.toNat := by omega
  have hmm := Nat.mul_le_mul_right ei.size hlc'
  have get : ∀ (q : Nat) (y : D), (List.replicate l.toNat (ei.zero.map D.v)).flatten[q]? = some y → ∃ v, z.cells[q % ei.size]? = some v ∧ y = .v v := fun q y hy => by
    have hq : q < l.toNat * ei.size := by have := (List.getElem?_eq_some_iff.1 hy).1; omega
    obtain ⟨x', p', e1, e2, e3, _, _⟩ := flatten_at ei.size hrow (q := q) (by rw [List.length_replicate]; exact hq)
    rw [e3] at hy; cases hy
    have e4 : x' = ei.zero.map D.v := (List.mem_replicate.1 (List.mem_of_getElem? e1)).2
    subst e4
    rw [List.getElem?_map] at e2
    obtain ⟨zv, e5, rfl⟩ := Option.map_eq_some_iff.1 e2
    exact ⟨zv, by rw [i5]; simpa using e5, rfl⟩
  have mk : ∀ q : Nat, q < c.toNat * ei.size → ∀ v, z.cells[q % ei.size]? = some v → (madeCells z.cells (c.toNat * ei.size))[q]? = some v := fun q hq v hv => by
    have hlt : q % z.cells.size < z.cells.size := Nat.mod_lt _ (by omega)
    rw [← hzs, Array.getElem?_eq_getElem hlt] at hv
    simp only [madeCells, Array.getElem?_map, hzs]
    rw [Array.getElem?_range, if_pos hq]
    simp only [Option.map_some, ← hzs]
    rw [getElem!_pos z.cells _ hlt]
    exact hv
  obtain ⟨m', f1, f2⟩ := row_ok (e := e) (n := l.toNat) (cap := c.toNat) (arr := madeCells z.cells (c.toNat * ei.size)) (us := (madeCells z.cells (c.toNat * ei.size)).toList.take (l.toNat * ei.size)) h hdd hk h0 hrow (by simp) hlc' (by unfold maxLen; omega) (size_madeCells _ _)
    (All2.of_index (by rw [hfl, List.length_take, Array.length_toList, size_madeCells]; omega) fun q x y hx hy => by
      have hq : q < l.toNat * ei.size := by have := (List.getElem?_eq_some_iff.1 hy).1; omega
      obtain ⟨v, g1, rfl⟩ := get q y hy
      rw [List.getElem?_take, if_pos hq, Array.getElem?_toList, mk q (by omega) v g1] at hx
      cases hx
      exact .v _)
    (fun u hu => by
      obtain ⟨q, hq⟩ := List.getElem?_of_mem (List.mem_of_mem_take hu)
      rw [Array.getElem?_toList] at hq
      have hlt : q < c.toNat * ei.size := by have := (Array.getElem?_eq_some_iff.1 hq).1; rwa [size_madeCells] at this
      have hz : q % ei.size < z.cells.size := by rw [hzs]; exact Nat.mod_lt _ h0
      rw [mk q hlt _ (Array.getElem?_eq_getElem hz)] at hq
      cases hq
      exact List.all_eq_true.1 hone _ (by
        have := Array.getElem_mem hz
        have e : z.cells.toList = ei.zero := by rw [i5]
        rw [← e]
        exact Array.mem_def.1 this))
    (fun q v hq => by
      rw [List.getElem?_take] at hq
      split at hq
      · rwa [Array.getElem?_toList] at hq
      · cases hq)
  exact ⟨_, _, m', by rw [hrun, i2], f1, f2⟩
def vMake (tb : Tab) (t : Nat) (l c : PV) : Option (Prop × MObj × Nat) := match l, c, look t tb with
  | .d (.v (.int _ n)), .d (.v (.int _ k)), some ti => match ti.desc with
    | .slice e => match look e tb with
      | some ei => some (ei.zero.length = ei.size ∧ 0 < ei.size ∧ ei.zero.all Value.oneCell' = true ∧ 0 ≤ n ∧ n ≤ k ∧ (ei.bytes : Int) * k ≤ 281474976710656 ∧ k ≤ 4294967296, .row e ei.size (List.replicate n.toNat (ei.zero.map .v)) false, n.toNat)
      | none => none
    | _ => none
  | _, _, _ => none
theorem vMake_ok (hT : TabOk P tb) (h : Sim B m S σ a w) {t d : Nat} {l c : PV} {cd : Prop} {ob : MObj} {n : Nat} (hv : vMake tb t l c = some (cd, ob, n)) (hc : cd) {u v : Value} (hu : Rep m w S u l) (hw : Rep m w S v c) (hdd : d < 1000000) (hk : look d σ.mem = none) :
    ∃ r w' m', (Instr.makeSlice t u v).run P w = .ok r w' ∧ Sim B m' S { σ with mem := (d, ob) :: σ.mem } a w' ∧ Rep m' w' S r (.rw d n) := by
  unfold vMake at hv
  split at hv
  · rename_i k1 x k2 y ti h3
    have hu : RepD w S u (.v (.int k1 x)) := hu
    have hw : RepD w S v (.v (.int k2 y)) := hw
    cases hu; cases hw
    split at hv
    · rename_i e hd
      split at hv
      · rename_i ei he
        cases hv
        obtain ⟨c1, c2, c3, c4, c5, c6, c7⟩ := hc
        exact makeSlice_ok (P := P) (kl := k1) (kc := k2) hT h h3 hd he c1 c2 c3 c4 c5 c6 c7 hdd hk
      · cases hv
    · cases hv
  · cases hv
end
end Go.Proofs.YtplooifpgmlofaaGreat
