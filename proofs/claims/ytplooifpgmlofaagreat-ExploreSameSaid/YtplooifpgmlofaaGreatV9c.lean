/- clear. No condition. IN THE MAKING: V10 shall import it instead of V9. -/
import Derived.Test.YtplooifpgmlofaaGreatV9
namespace Go.Proofs.YtplooifpgmlofaaGreat
open Go.RowKit
section
variable {P : Program} {tb : Tab} {B : Base} {m m' : Map} {S S' : Cells} {σ : Sta} {a : Act} {w w' : World}
theorem clear_ok (hT : TabOk P tb) (h : Sim B m S σ a w) {t e sz k off n ty fl : Nat} {ti ei : TI} {xs : List (List D)} {u : Value} (ht : look t tb = some ti) (hd : ti.desc = .slice e) (he : look e tb = some ei) (hsz : ei.zero.length = sz) (hz1 : ei.zero.all Value.oneCell' = true)
    (hk : look k σ.mem = some (.row e sz xs false)) (hu : Rep m w S u (.rs k sz off n fl)) (hlen : off + n ≤ xs.length) :
    ∃ w', (Builtin.clear_ #[t] ty #[u]).run P w = .ok (.tuple #[]) w' ∧ Sim B m S { σ with mem := (k, .row e sz (xs.take off ++ List.replicate n (ei.zero.map .v) ++ xs.drop (off + n)) false) :: σ.mem } a w' := by
  have hund := (hT.get ht).under
  rw [hd] at hund
  obtain ⟨z, hzr, hzc⟩ := (hT.get he).zeroValue w
  obtain ⟨h0, h1, lc, h2, h3⟩ := h.objs _ _ hk
  obtain ⟨lc', g1, g2⟩ := hu
  rw [h2] at g1; cases g1
  have same : n = 0 → Sim B m S { σ with mem := (k, .row e sz (xs.take off ++ List.replicate n (ei.zero.map .v) ++ xs.drop (off + n)) false) :: σ.mem } a w := fun hn => by
    subst hn
    simp only [List.replicate_zero, List.append_nil, Nat.add_zero, List.take_append_drop]
    exact h.same hk
  rcases g2 with ⟨_, rfl, hn, _⟩ | ⟨b, ad, cp, gb, rfl, gc, gd, ge, _⟩
  · exact ⟨w, by simp [Builtin.clear_, run_underlying hund], same hn⟩
  rcases Nat.eq_zero_or_pos n with hn | hpos
  · refine ⟨w, ?_, same hn⟩
    subst hn
    simp [Builtin.clear_, run_underlying hund]
  rcases h3 with ⟨h3, _⟩ | ⟨b', arr, us, e1, h4, h5, h6, h7, h8, h9, h10, h11, h12⟩
  · rw [gb] at h3; cases h3
  rw [gb] at e1; cases e1
  rw [ge (by omega)]
  have hus : us.length = xs.length * sz := by rw [h8.len, flatten_len sz xs h1]
  have hzs : z.cells.size = sz := by rw [hzc]; simpa using hsz
  have hzl : (Builtin.zeroCells z.cells n).toList.length = n * sz := by simp [Builtin.zeroCells, hzs]
  have hfit : off * sz + 0 + (Builtin.zeroCells z.cells n).toList.length ≤ arr.size := by
    rw [hzl, h7, Nat.add_zero, ← Nat.add_mul]; exact Nat.mul_le_mul_right _ (by omega)
  have hone : ∀ u ∈ (Builtin.zeroCells z.cells n).toList, u.oneCell' = true := by
    intro u hu
    simp only [Builtin.zeroCells, Array.toList_map, List.mem_map] at hu
    obtain ⟨i, hi, rfl⟩ := hu
    have hlt : i % z.cells.size < z.cells.size := Nat.mod_lt _ (by omega)
    rw [getElem!_pos z.cells _ hlt]
    have hm : ∀ y ∈ z.cells, y.oneCell' = true := fun y hy => List.all_eq_true.1 hz1 y (by rw [hzc] at hy; simpa using hy)
    exact hm _ (Array.getElem_mem _)
  obtain ⟨w', arr', k1, k2, k3, k4⟩ := run_storeCells (P := P) b e (Builtin.zeroCells z.cells n).toList (off * sz) 0 arr w h4 hfit hone
  rw [hzl, Nat.add_zero] at k4
  have hmk : m k = some ⟨some b, lc.cap⟩ := by rw [h2]; cases lc; cases gb; rfl
  have hns : ∀ o, ¬ S b o := fun o hs => by have := (h11 o hs).1; cases this
  refine ⟨w', ?_, h.write hk (.inl rfl) hmk hns k2 ?_⟩
  · obtain ⟨q, rfl⟩ : ∃ q, n = q + 1 := ⟨n - 1, by omega⟩
    simp [Builtin.clear_, run_underlying hund, hzr, k1]
  have hzrep : All2 (RepD w S) (Builtin.zeroCells z.cells n).toList (List.replicate n (ei.zero.map D.v)).flatten := by
    have hr : ∀ x ∈ List.replicate n (ei.zero.map D.v), x.length = sz := fun x hx => by rw [(List.mem_replicate.1 hx).2]; simpa using hsz
    refine All2.of_index (by rw [hzl, flatten_len sz _ hr, List.length_replicate]) fun q x y hx hy => ?_
    have hq : q < n * sz := by have := (List.getElem?_eq_some_iff.1 hx).1; omega
    obtain ⟨x', p', e1, e2, e3, _, _⟩ := flatten_at sz hr (q := q) (by rw [List.length_replicate]; exact hq)
    rw [e3] at hy; cases hy
    have e4 : x' = ei.zero.map D.v := (List.mem_replicate.1 (List.mem_of_getElem? e1)).2
    subst e4
    rw [List.getElem?_map] at e2
    obtain ⟨zv, e5, rfl⟩ := Option.map_eq_some_iff.1 e2
    have hx2 : x = zv := by
      have hlt : q % sz < z.cells.size := by rw [hzs]; exact Nat.mod_lt _ h0
      have e6 : z.cells[q % sz]? = some zv := by rw [hzc]; simpa using e5
      have e7 : z.cells[q % sz]! = zv := by rw [getElem!_pos z.cells _ hlt]; rw [Array.getElem?_eq_getElem hlt] at e6; exact Option.some.inj e6
      simp only [Builtin.zeroCells, Array.toList_map, List.getElem?_map, hzs, Array.toList_range] at hx
      rw [List.getElem?_range hq] at hx
      simp only [Option.map_some, Option.some.injEq] at hx
      rw [← hx, e7]
    rw [hx2]
    exact .v zv
  generalize hZ : (Builtin.zeroCells z.cells n).toList = Z at *
  have hmul : off * sz + n * sz ≤ us.length := by rw [hus, ← Nat.add_mul]; exact Nat.mul_le_mul_right _ hlen
  obtain ⟨tl, htl⟩ : ∃ tl, arr.toList = us ++ tl := by
    refine ⟨arr.toList.drop us.length, ?_⟩
    have : arr.toList.take us.length = us := by
      apply List.ext_getElem?
      intro j
      rw [List.getElem?_take]
      split
      · rename_i hj
        obtain ⟨x, hx⟩ : ∃ x, us[j]? = some x := ⟨_, List.getElem?_eq_getElem hj⟩
        rw [hx, Array.getElem?_toList]
        exact h10 j x hx
      · rw [List.getElem?_eq_none (by omega)]
    conv => lhs; rw [← List.take_append_drop us.length arr.toList, this]
  have ha' : arr'.toList = (us.take (off * sz) ++ Z ++ us.drop (off * sz + n * sz)) ++ tl := by
    rw [k4, htl, List.take_append_of_le_length (by omega), List.drop_append_of_le_length (by omega), List.append_assoc, List.append_assoc, List.append_assoc]
  have hpre : ∀ (j : Nat) (x : Value), (us.take (off * sz) ++ Z ++ us.drop (off * sz + n * sz))[j]? = some x → arr'[j]? = some x := fun j x hx => by
    rw [← Array.getElem?_toList, ha', List.getElem?_append_left (List.getElem?_eq_some_iff.1 hx).1]
    exact hx
  have hcells : ∀ b' o, S b' o → w'.cell? ⟨b', o, none⟩ = w.cell? ⟨b', o, none⟩ := k2.cells h.sin fun b' o hs e => hns o (e ▸ hs)
  have hflat : All2 (RepD w S) (us.take (off * sz) ++ Z ++ us.drop (off * sz + n * sz)) (xs.take off ++ List.replicate n (ei.zero.map D.v) ++ xs.drop (off + n)).flatten := by
    rw [List.flatten_append, List.flatten_append, flatten_take sz xs h1 off (by omega), flatten_drop sz xs h1, ← Nat.add_mul]
    exact ((h8.take _).app hzrep).app (h8.drop _)
  have hone' : ∀ x ∈ us.take (off * sz) ++ Z ++ us.drop (off * sz + n * sz), x.oneCell' = true := fun x hx => by
    rcases List.mem_append.1 hx with hx | hx
    · rcases List.mem_append.1 hx with hx | hx
      · exact h9 x (List.mem_of_mem_take hx)
      · exact hone x hx
    · exact h9 x (List.mem_of_mem_drop hx)
  have hxy : ∀ x ∈ xs.take off ++ List.replicate n (ei.zero.map D.v) ++ xs.drop (off + n), x.length = sz := fun x hx => by
    rcases List.mem_append.1 hx with hx | hx
    · rcases List.mem_append.1 hx with hx | hx
      · exact h1 x (List.mem_of_mem_take hx)
      · rw [(List.mem_replicate.1 hx).2]; simpa using hsz
    · exact h1 x (List.mem_of_mem_drop hx)
  have hll : (xs.take off ++ List.replicate n (ei.zero.map D.v) ++ xs.drop (off + n)).length = xs.length := by simp; omega
  refine ⟨h0, hxy, _, h2, .inr ⟨b, arr', _, gb, k3, by rw [hll]; exact h5, h6, ?_, hflat.imp fun _ _ _ hr => hr.keep (fun _ _ hs => hs) hcells, hone', hpre, fun o hs => absurd hs (hns o), fun hl => by cases hl⟩⟩
  have e1 : arr'.toList.length = arr.toList.length := by
    rw [ha', htl]
    simp only [List.length_append, List.length_take, List.length_drop]
    omega
  simpa [← h7] using e1
end
end Go.Proofs.YtplooifpgmlofaaGreat
