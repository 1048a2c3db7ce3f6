/- append at the end of a part of an own row. No condition. -/
import Derived.Test.YtplooifpgmlofaaGreatV9c
namespace Go.Proofs.YtplooifpgmlofaaGreat
open Go.RowKit
section
variable {P : Program} {tb : Tab} {B : Base} {m m' : Map} {S S' : Cells} {σ : Sta} {a : Act} {w w' : World}

theorem run_append_at (w : World) (t ty e : TypeId) (i : TypeInfo) (ht : P.underlying t = some (.slice e)) (hi : P.info? e = some i)
    (g o sLen sCap : Nat) (cur : Array Value) (hg : w.heap[g]? = some (.cells cur e (0, 0)))
    (a : Addr) (m c : Nat) (news : List Value) (hl : news.length = m * i.size) (hnews : ∀ j u, news[j]? = some u → w.cell? (a.add j) = some u) (h1 : ∀ u ∈ news, u.oneCell' = true)
    (hroom : sLen + m ≤ sCap) (hfit : o + sLen * i.size + news.length ≤ cur.size) :
    (Builtin.append_ #[t, t] ty #[.slice (some ⟨g, o, none⟩) sLen sCap, .slice (some a) m c]).run P w =
      .ok (.slice (some ⟨g, o, none⟩) (sLen + m) sCap) (w.setRow g (cur.toList.take (o + sLen * i.size) ++ news ++ cur.toList.drop (o + sLen * i.size + news.length)).toArray) := by
  have hf := run_firstCells_some (P := P) w i.size m a m c news hl hnews
  have hst := run_storeCells_at P g (o + sLen * i.size) e news 0 cur w hg (by simpa using hfit) h1
  simp only [Nat.add_zero] at hst
  simp [Builtin.append_, run_underlying ht, sizeOf, typeInfo, hi, Builtin.lenOf, hroom, hf, Addr.add_lit, hst]
theorem append_room_ok (hT : TabOk P tb) (h : Sim B m S σ a w) {t e ty sz k off n : Nat} {ti ei : TI} {xs ys : List (List D)} {c : Prop} {u v : Value} {p : PV} (ht : look t tb = some ti) (hd : ti.desc = .slice e) (he : look e tb = some ei) (hsz : ei.size = sz)
    (hk : look k σ.mem = some (.row e sz xs false)) (hu : Rep m w S u (.rs k sz off n 2)) (hs : srcOf sz σ.mem p = some (c, ys)) (hc : c) (hv : Rep m w S v p) (hx : off + n = xs.length) (hy : ys.length = 1) :
    ∃ r w' m' S', (Builtin.append_ #[t, t] ty #[u, v]).run P w = .ok r w' ∧ Sim B m' S' { σ with mem := (k, .row e sz (xs ++ ys) false) :: σ.mem } a w' ∧ Rep m' w' S' r (.rs k sz off (n + ys.length) 0) := by
  have hund := (hT.get ht).under
  rw [hd] at hund
  obtain ⟨inf, z, i1, i2, i3, i4, i5⟩ := (hT.get he).info
  have i2' : inf.size = sz := i2.trans hsz
  obtain ⟨h0, h1, lc, h2, h3⟩ := h.objs _ _ hk
  obtain ⟨A, cp, rfl, hyl, hsrc⟩ := src_ok h hs hc hv
  obtain ⟨lc', g1, g2⟩ := hu
  rw [h2] at g1; cases g1
  rcases hsrc with ⟨rfl, rfl⟩ | ⟨ad, news, rfl, n1, n2, n3⟩
  · simp at hy
  have hnl : news.length = ys.length * sz := by rw [n1.len, flatten_len sz ys hyl]
  rcases g2 with ⟨_, _, _, g2⟩ | ⟨b, ad', cp', gb, rfl, ⟨gc, gc2⟩, gd, ge, _, gf⟩
  · exact absurd rfl g2
  have gf := gf rfl
  obtain rfl := ge (by omega)
  rcases h3 with ⟨h3, rfl⟩ | ⟨b', arr, us, e1, h4, h5, h6, h7, h8, h9, h10, h11, h12⟩
  · rw [gb] at h3; cases h3
  rw [gb] at e1; cases e1
  have hus : us.length = xs.length * sz := by rw [h8.len, flatten_len sz xs h1]
  have hmk : m k = some ⟨some b, lc.cap⟩ := by rw [h2]; cases lc; cases gb; rfl
  have hroom : xs.length + ys.length ≤ lc.cap := by omega
  have hpos : off * sz + n * sz = xs.length * sz := by rw [← Nat.add_mul, hx]
  have hfit : off * sz + n * inf.size + news.length ≤ arr.size := by rw [hnl, h7, i2', hpos, ← Nat.add_mul]; exact Nat.mul_le_mul_right _ hroom
  have hr := run_append_at (P := P) w t ty e inf hund i1 b (off * sz) n cp' arr h4 ad ys.length cp news (by rw [hnl, i2']) n3 n2 (by omega) hfit
  rw [i2', hpos] at hr hfit
  generalize harr : (arr.toList.take (xs.length * sz) ++ news ++ arr.toList.drop (xs.length * sz + news.length)).toArray = arr' at hr
  have hg : Grow (fun b => ∃ c, m k = some ⟨some b, c⟩) w (w.setRow b arr') := ⟨rfl, rfl, rfl, by simp [World.setRow], fun j _ hj => setRow_other w b j _ (fun e => hj ⟨_, e ▸ hmk⟩)⟩
  have hheap : (w.setRow b arr').heap[b]? = some (.cells arr' e (0, 0)) := setRow_heap w b arr arr' e (0, 0) h4
  have hns : ∀ o, ¬ S b o := fun o hs => by have := (h11 o hs).1; cases this
  have hpu : arr.toList.take (xs.length * sz) = us := by
    apply List.ext_getElem?
    intro j
    rw [List.getElem?_take]
    split
    · rename_i hj
      obtain ⟨x, hx⟩ : ∃ x, us[j]? = some x := ⟨_, List.getElem?_eq_getElem (by omega)⟩
      rw [hx, Array.getElem?_toList]
      exact h10 j x hx
    · rw [List.getElem?_eq_none (by omega)]
  have hpre : ∀ (j : Nat) (x : Value), (us ++ news)[j]? = some x → arr'[j]? = some x := fun j x hx => by
    rw [← harr, List.getElem?_toArray, hpu, List.getElem?_append_left (List.getElem?_eq_some_iff.1 hx).1]
    exact hx
  have hcells : ∀ b' o, S b' o → (w.setRow b arr').cell? ⟨b', o, none⟩ = w.cell? ⟨b', o, none⟩ := fun b' o hs => by
    by_cases hb : b' = b
    · subst hb; exact absurd hs (hns o)
    · exact cell_of_heap (hg.block b' (h.sin _ _ hs) fun ⟨c, hc⟩ => hb (by rw [hmk] at hc; cases hc; rfl)) o
  have hflat : All2 (RepD w S) (us ++ news) (xs ++ ys).flatten := by rw [List.flatten_append]; exact h8.app n1
  have hone : ∀ x ∈ us ++ news, x.oneCell' = true := fun x hx => by
    rcases List.mem_append.1 hx with h' | h'
    · exact h9 x h'
    · exact n2 x h'
  have hxy : ∀ x ∈ xs ++ ys, x.length = sz := fun x hx => by
    rcases List.mem_append.1 hx with h' | h'
    · exact h1 x h'
    · exact hyl x h'
  have hll : (xs ++ ys).length = xs.length + ys.length := List.length_append
  refine ⟨_, _, m, S, hr, h.write hk (.inl rfl) hmk hns ⟨rfl, rfl, rfl, by simp [World.setRow], fun j _ hj => setRow_other w b j _ (fun e => hj e)⟩ ?_, lc, h2, .inr ⟨b, _, _, gb, rfl, ⟨by omega, gc2⟩, gd, fun _ => rfl, nofun, nofun⟩⟩
  refine ⟨h0, hxy, _, h2, .inr ⟨b, arr', _, gb, hheap, by rw [hll]; exact hroom, h6, ?_, hflat.imp fun _ _ _ hr => hr.keep (fun _ _ hs => hs) hcells, hone, hpre, fun o hs => absurd hs (hns o), fun hl => by cases hl⟩⟩
  have e1 : arr.toList.length = lc.cap * sz := (Array.length_toList (xs := arr)).trans h7
  rw [← harr]
  simp only [List.size_toArray, List.length_append, List.length_take, List.length_drop]
  rw [h7] at hfit
  omega
theorem append_full_ok (hT : TabOk P tb) (h : Sim B m S σ a w) {t e ty sz k off n : Nat} {ti ei : TI} {xs ys : List (List D)} {c : Prop} {u v : Value} {p : PV} (ht : look t tb = some ti) (hd : ti.desc = .slice e) (he : look e tb = some ei) (hsz : ei.size = sz) (hz : ei.zero.length = sz) (hby : ei.bytes ≤ 4096)
    (hk : look k σ.mem = some (.row e sz xs false)) (hkk : k < 1000000) (hu : Rep m w S u (.rs k sz off n 1)) (hs : srcOf sz σ.mem p = some (c, ys)) (hc : c) (hv : Rep m w S v p) (hx : off + n = xs.length) (hy : ys.length = 1) (hlen : n + ys.length < 4294967296) :
    ∃ r w' m' S', (Builtin.append_ #[t, t] ty #[u, v]).run P w = .ok r w' ∧ Sim B m' S' { σ with slots := eraseS k σ.slots, mem := (k, .row e sz (xs.drop off ++ ys) false) :: eraseM k σ.mem } a w' ∧ Rep m' w' S' r (.rs k sz 0 (n + ys.length) 0) := by
  have hund := (hT.get ht).under
  rw [hd] at hund
  obtain ⟨inf, z, i1, i2, i3, i4, i5⟩ := (hT.get he).info
  have i2' : inf.size = sz := i2.trans hsz
  have hzc : z.cells.size = sz := by rw [i5]; simpa using hz
  obtain ⟨h0, h1, lc, h2, h3⟩ := h.objs _ _ hk
  obtain ⟨A, cp, rfl, hyl, hsrc⟩ := src_ok h hs hc hv
  have hdl : (xs.drop off).length = n := by rw [List.length_drop]; omega
  have hd1 : ∀ x ∈ xs.drop off, x.length = sz := fun x hx => h1 x (List.mem_of_mem_drop hx)
  have hxy : ∀ x ∈ xs.drop off ++ ys, x.length = sz := fun x hx => by
    rcases List.mem_append.1 hx with h' | h'
    · exact hd1 x h'
    · exact hyl x h'
  obtain ⟨lc', g1, g2⟩ := hu
  rw [h2] at g1; cases g1
  have hold : ∃ l, m k = some l := ⟨_, h2⟩
  have hlen' : (xs.drop off ++ ys).length = n + ys.length := by rw [List.length_append, hdl]
  rcases hsrc with ⟨rfl, rfl⟩ | ⟨ad, news, rfl, n1, n2, n3⟩
  · simp at hy
  have hnl : news.length = ys.length * sz := by rw [n1.len, flatten_len sz ys hyl]
  have h63 : n + ys.length ≤ maxLen := by unfold maxLen; omega
  have hbytes : (n + ys.length) * inf.bytes ≤ 140737488355328 := by
    have := Nat.mul_le_mul (show n + ys.length ≤ 4294967296 by omega) (show inf.bytes ≤ 4096 by omega); omega
  have hS0 : ∀ o, ¬ S w.heap.size o := fun o hs => absurd (h.sin _ o hs) (Nat.lt_irrefl _)
  have made : ∀ (us : List Value) (old : Nat), All2 (RepD w S) us (xs.drop off).flatten → (∀ x ∈ us, x.oneCell' = true) → us.length = n * sz → ∀ (r : Value), r = .slice (some ⟨w.heap.size, 0, none⟩) (n + ys.length) (grownCap w (n + ys.length) old e) →
      (Builtin.append_ #[t, t] ty #[u, .slice (some ad) ys.length cp]).run P w = .ok r (w.drew.alloc (.cells (us.toArray ++ news.toArray ++ Builtin.zeroCells z.cells (grownCap w (n + ys.length) old e - (n + ys.length))) e)) →
      ∃ r w' m' S', (Builtin.append_ #[t, t] ty #[u, .slice (some ad) ys.length cp]).run P w = .ok r w' ∧ Sim B m' S' { σ with slots := eraseS k σ.slots, mem := (k, .row e sz (xs.drop off ++ ys) false) :: eraseM k σ.mem } a w' ∧ Rep m' w' S' r (.rs k sz 0 (n + ys.length) 0) := by
    intro us old a1 a2 a3 r hr hrun
    have hge := grownCap_ge w (n + ys.length) old e
    have hcm := grownCap_le_maxLen w (n + ys.length) old e h63
    generalize hcap : grownCap w (n + ys.length) old e = cap at *
    generalize harr : us.toArray ++ news.toArray ++ Builtin.zeroCells z.cells (cap - (n + ys.length)) = arr at *
    have hsz' : arr.size = cap * sz := by
      rw [← harr]
      simp only [Array.size_append, List.size_toArray, size_zeroCells, hzc, a3, hnl, ← Nat.add_mul]
      congr 1
      omega
    have hpre : ∀ (j : Nat) (x : Value), (us ++ news)[j]? = some x → arr[j]? = some x := fun j x hx => by
      rw [← harr]
      have hj := (List.getElem?_eq_some_iff.1 hx).1
      rw [← Array.getElem?_toList]
      simp only [Array.toList_append, List.append_assoc]
      rw [← List.append_assoc, List.getElem?_append_left hj]
      exact hx
    have hg : Grow (fun _ => False) w (w.drew.alloc (.cells arr e)) := (Grow.drewn _ w).step (Grow.alloc _ _ _) fun _ _ h => h
    have hcells := hg.cells h.sin fun _ _ _ h => h
    have hflat : All2 (RepD w S) (us ++ news) (xs.drop off ++ ys).flatten := by rw [List.flatten_append]; exact a1.app n1
    have hone : ∀ x ∈ us ++ news, x.oneCell' = true := fun x hx => by
      rcases List.mem_append.1 hx with h' | h'
      · exact a2 x h'
      · exact n2 x h'
    have hheap : (w.drew.alloc (.cells arr e)).heap[w.heap.size]? = some (.cells arr e (0, 0)) := heap_alloc_new w.drew _
    refine ⟨r, _, upd m k ⟨some w.heap.size, cap⟩, S, hrun, h.redo (.inl hkk) hk rfl hold (hg.mono fun _ _ h => h.elim) (fun b hb => .inr (by cases hb; exact Nat.le_refl _)) (fun _ _ hs => hs) hcells (fun b o hs => .inl hs) (fun b o hs => ?_) ?_, _, upd_same .., .inr ⟨w.heap.size, _, _, rfl, hr, ⟨hge, Nat.le_refl _⟩, by simp, fun _ => by simp, nofun, nofun⟩⟩
    · have := h.sin _ _ hs; have := hg.size; omega
    · exact ⟨h0, hxy, _, upd_same .., .inr ⟨w.heap.size, arr, us ++ news, rfl, hheap, by rw [hlen']; exact hge, hcm, hsz', hflat.imp fun _ _ _ hr => hr.keep (fun _ _ hs => hs) hcells, hone, hpre, fun o hs => absurd hs (hS0 o), fun hl => by cases hl⟩⟩
  rcases g2 with ⟨h4, rfl, rfl, _⟩ | ⟨b, ad', cp', gb, rfl, ⟨gc, gc2⟩, gd, ge, gf, _⟩
  · have hr := run_append_nil (P := P) w t ty e inf z hund i1 i4 ad ys.length cp news (by rw [hnl, i2']) n3 (by omega) (by omega) (by have := hbytes; simp only [Nat.zero_add] at this; omega)
    have he0 : xs.drop off = [] := List.eq_nil_of_length_eq_zero hdl
    refine made [] 0 (by rw [he0]; exact trivial) (fun _ h => by cases h) (by simp) _ rfl ?_
    simpa using hr
  · obtain rfl := gf rfl
    rcases h3 with ⟨h3, rfl⟩ | ⟨b', arr, us, e1, h4, h5, h6, h7, h8, h9, h10, h11, h12⟩
    · rw [gb] at h3; cases h3
    rw [gb] at e1; cases e1
    have hus : us.length = xs.length * sz := by rw [h8.len, flatten_len sz xs h1]
    have hud : (us.drop (off * sz)).length = cp' * sz := by rw [List.length_drop, hus, ← hx, Nat.add_mul]; omega
    have holds : ∀ (j : Nat) (x : Value), (us.drop (off * sz))[j]? = some x → w.cell? (ad'.add j) = some x := fun j x hj => by
      have hjl := (List.getElem?_eq_some_iff.1 hj).1
      have hpos : 0 < cp' := by
        rcases Nat.eq_zero_or_pos cp' with h0 | h0
        · rw [hud, h0] at hjl; simp at hjl
        · exact h0
      rw [ge hpos, Addr.add_lit]
      rw [List.getElem?_drop] at hj
      simp only [World.cell?, h4]
      simpa using h10 _ x hj
    have hr := run_append_grow (P := P) w t ty e inf z hund i1 i4 ad' cp' cp' (us.drop (off * sz)) (by rw [hud, i2']) holds ad ys.length cp news (by rw [hnl, i2']) n3 (by omega) (by omega) (growslice_fits (by omega) hbytes)
    exact made (us.drop (off * sz)) cp' (by rw [flatten_drop sz xs h1]; exact h8.drop _) (fun x hx => h9 x (List.mem_of_mem_drop hx)) hud _ rfl hr
end
end Go.Proofs.YtplooifpgmlofaaGreat
