/- append to a slice that is full, whosever it is: what comes lies elsewhere. No condition. -/
import Derived.Test.YtplooifpgmlofaaGreatV9d
namespace Go.Proofs.YtplooifpgmlofaaGreat
open Go.RowKit
section
variable {P : Program} {tb : Tab} {B : Base} {m m' : Map} {S S' : Cells} {σ : Sta} {a : Act} {w w' : World}
theorem flatE_at {sz : Nat} {xs : List (List D)} (h1 : ∀ x ∈ xs, x.length = sz) {i : Nat} {x : List D} (hx : xs[i]? = some x) {c : Nat} {p : D} (hp : x[c]? = some p) : xs.flatten[i * sz + c]? = some p := by
  have hi : i < xs.length := (List.getElem?_eq_some_iff.1 hx).1
  have hc : c < sz := by rw [← h1 x (List.mem_of_getElem? hx)]; exact (List.getElem?_eq_some_iff.1 hp).1
  have h := flatten_get sz xs h1 i hi
  rw [List.getD_eq_getElem?_getD, hx, Option.getD_some] at h
  rw [← h, List.getElem?_take, if_pos hc, List.getElem?_drop] at hp
  exact hp
theorem Sim.free (h : Sim B m S σ a w) (ob : Obj) (n : Nat) : Sim B m (fun b o => S b o ∨ (b = w.heap.size ∧ o < n)) σ a (w.drew.alloc ob) := by
  have hg : Grow (fun _ => False) w (w.drew.alloc ob) := (Grow.drewn _ w).step (Grow.alloc _ _ _) fun _ _ h => h
  have h1 := h.grown0 hg
  have hold : ∀ b o, (S b o ∨ (b = w.heap.size ∧ o < n)) → b < w.heap.size → S b o := fun b o hs hb => hs.elim id fun e => absurd e.1 (by omega)
  have hlt : ∀ {k b}, m.has k b → b < w.heap.size := fun hk => h.toMemOk.ltH hk
  exact { h1 with
    objs := fun k o ho => (h1.objs k o ho).keep (fun _ _ hs => .inl hs) (fun _ _ _ => rfl) (fun _ _ _ hl => hl) (fun _ hl => hl) rfl fun b hb => ⟨rfl, fun o hs => hold b o hs (hlt hb)⟩
    sold := fun b o hs => .inl (h.sold b o hs)
    snew := fun b o hs hb => h.snew b o (hold b o hs (Nat.lt_of_lt_of_le hb h.grow.size)) hb
    sin := fun b o hs => by
      rcases hs with hs | ⟨rfl, _⟩
      · exact h1.sin b o hs
      · simp
    marks := fun x hx => ⟨(h1.marks x hx).1, (h1.marks x hx).2.1, fun o hs => (h.marks x hx).2.2 o (hold _ o hs (Array.getElem?_eq_some_iff.1 (h.marks x hx).2.1).1)⟩
    slots := fun i p hp => let ⟨v, e1, e2⟩ := h1.slots i p hp; ⟨v, e1, e2.keep (fun _ _ hs => .inl hs) (fun _ _ _ => rfl) fun _ _ _ hl => hl⟩ }
theorem append_fd_ok (hT : TabOk P tb) (h : Sim B m S σ a w) {t e ty sz : Nat} {ti ei : TI} {xs ys : List (List D)} {c : Prop} {u v : Value} {p : PV} (ht : look t tb = some ti) (hd : ti.desc = .slice e) (he : look e tb = some ei) (hsz : ei.size = sz) (hz : ei.zero.length = sz) (hby : ei.bytes ≤ 4096) (h0 : 0 < sz)
    (hu : Rep m w S u (.fd sz xs)) (hs : srcOf sz σ.mem p = some (c, ys)) (hc : c) (hv : Rep m w S v p) (hy : 0 < ys.length) (hlen : xs.length + ys.length < 4294967296) :
    ∃ r w' S', (Builtin.append_ #[t, t] ty #[u, v]).run P w = .ok r w' ∧ Sim B m S' σ a w' ∧ Rep m w' S' r (.d (.sl sz (xs ++ ys))) := by
  have hund := (hT.get ht).under
  rw [hd] at hund
  obtain ⟨inf, z, i1, i2, i3, i4, i5⟩ := (hT.get he).info
  have i2' : inf.size = sz := i2.trans hsz
  have hzc : z.cells.size = sz := by rw [i5]; simpa using hz
  obtain ⟨A, cp, rfl, hyl, hsrc⟩ := src_ok h hs hc hv
  obtain ⟨hu1, A0, n0, hu2⟩ := hu
  obtain ⟨A', cp', rfl, hxl, hold⟩ := src_ok (p := .d (.sl sz xs)) (c := True) (ys := xs) (sz := sz) h (by simp [srcOf]) trivial hu1
  cases hu2
  rcases hsrc with ⟨rfl, rfl⟩ | ⟨ad, news, rfl, n1, n2, n3⟩
  · simp at hy
  have hxy : ∀ x ∈ xs ++ ys, x.length = sz := fun x hx => by
    rcases List.mem_append.1 hx with h' | h'
    · exact hxl x h'
    · exact hyl x h'
  have hlen' : (xs ++ ys).length = xs.length + ys.length := List.length_append
  have hnl : news.length = ys.length * sz := by rw [n1.len, flatten_len sz ys hyl]
  have h63 : xs.length + ys.length ≤ maxLen := by unfold maxLen; omega
  have hbytes : (xs.length + ys.length) * inf.bytes ≤ 140737488355328 := by
    have := Nat.mul_le_mul (show xs.length + ys.length ≤ 4294967296 by omega) (show inf.bytes ≤ 4096 by omega); omega
  have made : ∀ (us : List Value) (old : Nat), All2 (RepD w S) us xs.flatten → (∀ x ∈ us, x.oneCell' = true) → us.length = xs.length * sz → ∀ (r : Value), r = .slice (some ⟨w.heap.size, 0, none⟩) (xs.length + ys.length) (grownCap w (xs.length + ys.length) old e) →
      (Builtin.append_ #[t, t] ty #[.slice A0 xs.length xs.length, .slice (some ad) ys.length cp]).run P w = .ok r (w.drew.alloc (.cells (us.toArray ++ news.toArray ++ Builtin.zeroCells z.cells (grownCap w (xs.length + ys.length) old e - (xs.length + ys.length))) e)) →
      ∃ r w' S', (Builtin.append_ #[t, t] ty #[.slice A0 xs.length xs.length, .slice (some ad) ys.length cp]).run P w = .ok r w' ∧ Sim B m S' σ a w' ∧ Rep m w' S' r (.d (.sl sz (xs ++ ys))) := by
    intro us old a1 a2 a3 r hr hrun
    have hge := grownCap_ge w (xs.length + ys.length) old e
    have hcm := grownCap_le_maxLen w (xs.length + ys.length) old e h63
    generalize hcap : grownCap w (xs.length + ys.length) old e = cap at *
    generalize harr : us.toArray ++ news.toArray ++ Builtin.zeroCells z.cells (cap - (xs.length + ys.length)) = arr at *
    have hpre : ∀ (j : Nat) (x : Value), (us ++ news)[j]? = some x → arr[j]? = some x := fun j x hx => by
      rw [← harr]
      have hj := (List.getElem?_eq_some_iff.1 hx).1
      rw [← Array.getElem?_toList]
      simp only [Array.toList_append, List.append_assoc]
      rw [← List.append_assoc, List.getElem?_append_left hj]
      exact hx
    have hg : Grow (fun _ => False) w (w.drew.alloc (.cells arr e)) := (Grow.drewn _ w).step (Grow.alloc _ _ _) fun _ _ h => h
    have hcells := hg.cells h.sin fun _ _ _ h => h
    have hflat : All2 (RepD w S) (us ++ news) (xs ++ ys).flatten := by rw [List.flatten_append]; exact a1.app n1
    have hone : ∀ x ∈ us ++ news, x.oneCell' = true := fun x hx => by
      rcases List.mem_append.1 hx with h' | h'
      · exact a2 x h'
      · exact n2 x h'
    have hheap : (w.drew.alloc (.cells arr e)).heap[w.heap.size]? = some (.cells arr e (0, 0)) := heap_alloc_new w.drew _
    have hun : (us ++ news).length = (xs ++ ys).length * sz := by rw [List.length_append, a3, hnl, hlen', Nat.add_mul]
    have hgetu : ∀ i j, i < (xs ++ ys).length → j < sz → ∃ x, (us ++ news)[i * sz + j]? = some x := fun i j hi hj =>
      ⟨_, List.getElem?_eq_getElem (by rw [hun]; exact flat_lt hi hj)⟩
    refine ⟨r, _, fun b o => S b o ∨ (b = w.heap.size ∧ o < (xs ++ ys).length * sz), hrun, h.free _ _, ?_⟩
    rw [hr, ← hlen']
    refine RepD.sl (some ⟨w.heap.size, 0, none⟩) (xs ++ ys).length cap sz (xs ++ ys) (fun i j => ((us ++ news)[i * sz + j]?).getD undef) rfl (by rw [hlen']; exact hge) hcm (fun h => by cases h) h0 hxy (fun _ => ⟨w.heap.size, 0, rfl, fun i j hi hj => ⟨.inr ⟨rfl, by rw [Nat.zero_add]; exact flat_lt hi hj⟩, ?_⟩⟩) (fun i j hi hj => ?_) fun i x j p hx hp => ?_
    · obtain ⟨x, hx⟩ := hgetu i j hi hj
      rw [hx, Nat.zero_add]
      have := hpre _ x hx
      simp only [World.cell?, hheap]
      simpa using this
    · obtain ⟨x, hx⟩ := hgetu i j hi hj
      rw [hx]
      exact hone x (List.mem_of_getElem? hx)
    · obtain ⟨y, e1, e2⟩ := hflat.get (flatE_at hxy hx hp)
      rw [e1]
      exact RepD.keep (fun _ _ hs => .inl hs) hcells e2
  rcases hold with ⟨rfl, rfl⟩ | ⟨ad0, us, rfl, a1, a2, a3⟩
  · have hr := run_append_nil (P := P) w t ty e inf z hund i1 i4 ad ys.length cp news (by rw [hnl, i2']) n3 (by omega) (by omega) (by have := hbytes; simp only [List.length_nil, Nat.zero_add] at this; omega)
    refine made [] 0 trivial (fun _ h => by cases h) (by simp) _ rfl ?_
    simpa using hr
  · have hus : us.length = xs.length * sz := by rw [a1.len, flatten_len sz xs hxl]
    have hr := run_append_grow (P := P) w t ty e inf z hund i1 i4 ad0 xs.length xs.length us (by rw [hus, i2']) a3 ad ys.length cp news (by rw [hnl, i2']) n3 (by omega) (by omega) (growslice_fits (by omega) hbytes)
    exact made us xs.length a1 a2 hus _ rfl hr
end
end Go.Proofs.YtplooifpgmlofaaGreat
