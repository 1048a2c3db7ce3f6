/- Locks: contracts (N2). No condition. -/
import Derived.Test.YtnkoibhjnahkiaaN1
import Derived.Shelf.Spec.SlicesInsertGrow
import Derived.StillTailTactics
namespace Go.Proofs.Ytnkoibhjnahkiaa
open Go.RowKit Go.Lib

theorem run_copy_rows {P : Program} (w : World) (dT sT ty elem : TypeId) (sz b o dLen dCap : Nat) (a : Addr) (sLen sCap : Nat) (cs : List Value)
    (hu : P.underlying dT = some (.slice elem)) (hs : (P.info? elem).map (·.size) = some sz) (hn : cs.length = Nat.min sLen dLen * sz)
    (hsrc : ∀ j v, cs[j]? = some v → w.cell? (a.add j) = some v) (hc : ∀ j, j < cs.length → (w.cell? ⟨b, o + j, none⟩).isSome = true) (hf : ∀ j, j < cs.length → w.frozen? ⟨b, o + j, none⟩ = false) (h1 : ∀ v ∈ cs, v.oneCell' = true) :
    (Builtin.copy_ #[dT, sT] ty #[.slice (some ⟨b, o, none⟩) dLen dCap, .slice (some a) sLen sCap]).run P w = .ok (goInt (Nat.min sLen dLen : Nat)) (w.setCells b o cs) := by
  have hl := run_loadCells_list (P := P) w a cs hsrc
  have hst := run_storeCells_cells (P := P) b o cs 0 w (by simpa using hc) (by simpa using hf) h1
  cases hq : P.info? elem with
  | none => simp [hq] at hs
  | some i =>
    have hi : i.size = sz := by simpa [hq] using hs
    simp [Builtin.copy_, run_underlying hu, Builtin.lenOf, Builtin.firstCells, sizeOf, typeInfo, hq, hi]
    rw [← hn, hl]
    simp only [Result.andThen_ok]
    rw [hst]
    rfl
theorem info_size {P : Program} {e : TypeId} {n : Nat} (h : (P.info? e).map (·.size) = some n) (w : World) : (Go.sizeOf e).run P w = .ok n w := by
  cases hq : P.info? e with
  | none => simp [hq] at h
  | some i =>
    have hi : i.size = n := by simpa [hq] using h
    simp [Go.sizeOf, typeInfo, hq, hi]
set_option maxHeartbeats 4000000 in
set_option maxRecDepth 100000 in
theorem insD_shift (b n c i vb vc : Nat) (cs vs : List Value) (w : World) (hi : i < n) (hroom : n + 1 ≤ c) (hc63 : c ≤ 9223372036854775807) (hvb : vb ≠ b)
    (hcl : cs.length = n) (hvl : vs.length = 1)
    (hcs : ∀ j v, cs[j]? = some v → w.cell? ⟨b, j, none⟩ = some v) (hsp : ∀ j, j < n + 1 → (w.cell? ⟨b, j, none⟩).isSome = true) (hfz : ∀ j, w.frozen? ⟨b, j, none⟩ = false)
    (hvs : ∀ j v, vs[j]? = some v → w.cell? ⟨vb, j, none⟩ = some v) (h1c : ∀ v ∈ cs, v.oneCell' = true) (h1v : ∀ v ∈ vs, v.oneCell' = true)
    (tA tB : TypeId) (kA kB : Nat) (hsa : w.shape? vb = some (tA, kA)) (hsb : w.shape? b = some (tB, kB)) (hkB : kB ≠ 0) (hfa : w.frozen? ⟨vb, 0, none⟩ = false) (hfe : w.frozen? ⟨vb, kA, none⟩ = false) :
    Calls Try.prog 68 #[.slice (some ⟨b, 0, none⟩) n c, .int .i64 i, .slice (some ⟨vb, 0, none⟩) 1 vc] w fun e w' =>
      e = .returned (.slice (some ⟨b, 0, none⟩) (n + 1) c) ∧ w' = (w.drew.setCells b (i + 1) (cs.drop (i))).setCells b (i) vs := by
  have hz2 : ¬ ((i : Int) = (n : Int)) := by omega
  have hsz : (Try.prog.info? 3).map (·.size) = some 1 := by kernel_rfl
  have hun : Try.prog.underlying 22 = some (.slice 3) := Try.underlying22
  have hov : ∀ lb cb, (callFunc 87 #[.slice (some ⟨vb, 0, none⟩) 1 vc, .slice (some ⟨b, i + 1, none⟩) lb cb]).run Try.prog w = .ok (.value (.bool false)) w := fun lb cb => by
    rw [run_callFunc_extern Try.func87 (by kernel_rfl) (by kernel_rfl) (by kernel_rfl) (e := Extern.SlicesOverlaps.overlaps #[22, 22] #[4]) (by kernel_rfl),
      Lib.run_overlaps_apart w 22 4 3 hun 1 (info_size hsz) ⟨vb, 0, none⟩ ⟨b, i + 1, none⟩ 1 vc lb cb hvb tA tB kA kB hsa hsb hkB hfa hfe]
    rfl
  have hdl : (cs.drop (i)).length = n - i := by rw [List.length_drop, hcl]
  have hcp1 : ∀ ty dc sc, (Builtin.copy_ #[22, 22] ty #[.slice (some ⟨b, i + 1, none⟩) (n - i) dc, .slice (some ⟨b, i, none⟩) (n + 1 - i) sc]).run Try.prog w.drew = .ok (goInt (Nat.min (n + 1 - i) (n - i) : Nat)) (w.drew.setCells b (i + 1) (cs.drop (i))) := fun ty dc sc =>
    run_copy_rows w.drew _ _ ty 3 1 b (i + 1) (n - i) dc ⟨b, i, none⟩ (n + 1 - i) sc (cs.drop (i)) hun hsz (by rw [hdl]; congr 1; simp only [Nat.min_def]; split <;> omega)
      (fun j v hj => by rw [Addr.add_lit]; exact hcs (i + j) v (by rwa [List.getElem?_drop] at hj))
      (fun j hj => hsp (i + 1 + j) (by rw [hdl] at hj; omega)) (fun j hj => hfz _) (fun v hv => h1c v (List.mem_of_mem_drop hv))
  obtain ⟨W1, hW1⟩ : ∃ W1, W1 = w.drew.setCells b (i + 1) (cs.drop (i)) := ⟨_, rfl⟩
  have hsp1 : ∀ k, k < n + 1 → (W1.cell? ⟨b, k, none⟩).isSome = true := fun k hk => by
    rw [hW1]
    exact isSome_setCells b _ _ w.drew (fun j hj => hsp (i + 1 + j) (by rw [hdl] at hj; omega)) _ (hsp k hk)
  have hcp2 : ∀ (W : World), (∀ x, W.cell? x = W1.cell? x) → (∀ x, W.frozen? x = W1.frozen? x) → ∀ ty dc, (Builtin.copy_ #[22, 22] ty #[.slice (some ⟨b, i, none⟩) (n + 1 - i) dc, .slice (some ⟨vb, 0, none⟩) 1 vc]).run Try.prog W = .ok (goInt (Nat.min 1 (n + 1 - i) : Nat)) (W.setCells b (i) vs) := fun W hWc hWf ty dc =>
    run_copy_rows W _ _ ty 3 1 b (i) (n + 1 - i) dc ⟨vb, 0, none⟩ 1 vc vs hun hsz (by rw [hvl]; simp only [Nat.min_def]; split <;> omega)
      (fun j v hj => by
        rw [Addr.add_lit, hWc, hW1, World.cell?_setCells_out b _ _ _ _ (fun h _ => absurd h hvb), Nat.zero_add]
        exact hvs j v hj)
      (fun j hj => by rw [hWc]; exact hsp1 _ (by omega)) (fun j hj => by rw [hWf, hW1, World.frozen?_setCells]; exact hfz _) h1v
  rw [← hW1] at hcp1
  have hw1 : IntKind.i64.wrap ((i : Int) + 1) = (i : Int) + 1 := by rw [IntKind.wrap_i64]; omega
  have hb1 : (0 : Int) ≤ (i : Int) + 1 := by omega
  have hin : i ≤ n := by omega
  have htn : ((i : Int) + 1).toNat = i + 1 := by omega
  have hb2 : ¬ (c = i + 1) := by omega
  have hb3 : (i : Int) ≤ (n : Int) + 1 := by omega
  have hb4 : ¬ (c = i) := by omega
  have mixed : Try.prog.follows .mixedOrders = true := mixed
  go_enter Try.func68, Try.ntmps68
  go_wp2_with (simp only [hov])
  go_region_law_o (refine step_copy_runI rfl _ _ 22 22 rfl _ _ (by simp [Act.eval, Act.put]) (by simp [Act.eval, Act.put]) (hcp1 _ _ _) ?_)
  go_wp2_with (at_builtin; refine wpList_copy_runI _ rfl _ _ 22 22 rfl _ _ rfl rfl (hcp2 _ (fun _ => rfl) (fun _ => rfl) _ _) ?_)
  go_ret
  first | exact ⟨rfl, rfl⟩ | exact ⟨rfl, by rw [hW1]⟩
set_option maxHeartbeats 4000000 in
set_option maxRecDepth 100000 in
theorem insD_grow (b n i vb vc : Nat) (cs vs : List Value) (w : World) (hi : i < n) (hbig : (n + 1) * 24 ≤ 140737488355328)
    (hcl : cs.length = n) (hvl : vs.length = 1)
    (hcs : ∀ j v, cs[j]? = some v → w.cell? ⟨b, j, none⟩ = some v)
    (hvs : ∀ j v, vs[j]? = some v → w.cell? ⟨vb, j, none⟩ = some v) (h1c : ∀ v ∈ cs, v.oneCell' = true) (h1v : ∀ v ∈ vs, v.oneCell' = true) :
    Calls Try.prog 68 #[.slice (some ⟨b, 0, none⟩) n n, .int .i64 i, .slice (some ⟨vb, 0, none⟩) 1 vc] w fun e w' => ∃ (G : Nat) (ROW : Array Value), n + 1 ≤ G ∧ G ≤ maxLen ∧ ROW.size = G ∧ (∀ j v, j < i → cs[j]? = some v → ROW[j]? = some v) ∧
      e = .returned (.slice (some ⟨w.heap.size, 0, none⟩) (n + 1) G) ∧
      w' = (((w.alloc (.cells ROW 3)).drew.setCells w.heap.size (i) vs).drew).setCells w.heap.size (i + 1) (cs.drop (i)) := by
  have hun : Try.prog.underlying 22 = some (.slice 3) := Try.underlying22
  obtain ⟨i0, hi0, hz0, hzs, hzb⟩ : ∃ i0, Try.prog.info? 3 = some i0 ∧ i0.zero = some (.int .i64 0) ∧ i0.size = 1 ∧ i0.bytes = 8 := ⟨_, rfl, by kernel_rfl, by kernel_rfl, by kernel_rfl⟩
  have hz2 : ¬ ((i : Int) = (n : Int)) := by omega
  have hz3 : (n : Int) < (n : Int) + 1 := by omega
  have hsz : (Try.prog.info? 3).map (·.size) = some 1 := by rw [hi0]; simp [hzs]
  have hbw : b < w.heap.size := block_lt_of_cell (hcs 0 _ (List.getElem?_eq_getElem (by omega)))
  have hvw : vb < w.heap.size := block_lt_of_cell (hvs 0 _ (List.getElem?_eq_getElem (by omega)))
  have hkk : (n : Int) + 1 - (i : Int) = ((n + 1 - i : Nat) : Int) := by omega
  have hik : i + (n + 1 - i) = n + 1 := by omega
  have hold : (Builtin.firstCells i0.size i (.slice (some ⟨b, 0, none⟩) i n)).run Try.prog w.drew = .ok (cs.take (i)).toArray w.drew := by
    rw [hzs]
    exact run_firstCells_some w.drew 1 i ⟨b, 0, none⟩ i n (cs.take (i)) (by rw [List.length_take]; omega) (fun j v hj => by
      rw [Addr.add_lit, Nat.zero_add]
      rw [List.getElem?_take] at hj
      split at hj
      · exact hcs j v hj
      · cases hj)
  have hrz : ∀ ty, (Builtin.append_ #[22, 3] ty #[.slice (some ⟨b, 0, none⟩) i n, .int .i64 ((n : Int) + 1 - (i : Int))]).run Try.prog w =
      .ok (.slice (some ⟨w.heap.size, 0, none⟩) (n + 1) (grownCap w (n + 1) n 3)) (w.drew.alloc (.cells ((cs.take (i)).toArray ++ Builtin.zeroCells (Value.int .i64 0).cells (n + 1 - i) ++ Builtin.zeroCells (Value.int .i64 0).cells (grownCap w (n + 1) n 3 - (n + 1))) 3)) := fun ty => by
    have h := Lib.run_append_grow_zeros w 22 3 ty 3 i0 _ .i64 .i64 hun Try.underlying3 hi0 hz0 (some ⟨b, 0, none⟩) i n (cs.take (i)) hold (n + 1 - i) (by omega) (by omega) (by omega) (by omega) (by rw [hzb]; omega) (by rw [hzb, hik]; exact growslice_fits (by omega) (by omega))
    rw [hik] at h
    rw [hkk]
    exact h
  obtain ⟨G, hG⟩ : ∃ G, G = grownCap w (n + 1) n 3 := ⟨_, rfl⟩
  obtain ⟨ROW, hROW⟩ : ∃ ROW : Array Value, ROW = (cs.take (i)).toArray ++ Builtin.zeroCells (Value.int .i64 0).cells (n + 1 - i) ++ Builtin.zeroCells (Value.int .i64 0).cells (G - (n + 1)) := ⟨_, rfl⟩
  rw [← hG] at hrz
  rw [← hROW] at hrz
  have hGn : n + 1 ≤ G := by rw [hG]; exact grownCap_ge w _ _ _
  have hGm : G ≤ maxLen := by rw [hG]; exact grownCap_le_maxLen w (n + 1) n 3 (by unfold maxLen; omega)
  have hzc : ∀ k, (Builtin.zeroCells (Value.int .i64 0).cells k).size = k := fun k => by
    simp [Builtin.zeroCells, Value.cells]
  have hRs : ROW.size = G := by
    rw [hROW, Array.size_append, Array.size_append, hzc, hzc, List.size_toArray, List.length_take, hcl, Nat.min_eq_left (by omega)]
    omega
  have hRow : ∀ j v, j < i → cs[j]? = some v → ROW[j]? = some v := fun j v hj hv => by
    rw [hROW, Array.append_assoc, Array.getElem?_append_left (by simp; omega)]
    simp [hj, hv]
  refine Calls.mono (R := fun e w' => e = .returned (.slice (some ⟨w.heap.size, 0, none⟩) (n + 1) G) ∧ w' = (((w.alloc (.cells ROW 3)).drew.setCells w.heap.size (i) vs).drew).setCells w.heap.size (i + 1) (cs.drop (i))) ?_ fun e w' ⟨h1, h2⟩ => ⟨G, ROW, hGn, hGm, hRs, hRow, h1, h2⟩
  obtain ⟨W1, hW1⟩ : ∃ W1, W1 = w.drew.alloc (.cells ROW 3) := ⟨_, rfl⟩
  rw [← hW1] at hrz
  have hN : ∀ j, j < n + 1 → (W1.cell? ⟨w.heap.size, j, none⟩).isSome = true := fun j hj => by
    rw [hW1, World.cell?_alloc_at (w := w.drew) ROW _ w.heap.size j rfl, Array.getElem?_eq_getElem (by omega)]; rfl
  have hNf : ∀ j, W1.frozen? ⟨w.heap.size, j, none⟩ = false := fun j => by rw [hW1]; exact World.frozen?_alloc_at (w := w.drew) ROW _ w.heap.size j rfl
  have hOb : ∀ j v, w.cell? ⟨b, j, none⟩ = some v → W1.cell? ⟨b, j, none⟩ = some v := fun j v h => by rw [hW1, World.cell?_alloc_past (w := w.drew) _ b j hbw]; exact h
  have hOv : ∀ j v, w.cell? ⟨vb, j, none⟩ = some v → W1.cell? ⟨vb, j, none⟩ = some v := fun j v h => by rw [hW1, World.cell?_alloc_past (w := w.drew) _ vb j hvw]; exact h
  have hcpA : ∀ (W : World), (∀ x, W.cell? x = W1.cell? x) → (∀ x, W.frozen? x = W1.frozen? x) → ∀ ty dc, (Builtin.copy_ #[22, 22] ty #[.slice (some ⟨w.heap.size, i, none⟩) (n + 1 - i) dc, .slice (some ⟨vb, 0, none⟩) 1 vc]).run Try.prog W = .ok (goInt (Nat.min 1 (n + 1 - i) : Nat)) (W.setCells w.heap.size (i) vs) := fun W hWc hWf ty dc =>
    run_copy_rows W _ _ ty 3 1 w.heap.size (i) (n + 1 - i) dc ⟨vb, 0, none⟩ 1 vc vs hun hsz (by rw [hvl]; simp only [Nat.min_def]; split <;> omega)
      (fun j v hj => by rw [Addr.add_lit, hWc, Nat.zero_add]; exact hOv _ v (hvs j v hj))
      (fun j hj => by rw [hWc]; exact hN (i + j) (by omega)) (fun j hj => by rw [hWf]; exact hNf _) h1v
  have hbN : b ≠ w.heap.size := by omega
  have hdl : (cs.drop (i)).length = n - i := by rw [List.length_drop, hcl]
  have hcpB : ∀ (W : World), (∀ x, W.cell? x = (W1.setCells w.heap.size (i) vs).cell? x) → (∀ x, W.frozen? x = (W1.setCells w.heap.size (i) vs).frozen? x) → ∀ ty dc sc, (Builtin.copy_ #[22, 22] ty #[.slice (some ⟨w.heap.size, i + 1, none⟩) (n - i) dc, .slice (some ⟨b, i, none⟩) (n - i) sc]).run Try.prog W = .ok (goInt (Nat.min (n - i) (n - i) : Nat)) (W.setCells w.heap.size (i + 1) (cs.drop (i))) := fun W hWc hWf ty dc sc =>
    run_copy_rows W _ _ ty 3 1 w.heap.size (i + 1) (n - i) dc ⟨b, i, none⟩ (n - i) sc (cs.drop (i)) hun hsz (by rw [hdl]; congr 1; simp only [Nat.min_def]; split <;> omega)
      (fun j v hj => by
        rw [Addr.add_lit, hWc, World.cell?_setCells_out _ _ _ _ _ (fun h _ => absurd h hbN)]
        exact hOb _ v (hcs (i + j) v (by rwa [List.getElem?_drop] at hj)))
      (fun j hj => by rw [hWc]; rw [hdl] at hj; exact isSome_setCells _ _ _ _ (fun t ht => hN (i + t) (by omega)) _ (hN (i + 1 + j) (by omega)))
      (fun j hj => by rw [hWf, World.frozen?_setCells]; exact hNf _) (fun v hv => h1c v (List.mem_of_mem_drop hv))
  subst hW1
  have hE1 : ∀ x, ((w.alloc (.cells ROW 3)).drew).cell? x = (w.drew.alloc (.cells ROW 3)).cell? x := fun x => rfl
  have hE2 : ∀ x, ((w.alloc (.cells ROW 3)).drew).frozen? x = (w.drew.alloc (.cells ROW 3)).frozen? x := fun x => rfl
  have hF1 : ∀ x, (((w.alloc (.cells ROW 3)).drew.setCells w.heap.size (i) vs).drew).cell? x = ((w.drew.alloc (.cells ROW 3)).setCells w.heap.size (i) vs).cell? x := fun x => rfl
  have hF2 : ∀ x, (((w.alloc (.cells ROW 3)).drew.setCells w.heap.size (i) vs).drew).frozen? x = ((w.drew.alloc (.cells ROW 3)).setCells w.heap.size (i) vs).frozen? x := fun x => rfl
  have hw1 : IntKind.i64.wrap ((i : Int) + 1) = (i : Int) + 1 := by rw [IntKind.wrap_i64]; omega
  have hb1 : (0 : Int) ≤ (i : Int) + 1 := by omega
  have hin : i ≤ n := by omega
  have htn : ((i : Int) + 1).toNat = i + 1 := by omega
  have hb3 : (i : Int) ≤ (n : Int) := by omega
  have hG63 : G ≤ 9223372036854775807 := by unfold maxLen at hGm; omega
  have hGi : ¬ (G = i) := by omega
  have hGim : ¬ (G = i + 1) := by omega
  have hci : ¬ (n = i) := by omega
  clear hkk hik hold hROW hG
  have mixed : Try.prog.follows .mixedOrders = true := mixed
  go_enter Try.func68, Try.ntmps68
  go_wp2_with (first
    | (at_builtin; refine Lib.wpList_append_run _ rfl _ _ _ _ rfl _ _ rfl rfl _ _ (hrz _) ?_)
    | (at_builtin; refine wpList_copy_runI _ rfl _ _ 22 22 rfl _ _ rfl rfl (hcpA _ hE1 hE2 _ _) ?_)
    | (at_builtin; refine wpList_copy_runI _ rfl _ _ 22 22 rfl _ _ rfl rfl (hcpB _ (fun _ => rfl) (fun _ => rfl) _ _ _) ?_))
  go_region_law_o (refine step_copy_runI rfl _ _ 22 22 rfl (.slice (some ⟨w.heap.size, i + 1, none⟩) (n - i) (G - (i + 1))) (.slice (some ⟨b, i, none⟩) (n - i) (n - i)) (by simp [Act.eval, Act.put]) (by simp [Act.eval, Act.put]) (hcpB _ hF1 hF2 3 (G - (i + 1)) (n - i)) ?_)
  go_wp2
  go_ret
  exact ⟨rfl, rfl⟩
end Go.Proofs.Ytnkoibhjnahkiaa
namespace Go.Proofs.Ytnkoibhjnahkiaa
open Go.RowKit Go.Lib

theorem setCells_heap (b t : Nat) : ∀ (vs : List Value) (o : Nat) (arr : Array Value) (w : World), w.heap[b]? = some (.cells arr t (0, 0)) → o + vs.length ≤ arr.size →
    ∃ arr', Grow (· = b) w (w.setCells b o vs) ∧ (w.setCells b o vs).heap[b]? = some (.cells arr' t (0, 0)) ∧ arr'.toList = arr.toList.take o ++ vs ++ arr.toList.drop (o + vs.length)
  | [], o, arr, w, hb, _ => ⟨arr, Grow.refl _ _, hb, by simp⟩
  | v :: vs, o, arr, w, hb, hl => by
    simp only [List.length_cons] at hl
    have hlt : o < arr.size := by omega
    have hheap : (w.setCell ⟨b, o, none⟩ v).heap[b]? = some (.cells (arr.setIfInBounds o v) t (0, 0)) := by
      simp [World.setCell, Array.getElem?_modify, hb]
    obtain ⟨arr', g2, g3, g4⟩ := setCells_heap b t vs (o + 1) (arr.setIfInBounds o v) (w.setCell ⟨b, o, none⟩ v) hheap (by simp; omega)
    refine ⟨arr', (Grow.setCell w ⟨b, o, none⟩ v).step g2 fun _ _ h => h, g3, ?_⟩
    rw [g4]
    simp only [Array.toList_setIfInBounds, List.length_cons]
    rw [List.take_set, List.drop_set, if_pos (by omega)]
    rw [show o + 1 + vs.length = o + (vs.length + 1) from by omega]
    have h1 : (arr.toList.take (o + 1)).set o v = arr.toList.take o ++ [v] := by
      have hlt : o < arr.toList.length := by simpa using hlt
      rw [List.take_succ_eq_append_getElem hlt, List.set_append_right _ _ (by rw [List.length_take]; omega)]
      rw [List.length_take, Nat.min_eq_left (by omega), Nat.sub_self]
      rfl
    rw [h1]
    simp
theorem prefix_of {us vs : List Value} (h : ∀ (j : Nat) (v : Value), us[j]? = some v → vs[j]? = some v) : vs = us ++ vs.drop us.length := by
  apply List.ext_getElem?
  intro j
  by_cases hj : j < us.length
  · rw [List.getElem?_append_left hj, List.getElem?_eq_getElem hj]
    exact h j _ (List.getElem?_eq_getElem hj)
  · rw [List.getElem?_append_right (by omega), List.getElem?_drop]
    congr 1; omega
theorem MemOk.mem_eq {B : Base} {m : Map} {S : Cells} {mem mem' : Mem} {w : World} (h : MemOk B m S mem w) (e : ∀ k, look k mem' = look k mem) : MemOk B m S mem' w :=
  { dom := fun k l hk => by rw [e]; exact h.dom k l hk, objs := fun k o ho => h.objs k o (by rw [← e]; exact ho), subs := fun k i c b hk => by rw [e]; exact h.subs k i c b hk, subx := fun k h1 h2 hk => h.subx k h1 h2 (by rw [← e]; exact hk), parts := h.parts, young := h.young, grow := h.grow, sold := h.sold, snew := h.snew, sin := h.sin, scell := h.scell, ext := fun k l h1 h2 hk => by rw [e]; exact h.ext k l h1 h2 hk, marks := h.marks }
theorem ext2_look {o1 o2 : MObj} (k : Nat) : look k (extMem 1000000 [o1, o2]) = if k = 1000000 then some o1 else if k = 1000001 then some o2 else none := by
  rw [look_ext]
  by_cases h0 : k = 1000000
  · subst h0; rfl
  by_cases h1 : k = 1000001
  · subst h1; rfl
  rw [if_neg h0, if_neg h1]
  split
  · obtain ⟨j, hj⟩ : ∃ j, k - 1000000 = j + 2 := ⟨k - 1000002, by omega⟩
    rw [hj]; rfl
  · rfl
/-- The row is changed where it lies. -/
theorem ins_place {m : Map} {S : Cells} {w w' : World} {T : Nat → Prop} {b c : Nat} {o1 o2 o' : MObj} (hM : MemOk ⟨w, T, S, m, [], [], fun _ => none, w⟩ m S (extMem 1000000 [o1, o2]) w) (h1 : isNest o1 = false) (hm0 : m 1000000 = some ⟨some b, c⟩) (hS : ∀ o, ¬ S b o) (hg : Grow (· = b) w w') (ho : ObjOk m w' S 1000000 o') :
    MemOk ⟨w, T, S, m, [], [], fun _ => none, w⟩ m S (extMem 1000000 [o', o2]) w' :=
  (hM.write (o := o1) (by rw [ext2_look]; rfl) (.inl h1) hm0 hS hg ho).mem_eq fun k => by
    rw [ext2_look]
    unfold look
    by_cases h0 : k = 1000000
    · rw [if_pos h0, if_pos h0]
    · rw [if_neg h0, if_neg h0, ext2_look, if_neg h0]
/-- The row is a new one. -/
theorem ins_moved {m : Map} {S : Cells} {w w' : World} {T : Nat → Prop} {c : Nat} {o1 o2 o' : MObj} (hM : MemOk ⟨w, T, S, m, [], [], fun _ => none, w⟩ m S (extMem 1000000 [o1, o2]) w) (h1 : isNest o1 = false) (h2 : isNest o2 = false) (hk2 : ∀ j ∈ o2.keys, j ≠ 1000000) (hg : Grow (fun _ => False) w w') (ho : ObjOk (upd m 1000000 ⟨some w.heap.size, c⟩) w' S 1000000 o') :
    MemOk ⟨w, T, S, upd m 1000000 ⟨some w.heap.size, c⟩, [], [], fun _ => none, w⟩ (upd m 1000000 ⟨some w.heap.size, c⟩) S (extMem 1000000 [o', o2]) w' := by
  have hc := hg.cells hM.sin fun _ _ _ h => h
  have hne : ∀ j, j ≠ 1000000 → upd m 1000000 ⟨some w.heap.size, c⟩ j = m j := fun j hj => by rw [upd_at, if_neg hj]
  have he : upd m 1000000 ⟨some w.heap.size, c⟩ 1000000 = some ⟨some w.heap.size, c⟩ := by rw [upd_at, if_pos rfl]
  have hdom : ∀ k l, m k = some l → k = 1000000 ∨ k = 1000001 := fun k l hk => by
    have := hM.dom k l hk
    rw [ext2_look] at this
    by_cases h0 : k = 1000000
    · exact .inl h0
    · by_cases h1 : k = 1000001
      · exact .inr h1
      · rw [if_neg h0, if_neg h1] at this; cases this
  have hsub : ∀ k i c, m.sub k i c = none := fun k i c => by
    cases e : m.sub k i c with
    | none => rfl
    | some b =>
      obtain ⟨o, g1, g2⟩ := hM.subs k i c b e
      rw [ext2_look] at g1
      by_cases h0 : k = 1000000
      · rw [if_pos h0] at g1; cases g1; rw [h1] at g2; cases g2
      · rw [if_neg h0] at g1
        by_cases h1 : k = 1000001
        · rw [if_pos h1] at g1; cases g1; rw [h2] at g2; cases g2
        · rw [if_neg h1] at g1; cases g1
  have hhas : ∀ k b, (upd m 1000000 ⟨some w.heap.size, c⟩).has k b → (k = 1000000 ∧ b = w.heap.size) ∨ (k ≠ 1000000 ∧ m.has k b) := fun k b hk => by
    rcases hk with ⟨c', hk⟩ | ⟨i, c', hk⟩
    · by_cases h0 : k = 1000000
      · subst h0; rw [he] at hk; cases hk; exact .inl ⟨rfl, rfl⟩
      · rw [hne k h0] at hk; exact .inr ⟨h0, .inl ⟨c', hk⟩⟩
    · rw [show (upd m 1000000 ⟨some w.heap.size, c⟩).sub k i c' = m.sub k i c' from rfl, hsub] at hk; cases hk
  refine { dom := fun k l hk => ?_, objs := fun k o hk => ?_, subs := fun k i c' b hk => ?_, subx := fun _ _ _ _ => rfl, parts := fun k k' b hk hk' => ?_, young := fun k b hk => ?_, grow := hg.mono fun _ _ h => h.elim, sold := fun _ _ h => h, snew := fun _ _ h _ => h, sin := fun b o hs => Nat.lt_of_lt_of_le (hM.sin b o hs) hg.size, scell := fun b o hs => hc b o hs, ext := fun k l _ _ hk => .inl hk, marks := fun _ hx => nomatch hx }
  · rw [ext2_look]
    by_cases h0 : k = 1000000
    · rw [if_pos h0]; rfl
    · rw [hne k h0] at hk
      rcases hdom k l hk with h1 | h1
      · exact absurd h1 h0
      · rw [if_neg h0, if_pos h1]; rfl
  · rw [ext2_look] at hk
    by_cases h0 : k = 1000000
    · rw [if_pos h0] at hk
      cases hk
      subst h0
      exact ho
    · rw [if_neg h0] at hk
      by_cases h1 : k = 1000001
      · rw [if_pos h1] at hk
        cases hk
        subst h1
        have h2 := hM.objs 1000001 o2 (by rw [ext2_look]; rfl)
        exact ObjOk.keep (m := m) (m' := upd m 1000000 ⟨some w.heap.size, c⟩) (fun _ _ h => h) (fun b o hs => hc b o hs) (fun j hj l hl => by rw [hne j (hk2 j hj)]; exact hl) (fun l hl => by rw [hne _ (by decide)]; exact hl) rfl (fun b hbc => ⟨hg.block b (hM.ltH hbc) fun h => h, fun _ h => h⟩) h2
      · rw [if_neg h1] at hk; cases hk
  · rw [show (upd m 1000000 ⟨some w.heap.size, c⟩).sub k i c' = m.sub k i c' from rfl, hsub] at hk; cases hk
  · rcases hhas k b hk with ⟨e1, e2⟩ | ⟨e1, e2⟩ <;> rcases hhas k' b hk' with ⟨e1', e2'⟩ | ⟨e1', e2'⟩
    · rw [e1, e1']
    · have := hM.ltH e2'; omega
    · have := hM.ltH e2; omega
    · exact hM.parts k k' b e2 e2'
  · rcases hhas k b hk with ⟨e1, e2⟩ | ⟨e1, e2⟩
    · exact .inl (by subst e2; exact Nat.le_refl _)
    · exact hM.young k b e2
theorem ins_obj {m : Map} {S : Cells} {w : World} {t sz b cap i : Nat} {xs : List (List D)} {r : List D} {us vs : List Value} {arr : Array Value} (h0 : 0 < sz) (hlen : ∀ x ∈ xs, x.length = sz) (hr : r.length = sz) (hi : i ≤ xs.length) (hm : m 1000000 = some ⟨some b, cap⟩) (hh : w.heap[b]? = some (.cells arr t (0, 0)))
    (hcap : xs.length + 1 ≤ cap) (hmax : cap ≤ maxLen) (hsize : arr.size = cap * sz) (hus : All2 (RepD w S) us xs.flatten) (hvs : All2 (RepD w S) vs r) (h1 : ∀ u ∈ us, u.oneCell' = true) (h1v : ∀ u ∈ vs, u.oneCell' = true)
    (hpre : ∀ (j : Nat) (v : Value), (us.take (i * sz) ++ vs ++ us.drop (i * sz))[j]? = some v → arr[j]? = some v) (hS : ∀ o, ¬ S b o) : ObjOk m w S 1000000 (.grown t sz (xs.take i ++ r :: xs.drop i)) := by
  have e : (xs.take i ++ r :: xs.drop i).flatten = xs.flatten.take (i * sz) ++ r ++ xs.flatten.drop (i * sz) := by
    rw [List.flatten_append, List.flatten_cons, flatten_take sz xs hlen i hi, flatten_drop sz xs hlen i, List.append_assoc]
  refine ⟨h0, fun x hx => ?_, _, hm, .inr ⟨b, arr, us.take (i * sz) ++ vs ++ us.drop (i * sz), rfl, hh, ?_, hmax, hsize, ?_, fun u hu => ?_, hpre, fun o hs => absurd hs (hS o), fun h => nomatch h⟩⟩
  · rcases List.mem_append.1 hx with h | h
    · exact hlen x (List.mem_of_mem_take h)
    · rcases List.mem_cons.1 h with h | h
      · rw [h]; exact hr
      · exact hlen x (List.mem_of_mem_drop h)
  · simp; omega
  · rw [e]
    exact ((hus.take _).app hvs).app (hus.drop _)
  · rcases List.mem_append.1 hu with h | h
    · rcases List.mem_append.1 h with h | h
      · exact h1 u (List.mem_of_mem_take h)
      · exact h1v u h
    · exact h1 u (List.mem_of_mem_drop h)
set_option maxRecDepth 100000 in
set_option maxHeartbeats 4000000 in
/-- Insert ahead of the end. -/
theorem insert_in (xs : List (List D)) (r : List D) (i : Nat) (hi : i < xs.length) (hl : xs.length < 4294967296) : Meets Try.prog 68 [.rw 1000000 xs.length, .i i, .rw 1000001 1] [.row 3 1 xs false, .row 3 1 [r] false]
    (fun q => q = ⟨.rw 1000000 (xs.length + 1), [.grown 3 1 (xs.take i ++ r :: xs.drop i), .row 3 1 [r] false], []⟩) := by
  refine ⟨pl68, fun w S m T vs ha hM => ?_⟩
  obtain ⟨vl⟩ := vs
  rcases vl with _ | ⟨v0, _ | ⟨v1, _ | ⟨v2, _ | ⟨_, _⟩⟩⟩⟩
  · exact ha.elim
  · exact ha.2.elim
  · exact ha.2.2.elim
  case cons.cons.cons.cons => exact ha.2.2.2.elim
  obtain ⟨h0, h1, h2, _⟩ := ha
  have h0 : ∃ l, m 1000000 = some l ∧ ((l.blk = none ∧ v0 = .slice none 0 0 ∧ xs.length = 0) ∨ ∃ b, l.blk = some b ∧ v0 = .slice (some ⟨b, 0, none⟩) xs.length l.cap ∧ xs.length ≤ l.cap) := h0
  have h2 : ∃ l, m 1000001 = some l ∧ ((l.blk = none ∧ v2 = .slice none 0 0 ∧ 1 = 0) ∨ ∃ b, l.blk = some b ∧ v2 = .slice (some ⟨b, 0, none⟩) 1 l.cap ∧ 1 ≤ l.cap) := h2
  have h1 : RepD w S v1 (.v (.int .i64 i)) := h1
  cases h1
  obtain ⟨⟨bo, c⟩, hm0, h0⟩ := h0
  rcases h0 with ⟨_, _, hz⟩ | ⟨b, hb, rfl, hnc⟩
  · omega
  obtain ⟨⟨bo2, vc⟩, hm1, h2⟩ := h2
  rcases h2 with ⟨_, _, hz⟩ | ⟨vb, hvb, rfl, _⟩
  · omega
  simp only at hb hvb hnc
  subst hb hvb
  have o0 : ObjOk m w S 1000000 (.row 3 1 xs false) := hM.objs _ _ (by rw [ext2_look]; rfl)
  have o1 : ObjOk m w S 1000001 (.row 3 1 [r] false) := hM.objs _ _ (by rw [ext2_look]; rfl)
  obtain ⟨z0, hlen, l0, hl0, o0⟩ := o0
  rw [hm0] at hl0
  cases hl0
  obtain ⟨z1, hlenr, l1, hl1, o1⟩ := o1
  rw [hm1] at hl1
  cases hl1
  rcases o0 with ⟨hn, _⟩ | ⟨b', arr, us, hb', hh, hxc, hmax, hsize, hus, h1c, hat, hS1, _⟩
  · cases hn
  cases hb'
  rcases o1 with ⟨hn, _⟩ | ⟨b', arr1, vs, hb', hh1, _, _, hsize1, hvs, h1v, hat1, hS2, _⟩
  · cases hn
  cases hb'
  simp only at hxc hmax hsize hsize1
  have hr : r.length = 1 := hlenr r (by simp)
  have hne : vb ≠ b := fun e => by
    subst e
    have := hM.apart _ _ _ _ _ hm0 hm1
    omega
  have hvs : All2 (RepD w S) vs r := by simpa using hvs
  have hcl : us.length = xs.length := by rw [hus.len, flatten_len 1 xs hlen, Nat.mul_one]
  have hvl : vs.length = 1 := by rw [hvs.len, hr]
  have hcell : ∀ j, w.cell? ⟨b, j, none⟩ = arr[j]? := fun j => by simp only [World.cell?, hh]; rfl
  have hcell1 : ∀ j, w.cell? ⟨vb, j, none⟩ = arr1[j]? := fun j => by simp only [World.cell?, hh1]; rfl
  have hfz : ∀ j, w.frozen? ⟨b, j, none⟩ = false := fun j => by simp [World.frozen?, hh]
  have hfz1 : ∀ j, w.frozen? ⟨vb, j, none⟩ = false := fun j => by simp [World.frozen?, hh1]
  have hb : b < w.heap.size := (Array.getElem?_eq_some_iff.1 hh).1
  have hb1 : vb < w.heap.size := (Array.getElem?_eq_some_iff.1 hh1).1
  have hSb : ∀ o, ¬ S b o := fun o hs => by have := (hS1 o hs).1; cases this
  have hcs : ∀ j v, us[j]? = some v → w.cell? ⟨b, j, none⟩ = some v := fun j v h => by rw [hcell]; exact hat j v h
  have hcv : ∀ j v, vs[j]? = some v → w.cell? ⟨vb, j, none⟩ = some v := fun j v h => by rw [hcell1]; exact hat1 j v h
  by_cases hroom : xs.length + 1 ≤ c
  · have hT : T b := by
      rcases hM.fresh _ _ _ hm0 with h | h
      · exact absurd hb (Nat.not_lt.2 h)
      · exact h.1
    refine (insD_shift b xs.length c i vb vc us vs w hi hroom (by unfold maxLen at hmax; omega) hne hcl hvl hcs (fun j hj => by rw [hcell, Array.getElem?_eq_getElem (by omega)]; rfl) hfz hcv h1c h1v 3 3 arr1.size arr.size (by simp [World.shape?, hh1]) (by simp [World.shape?, hh]) (by omega) (hfz1 0) (hfz1 _)).mono ?_
    rintro e w' ⟨rfl, rfl⟩
    obtain ⟨arrA, gA, hA, eA⟩ := setCells_heap b 3 (us.drop (i)) (i + 1) arr w.drew hh (by rw [List.length_drop, hcl]; omega)
    have sA : arrA.toList.length = arr.toList.length := by rw [eA, List.length_append, List.length_append, List.length_take, List.length_drop, List.length_drop, Array.length_toList, hcl]; omega
    simp only [Array.length_toList] at sA
    obtain ⟨arrB, gB, hB, eB⟩ := setCells_heap b 3 vs (i) arrA _ hA (by omega)
    have sB : arrB.toList.length = arrA.toList.length := by rw [eB, List.length_append, List.length_append, List.length_take, List.length_drop, Array.length_toList]; omega
    simp only [Array.length_toList] at sB
    have hg : Grow (· = b) w ((w.drew.setCells b (i + 1) (us.drop (i))).setCells b (i) vs) := ((Grow.drewn _ w).step gA fun _ _ h => h).step gB fun _ _ h => h
    have hkc : ∀ b' o, S b' o → ((w.drew.setCells b (i + 1) (us.drop (i))).setCells b (i) vs).cell? ⟨b', o, none⟩ = w.cell? ⟨b', o, none⟩ := hg.cells hM.sin fun b' o hs e => hSb o (e ▸ hs)
    have hpre := prefix_of (us := us) (vs := arr.toList) fun j v h => by rw [Array.getElem?_toList]; exact hat j v h
    have hal : arr.toList.length = c := by rw [Array.length_toList, hsize, Nat.mul_one]
    have t1 : arrA.toList.take (i) = us.take (i) := by
      rw [eA, List.append_assoc, List.take_append_of_le_length (by rw [List.length_take]; omega), List.take_take, Nat.min_eq_left (by omega), hpre, List.take_append_of_le_length (by omega)]
    have t2 : ∃ rest, arrA.toList.drop (i + vs.length) = us.drop (i) ++ rest := by
      rw [eA, List.append_assoc, hvl, List.drop_left' (by rw [List.length_take]; omega)]
      exact ⟨_, rfl⟩
    obtain ⟨rest, t2⟩ := t2
    rw [t1, t2] at eB
    have ho := ins_obj (t := 3) (m := m) (S := S) (i := i) (cap := c) (us := us) (vs := vs) (arr := arrB) z0 hlen hr (by omega) hm0 hB hroom hmax (by rw [sB, sA, hsize]) (hus.imp fun _ _ _ h => h.keep (fun _ _ h => h) hkc) (hvs.imp fun _ _ _ h => h.keep (fun _ _ h => h) hkc) h1c h1v (fun j v h => by
      rw [Nat.mul_one] at h
      rw [← Array.getElem?_toList, eB, ← List.append_assoc, List.getElem?_append_left (List.getElem?_eq_some_iff.1 h).1]
      exact h) hSb
    exact ⟨_, _, m, S, rfl, rfl, ⟨_, hm0, .inr ⟨b, rfl, rfl, hroom⟩⟩, ins_place hM rfl hm0 hSb hg ho, ⟨fun k l hk => ⟨l, hk, .inl rfl⟩, fun _ _ _ => rfl⟩, rfl, Nat.zero_le _⟩
  · obtain rfl : c = xs.length := by omega
    refine (insD_grow b xs.length i vb vc us vs w hi (by omega) hcl hvl hcs hcv h1c h1v).mono ?_
    rintro e w' ⟨G, ROW, g1, g2, g3, g4, rfl, rfl⟩
    have hh0 : (w.alloc (.cells ROW 3)).drew.heap[w.heap.size]? = some (.cells ROW 3 (0, 0)) := heap_alloc_new ..
    obtain ⟨arrA, gA, hA, eA⟩ := setCells_heap w.heap.size 3 vs (i) ROW _ hh0 (by omega)
    have sA : arrA.toList.length = ROW.toList.length := by rw [eA, List.length_append, List.length_append, List.length_take, List.length_drop, Array.length_toList]; omega
    simp only [Array.length_toList] at sA
    obtain ⟨arrB, gB, hB, eB⟩ := setCells_heap w.heap.size 3 (us.drop (i)) (i + 1) arrA (((w.alloc (.cells ROW 3)).drew.setCells w.heap.size (i) vs).drew) hA (by rw [List.length_drop, hcl]; omega)
    have sB : arrB.toList.length = arrA.toList.length := by rw [eB, List.length_append, List.length_append, List.length_take, List.length_drop, List.length_drop, Array.length_toList, hcl]; omega
    simp only [Array.length_toList] at sB
    have hg0 : Grow (· = w.heap.size) w ((((w.alloc (.cells ROW 3)).drew.setCells w.heap.size (i) vs).drew).setCells w.heap.size (i + 1) (us.drop (i))) :=
      (((((Grow.alloc (· = w.heap.size) w (.cells ROW 3)).step (Grow.drewn (fun _ => False) _) fun _ _ h => h.elim).step gA fun _ _ h => h).step (Grow.drewn (fun _ => False) _) fun _ _ h => h.elim).step gB fun _ _ h => h)
    have hg : Grow (fun _ => False) w ((((w.alloc (.cells ROW 3)).drew.setCells w.heap.size (i) vs).drew).setCells w.heap.size (i + 1) (us.drop (i))) := hg0.mono fun k hk e => by omega
    have hkc : ∀ b' o, S b' o → ((((w.alloc (.cells ROW 3)).drew.setCells w.heap.size (i) vs).drew).setCells w.heap.size (i + 1) (us.drop (i))).cell? ⟨b', o, none⟩ = w.cell? ⟨b', o, none⟩ := hg.cells hM.sin fun _ _ _ h => h
    have hRl : ROW.toList.length = G := by rw [Array.length_toList, g3]
    have hpre : ROW.toList.take (i) = us.take (i) := by
      apply List.ext_getElem?
      intro j
      rw [List.getElem?_take, List.getElem?_take]
      split
      · rename_i hj
        have := g4 j (us[j]'(by omega)) hj (List.getElem?_eq_getElem _)
        rw [Array.getElem?_toList, this, List.getElem?_eq_getElem]
      · rfl
    have t1 : arrA.toList.take (i + 1) = us.take (i) ++ vs := by
      rw [eA, hpre, List.take_left' (by rw [List.length_append, List.length_take]; omega)]
    rw [t1] at eB
    have hne0 : ∀ o, ¬ S w.heap.size o := fun o hs => Nat.lt_irrefl _ (hM.sin _ o hs)
    have hup : upd m 1000000 ⟨some w.heap.size, G⟩ 1000000 = some ⟨some w.heap.size, G⟩ := by rw [upd_at, if_pos rfl]
    have ho := ins_obj (t := 3) (m := upd m 1000000 ⟨some w.heap.size, G⟩) (S := S) (i := i) (cap := G) (us := us) (vs := vs) (arr := arrB) z0 hlen hr (by omega) hup hB g1 g2 (by rw [sB, sA, g3, Nat.mul_one]) (hus.imp fun _ _ _ h => h.keep (fun _ _ h => h) hkc) (hvs.imp fun _ _ _ h => h.keep (fun _ _ h => h) hkc) h1c h1v (fun j v h => by
      rw [Nat.mul_one] at h
      rw [← Array.getElem?_toList, eB, List.getElem?_append_left (List.getElem?_eq_some_iff.1 h).1]
      exact h) hne0
    have hM2 := ins_moved hM rfl rfl (fun j hj => by cases hj) hg ho
    refine ⟨_, _, _, S, rfl, rfl, ⟨_, hup, .inr ⟨w.heap.size, rfl, rfl, g1⟩⟩, hM2, ⟨fun k l hk => ?_, fun _ _ _ => rfl⟩, rfl, Nat.zero_le _⟩
    by_cases h0 : k = 1000000
    · subst h0
      refine ⟨_, hup, .inr ⟨rfl, fun b' h => ?_⟩⟩
      cases h
      exact .inl (Nat.le_refl _)
    · exact ⟨l, by rw [upd_at, if_neg h0]; exact hk, .inl rfl⟩
end Go.Proofs.Ytnkoibhjnahkiaa
namespace Go.Proofs.Ytnkoibhjnahkiaa
open Go.RowKit

@[simp] def rowI (xs : List Int) : MObj := .row 3 1 (xs.map ics) false
@[simp] def rowV (xs : List Int) : MObj := .row 2 1 (xs.map ics) false
set_option maxHeartbeats 400000 in
theorem index_m (v : Int) (xs : List Int) (hl : xs.length < 4294967296) : Meets Try.prog 105 [.d (il xs), .i v] [] (Ret (.i (idx (fun x => x == v) xs 0))) := by
  refine meets tbOk mixed Try.func105 pl105 rfl rfl ?_
  simp [Try.ntmps105]
  refine vc_loop (fun n σ => ∃ k : Nat, n = xs.length - k ∧ k ≤ xs.length ∧ noneTo (fun x => x == v) xs k ∧ σ = ⟨19, [(8, .i k), (7, .i xs.length), (0, .d (il xs)), (1, .i v)], []⟩) ?_ ?_
  · exact ⟨_, _, ⟨0, rfl, Nat.zero_le _, noneTo_zero _ _, rfl⟩, [], _, rfl, by simp⟩
  rintro n σ ⟨k, rfl, hk, hn, rfl⟩
  by_cases hlt : k < xs.length
  · obtain ⟨x, hx, e⟩ := at_lt hlt
    by_cases hv : v = x
    · simp [hlt, e, hv]
      refine vcRet_of [] ?_ rfl
      subst hv
      simp [idx_hit (fun x => x == v) xs k v hx (by simp) hn]
    · simp [hlt, e, hv, wrap_succ hlt hl]
      refine ⟨_, ?_, _, ⟨k + 1, rfl, hlt, noneTo_succ hn hx (by simpa using fun h => hv h.symm), rfl⟩, [], _, rfl, by simp⟩
      omega
  obtain rfl : k = xs.length := by omega
  simp
  refine vcRet_of [] ?_ rfl
  simp [idx_miss _ xs hn]
set_option maxHeartbeats 400000 in
theorem indexR_m (v : Int) (xs : List Int) (hl : xs.length < 4294967296) : Meets Try.prog 105 [.rw 1000000 xs.length, .i v] [rowI xs] (fun r => r = ⟨.i (idx (fun x => x == v) xs 0), [rowI xs], []⟩) := by
  refine meets tbOk mixed Try.func105 pl105 rfl rfl ?_
  simp [Try.ntmps105]
  refine vc_loop (fun n σ => ∃ k : Nat, n = xs.length - k ∧ k ≤ xs.length ∧ noneTo (fun x => x == v) xs k ∧ σ = ⟨19, [(8, .i k), (7, .i xs.length), (0, .rw 1000000 xs.length), (1, .i v)], [(1000000, rowI xs)]⟩) ?_ ?_
  · exact ⟨_, _, ⟨0, rfl, Nat.zero_le _, noneTo_zero _ _, rfl⟩, [], _, rfl, by simp⟩
  rintro n σ ⟨k, rfl, hk, hn, rfl⟩
  by_cases hlt : k < xs.length
  · obtain ⟨x, hx, e⟩ := at_lt hlt
    by_cases hv : v = x
    · simp [hlt, e, hv]
      refine vcRet_of [] ?_ rfl
      subst hv
      simp [idx_hit (fun x => x == v) xs k v hx (by simp) hn]
    · simp [hlt, e, hv, wrap_succ hlt hl]
      refine ⟨_, ?_, _, ⟨k + 1, rfl, hlt, noneTo_succ hn hx (by simpa using fun h => hv h.symm), rfl⟩, [], _, rfl, by simp⟩
      omega
  obtain rfl : k = xs.length := by omega
  simp
  refine vcRet_of [] ?_ rfl
  simp [idx_miss _ xs hn]
theorem idx_has (v : Int) (xs : List Int) : decide (0 ≤ idx (fun x => x == v) xs 0) = decide (v ∈ xs) := by
  rw [Bool.eq_iff_iff]
  have := idx_any (fun x => x == v) xs 0 (by omega)
  simp only [decide_eq_true_eq, this, List.any_eq_true, beq_iff_eq, exists_eq_right]
theorem contains_m (v : Int) (xs : List Int) (hl : xs.length < 4294967296) : Meets Try.prog 84 [.d (il xs), .i v] [] (Ret (.b (decide (v ∈ xs)))) := by
  refine meets tbOk mixed Try.func84 pl84 rfl rfl ?_
  simp [Try.ntmps84]
  refine (index_m v xs hl).mono ?_
  rintro _ rfl
  simp
  refine vcRet_of [] ?_ rfl
  simp [idx_has]
theorem containsR_m (v : Int) (xs : List Int) (hl : xs.length < 4294967296) : Meets Try.prog 84 [.rw 1000000 xs.length, .i v] [rowI xs] (fun r => r = ⟨.b (decide (v ∈ xs)), [rowI xs], []⟩) := by
  refine meets tbOk mixed Try.func84 pl84 rfl rfl ?_
  simp [Try.ntmps84]
  refine (indexR_m v xs hl).mono ?_
  rintro _ rfl
  simp
  refine vcRet_of [] ?_ rfl
  simp [idx_has]
theorem nan_m (v : Int) : Meets Try.prog 106 [.i v] [] (Ret (.b false)) := by
  refine meets tbOk mixed Try.func106 pl106 rfl rfl ?_
  simp [Try.ntmps106]
  exact vcRet_of [] (by simp) rfl
theorem nan2_m (v : Int) : Meets Try.prog 86 [.i v] [] (Ret (.b false)) := by
  refine meets tbOk mixed Try.func86 pl86 rfl rfl ?_
  simp [Try.ntmps86]
  exact vcRet_of [] (by simp) rfl
theorem less_m (u v : Int) : Meets Try.prog 85 [.i u, .i v] [] (Ret (.b (decide (u < v)))) := by
  refine meets tbOk mixed Try.func85 pl85 rfl rfl ?_
  simp [Try.ntmps85]
  refine (nan_m u).mono ?_
  rintro _ rfl
  simp
  exact vcRet_of [] (by simp) rfl
theorem asc_tail {a : Int} {l : List Int} (h : asc (a :: l) = true) : asc l = true := by
  cases l with
  | nil => rfl
  | cons b r => simp only [asc, Bool.and_eq_true] at h; exact h.2
theorem asc_lt {a : Int} : ∀ {l : List Int}, asc (a :: l) = true → ∀ x ∈ l, a < x
  | [], _, x, hx => by cases hx
  | b :: r, h, x, hx => by
    have h' := h
    simp only [asc, Bool.and_eq_true, decide_eq_true_eq] at h'
    rcases List.mem_cons.1 hx with rfl | hx
    · exact h'.1
    · have := asc_lt h'.2 x hx; omega
theorem lower_le (v : Int) : ∀ xs : List Int, lower v xs ≤ xs.length
  | [] => Nat.le_refl _
  | x :: xs => by
    unfold lower
    rw [List.takeWhile_cons]
    split
    · have := lower_le v xs; unfold lower at this; simp only [List.length_cons]; omega
    · simp
theorem lower_at {v : Int} : ∀ {xs : List Int} {i : Nat} {x : Int}, asc xs = true → xs[i]? = some x → (x < v ↔ i < lower v xs)
  | [], i, x, _, h => by simp at h
  | y :: ys, i, x, ha, h => by
    unfold lower
    rw [List.takeWhile_cons]
    by_cases hy : y < v
    · simp only [hy, decide_true, if_true, List.length_cons]
      cases i with
      | zero => cases h; simp [hy]
      | succ i =>
        have := lower_at (v := v) (asc_tail ha) (show ys[i]? = some x by simpa using h)
        unfold lower at this
        omega
    · simp only [hy, decide_false, Bool.false_eq_true, if_false, List.length_nil, Nat.not_lt_zero, iff_false]
      cases i with
      | zero => cases h; exact hy
      | succ i =>
        have := asc_lt ha x (List.mem_of_getElem? (show ys[i]? = some x by simpa using h))
        omega
theorem lower_mem {v : Int} {xs : List Int} (ha : asc xs = true) : v ∈ xs ↔ xs[lower v xs]? = some v := by
  constructor
  · intro h
    obtain ⟨i, hi⟩ := List.getElem?_of_mem h
    have h1 := lower_at (v := v) ha hi
    have h2 : lower v xs ≤ i := by
      rcases Nat.lt_or_ge i (lower v xs) with h3 | h3
      · exact absurd (h1.2 h3) (by omega)
      · exact h3
    have hl : lower v xs < xs.length := Nat.lt_of_le_of_lt h2 (List.getElem?_eq_some_iff.1 hi).1
    obtain ⟨y, hy⟩ : ∃ y, xs[lower v xs]? = some y := ⟨_, List.getElem?_eq_getElem hl⟩
    have h3 := lower_at (v := v) ha hy
    have h4 : ¬ y < v := fun h => Nat.lt_irrefl _ (h3.1 h)
    rcases Nat.lt_or_eq_of_le h2 with h5 | h5
    · have := (lower_at (v := v + 0) ha hy)
      have h6 : y < v ∨ v < y ∨ y = v := by omega
      rcases h6 with h6 | h6 | h6
      · exact absurd h6 h4
      · exfalso
        have h7 := (lower_at (v := y) ha hi).1 h6
        have h8 := lower_at (v := y) ha hy
        have h9 : ¬ lower v xs < lower y xs := fun h => Int.lt_irrefl _ (h8.2 h)
        omega
      · rw [hy, h6]
    · rw [h5]; exact hi
  · exact List.mem_of_getElem?
set_option maxHeartbeats 1000000 in
theorem search_m (v : Int) (xs : List Int) (hl : xs.length < 4294967296) (ha : asc xs = true) : Meets Try.prog 67 [.rw 1000000 xs.length, .i v] [rowI xs] (fun r => r = ⟨.tup [.i (lower v xs), .b (decide (v ∈ xs))], [rowI xs], []⟩) := by
  refine meets tbOk mixed Try.func67 pl67 rfl rfl ?_
  simp [Try.ntmps67]
  refine vc_loop (fun n σ => ∃ i j : Nat, n = j - i ∧ i ≤ j ∧ j ≤ xs.length ∧ i ≤ lower v xs ∧ lower v xs ≤ j ∧ σ = ⟨54, [(7, .i i), (8, .i j), (6, .i xs.length), (0, .rw 1000000 xs.length), (1, .i v)], [(1000000, rowI xs)]⟩) ?_ ?_
  · exact ⟨_, _, ⟨0, xs.length, rfl, Nat.zero_le _, Nat.le_refl _, Nat.zero_le _, lower_le v xs, rfl⟩, [], _, rfl, by simp⟩
  rintro n σ ⟨i, j, rfl, h1, h2, h3, h4, rfl⟩
  by_cases hij : i < j
  · obtain ⟨h, hh⟩ : ∃ h, h = (i + j) / 2 := ⟨_, rfl⟩
    have hw : IntKind.i64.wrap ((IntKind.u64.wrap (IntKind.i64.wrap ((i : Int) + j))).fdiv (2 ^ min 1 IntKind.u64.bits)) = (h : Int) := by
      rw [show IntKind.i64.wrap ((i : Int) + j) = (i : Int) + j from IntWalk.i64_in _ (by omega)]
      rw [show IntKind.u64.wrap ((i : Int) + j) = (i : Int) + j from by simp [IntKind.wrap, IntKind.signed, IntKind.bits]; omega]
      have h5 : ((2 : Int) ^ min 1 IntKind.u64.bits) = 2 := rfl
      rw [h5, Int.fdiv_eq_ediv_of_nonneg _ (by omega), show ((i : Int) + j) / 2 = (h : Int) from by omega]
      exact IntWalk.i64_in _ (by omega)
    have hlt : h < xs.length := by omega
    obtain ⟨y, hy, ey⟩ := at_lt hlt
    have hw2 : IntKind.i64.wrap ((h : Int) + 1) = h + 1 := IntWalk.i64_in _ (by omega)
    have hlo := lower_at (v := v) ha hy
    simp [hij, hw, hlt, ey]
    refine (less_m y v).mono ?_
    rintro _ rfl
    by_cases hyv : y < v
    · simp [hyv, hw2]
      exact ⟨_, by omega, _, ⟨h + 1, j, rfl, by omega, h2, hlo.1 hyv, h4, rfl⟩, [], _, rfl, by simp⟩
    · simp [hyv]
      exact ⟨_, by omega, _, ⟨i, h, rfl, by omega, by omega, h3, by omega, rfl⟩, [], _, rfl, by simp⟩
  obtain rfl : i = j := by omega
  obtain rfl : i = lower v xs := by omega
  have hmem := lower_mem (v := v) ha
  by_cases hlt : lower v xs < xs.length
  · obtain ⟨y, hy, ey⟩ := at_lt hlt
    rw [hy] at hmem
    by_cases hyv : y = v
    · subst hyv
      have hm : y ∈ xs := hmem.2 rfl
      simp [hlt, ey]
      exact vcRet_of [] (by simp [hm]) rfl
    · have hm : v ∉ xs := fun h => hyv (Option.some.inj (hmem.1 h))
      simp [hlt, ey, hyv]
      refine (nan2_m y).mono ?_
      rintro _ rfl
      simp
      exact vcRet_of [] (by simp [hm]) rfl
  · have hm : v ∉ xs := fun h => by
      have := hmem.1 h
      exact hlt (List.getElem?_eq_some_iff.1 this).1
    simp [hlt]
    exact vcRet_of [] (by simp [hm]) rfl
end Go.Proofs.Ytnkoibhjnahkiaa
namespace Go.Proofs.Ytnkoibhjnahkiaa
open Go.RowKit

set_option maxHeartbeats 1000000 in
theorem delete_m (xs : List Int) (i : Nat) (hi : i < xs.length) (hl : xs.length < 4294967296) : Meets Try.prog 81 [.rw 1000000 xs.length, .i i, .i ((i : Int) + 1)] [.row 3 1 (xs.map ics) false]
    (fun r => r = ⟨.rw 1000000 (xs.length - 1), [.row 3 1 ((xs.eraseIdx i).map ics ++ [[.v (.int .i64 0)]]) false], []⟩) := by
  refine meets tbOk mixed Try.func81 pl81 rfl rfl ?_
  have h1 : ¬ ((i : Int) = i + 1) := by omega
  have h2 : ¬ (i = xs.length) := by omega
  have e3 : i + (xs.length - (i + 1)) = xs.length - 1 := by omega
  simp [Try.ntmps81, h1, h2, e3]
  refine ⟨⟨by omega, by omega⟩, by omega, ⟨by omega, by omega⟩, by omega, by kernel_rfl, ?_⟩
  refine ⟨by omega, by omega, vcRet_of [] ?_ rfl⟩
  have e4 : List.take (xs.length - (i + 1)) (List.drop (i + 1) (List.map ics xs)) = List.drop (i + 1) (List.map ics xs) := List.take_of_length_le (by simp)
  have e5 : xs.length - (xs.length - 1) = 1 := by omega
  have e6 : List.map ics (xs.eraseIdx i) = List.take i (List.map ics xs) ++ List.drop (i + 1) (List.map ics xs) := by rw [List.eraseIdx_eq_take_drop_succ, List.map_append, List.map_take, List.map_drop]
  have e7 : List.take (xs.length - 1) (List.take i (List.map ics xs) ++ (List.drop (i + 1) (List.map ics xs) ++ List.drop (xs.length - 1) (List.map ics xs))) = List.take i (List.map ics xs) ++ List.drop (i + 1) (List.map ics xs) := by
    rw [← List.append_assoc]
    exact List.take_left' (by simp; omega)
  have e8 : List.drop xs.length (List.take i (List.map ics xs) ++ (List.drop (i + 1) (List.map ics xs) ++ List.drop (xs.length - 1) (List.map ics xs))) = [] := List.drop_of_length_le (by simp; omega)
  rw [e4, e5, e6]
  simp [e7, e8]
set_option maxHeartbeats 1000000 in
theorem deleteV_m (xs : List Int) (i : Nat) (hi : i < xs.length) (hl : xs.length < 4294967296) : Meets Try.prog 60 [.rw 1000000 xs.length, .i i, .i ((i : Int) + 1)] [.row 2 1 (xs.map ics) false]
    (fun r => r = ⟨.rw 1000000 (xs.length - 1), [.row 2 1 ((xs.eraseIdx i).map ics ++ [[.v (.int .i64 0)]]) false], []⟩) := by
  refine meets tbOk mixed Try.func60 pl60 rfl rfl ?_
  have h1 : ¬ ((i : Int) = i + 1) := by omega
  have h2 : ¬ (i = xs.length) := by omega
  have e3 : i + (xs.length - (i + 1)) = xs.length - 1 := by omega
  simp [Try.ntmps60, h1, h2, e3]
  refine ⟨⟨by omega, by omega⟩, by omega, ⟨by omega, by omega⟩, by omega, by kernel_rfl, ?_⟩
  refine ⟨by omega, by omega, vcRet_of [] ?_ rfl⟩
  have e4 : List.take (xs.length - (i + 1)) (List.drop (i + 1) (List.map ics xs)) = List.drop (i + 1) (List.map ics xs) := List.take_of_length_le (by simp)
  have e5 : xs.length - (xs.length - 1) = 1 := by omega
  have e6 : List.map ics (xs.eraseIdx i) = List.take i (List.map ics xs) ++ List.drop (i + 1) (List.map ics xs) := by rw [List.eraseIdx_eq_take_drop_succ, List.map_append, List.map_take, List.map_drop]
  have e7 : List.take (xs.length - 1) (List.take i (List.map ics xs) ++ (List.drop (i + 1) (List.map ics xs) ++ List.drop (xs.length - 1) (List.map ics xs))) = List.take i (List.map ics xs) ++ List.drop (i + 1) (List.map ics xs) := by
    rw [← List.append_assoc]
    exact List.take_left' (by simp; omega)
  have e8 : List.drop xs.length (List.take i (List.map ics xs) ++ (List.drop (i + 1) (List.map ics xs) ++ List.drop (xs.length - 1) (List.map ics xs))) = [] := List.drop_of_length_le (by simp; omega)
  rw [e4, e5, e6]
  simp [e7, e8]
/-- Insert of one number, at any place. -/
theorem insert_m (xs : List Int) (v : Int) (i : Nat) (hi : i ≤ xs.length) (hl : xs.length < 4294967295) : Meets Try.prog 68 [.rw 1000000 xs.length, .i i, .rw 1000001 1] [rowI xs, .row 3 1 [ics v] false]
    (fun q => q = ⟨.rw 1000000 (xs.length + 1), [.grown 3 1 ((xs.take i ++ v :: xs.drop i).map ics), .row 3 1 [ics v] false], []⟩) := by
  rcases Nat.lt_or_eq_of_le hi with h | h
  · have := insert_in (xs.map ics) (ics v) i (by simpa using h) (by simp; omega)
    simpa using this
  · subst h
    refine meets tbOk mixed Try.func68 pl68 rfl rfl ?_
    have hl2 : xs.length + 1 < 4294967296 := by omega
    simp [Try.ntmps68, hl2]
    exact vcRet_of [] (by simp) rfl
end Go.Proofs.Ytnkoibhjnahkiaa
namespace Go.Proofs.Ytnkoibhjnahkiaa
open Go.RowKit

/-- The locks, one of which is looked at closely. -/
@[simp] def nestF (XS : List (List D)) (PR : Nat → Bool) (j : Nat) (h : Int) (k n : Nat) : MObj := .nest 57 2 XS PR [(1, 3)] (some (j, [.i h, .rw k n]))
theorem holds_m (l : Lk) (hl : l.rd.length < 4294967296) (t : Int) : Meets Try.prog 65 [.ep l.ds 0, .i t] [] (Ret (.b (hasT t l))) := by
  refine meets tbOk mixed Try.func65 pl65 rfl rfl ?_
  by_cases h : l.hold = t
  · simp [Try.ntmps65, h]
    exact vcRet_of [] (by simp [hasT, h]) rfl
  · simp [Try.ntmps65, h]
    refine (contains_m t l.rd hl).mono ?_
    rintro _ rfl
    simp
    exact vcRet_of [] (by simp [hasT, h]) rfl
theorem holdsN_m (XS : List (List D)) (PR : Nat → Bool) (j : Nat) (l : Lk) (hl : l.rd.length < 4294967296) (t : Int) :
    Meets Try.prog 65 [.rp 1000000 2 j 0, .i t] [nestF XS PR j l.hold 1000001 l.rd.length, rowI l.rd] (fun r => r = ⟨.b (hasT t l), [nestF XS PR j l.hold 1000001 l.rd.length, rowI l.rd], []⟩) := by
  refine meets tbOk mixed Try.func65 pl65 rfl rfl ?_
  by_cases h : l.hold = t
  · simp [Try.ntmps65, h]
    exact vcRet_of [] (by simp [hasT, h]) rfl
  · simp [Try.ntmps65, h]
    refine (containsR_m t l.rd hl).mono ?_
    rintro _ rfl
    simp
    exact vcRet_of [] (by simp [hasT, h]) rfl
/-- What a change of a lock leaves. -/
abbrev lockRes (XS : List (List D)) (PR : Nat → Bool) (j : Nat) (t : Int) (r : Int × Lk) (Z : List (List D)) : Res := ⟨.i r.1, [nestF XS PR j r.2.hold 1000002 r.2.rd.length, .box 3 [.i t], .grown 3 1 (r.2.rd.map ics ++ Z)], []⟩
abbrev lockExt (XS : List (List D)) (PR : Nat → Bool) (j : Nat) (t : Int) (l : Lk) : List MObj := [nestF XS PR j l.hold 1000002 l.rd.length, .box 3 [.i t], rowI l.rd]
set_option maxRecDepth 100000 in
set_option maxHeartbeats 1000000 in
theorem lock1_m (XS : List (List D)) (PR : Nat → Bool) (j : Nat) (l : Lk) (hl : l.rd.length < 4294967296) (t : Int) :
    Meets Try.prog 64 [.rp 1000000 2 j 0, .ptr 1000001 0] (lockExt XS PR j t l) (fun r => r = lockRes XS PR j t (lockF t l) []) := by
  refine meetsH [] tbOk mixed Try.func64 pl64 rfl rfl ?_
  simp [Try.ntmps64]
  refine (holdsN_m XS PR j l hl t).mono ?_
  rintro _ rfl
  cases hh : hasT t l
  case true =>
    simp
    exact vcRet_of [] (by simp [lockF, hh]) rfl
  by_cases h1 : 0 < l.hold
  · simp [h1]
    exact vcRet_of [] (by simp [lockF, hh, h1]) rfl
  by_cases h2 : 0 < l.rd.length
  · simp [h1, h2]
    exact vcRet_of [] (by simp [lockF, hh, h2]) rfl
  simp [h1, h2]
  exact vcRet_of [] (by simp [lockF, hh, h1, h2]) rfl
set_option maxRecDepth 100000 in
set_option maxHeartbeats 1000000 in
theorem unlock1_m (XS : List (List D)) (PR : Nat → Bool) (j : Nat) (l : Lk) (t : Int) :
    Meets Try.prog 78 [.rp 1000000 2 j 0, .ptr 1000001 0] (lockExt XS PR j t l) (fun r => r = lockRes XS PR j t (unlockF t l) []) := by
  refine meetsH [] tbOk mixed Try.func78 pl78 rfl rfl ?_
  by_cases h : l.hold = t
  · simp [Try.ntmps78, h]
    refine ⟨by kernel_rfl, ?_⟩
    exact vcRet_of [] (by simp [unlockF, h]) rfl
  · simp [Try.ntmps78, h]
    refine ⟨by kernel_rfl, ?_⟩
    exact vcRet_of [] (by simp [unlockF, h]) rfl
theorem putIn_map (t : Int) (l : List Int) : List.map ics (List.take (lower t l) l ++ t :: List.drop (lower t l) l) = (putIn t l).map ics := rfl
theorem putIn_len (t : Int) (l : List Int) : (putIn t l).length = l.length + 1 := by
  have := lower_le t l
  simp [putIn]; omega
set_option maxRecDepth 100000 in
set_option maxHeartbeats 1000000 in
theorem rlock1_m (XS : List (List D)) (PR : Nat → Bool) (j : Nat) (l : Lk) (hl : l.rd.length < 4294967295) (ha : asc l.rd = true) (t : Int) :
    Meets Try.prog 66 [.rp 1000000 2 j 0, .ptr 1000001 0] (lockExt XS PR j t l) (fun r => r = lockRes XS PR j t (rlockF t l) []) := by
  refine meetsH [] tbOk mixed Try.func66 pl66 rfl rfl ?_
  simp [Try.ntmps66]
  refine (holdsN_m XS PR j l (by omega) t).mono ?_
  rintro _ rfl
  cases hh : hasT t l
  case true =>
    simp
    exact vcRet_of [] (by simp [rlockF, hh]) rfl
  by_cases h1 : 0 < l.hold
  · simp [h1]
    exact vcRet_of [] (by simp [rlockF, hh, h1]) rfl
  simp [h1]
  refine effCall (search_m t l.rd (by omega) ha) ?_
  simp
  refine ⟨by kernel_rfl, ?_⟩
  refine effCallN (insert_m l.rd t (lower t l.rd) (lower_le t l.rd) hl) ?_
  simp
  refine ⟨by kernel_rfl, ?_⟩
  refine vcRet_of [] ?_ rfl
  simp [rlockF, hh, h1, putIn]
  have := lower_le t l.rd
  omega
set_option maxRecDepth 100000 in
set_option maxHeartbeats 1000000 in
theorem runlock1_m (XS : List (List D)) (PR : Nat → Bool) (j : Nat) (l : Lk) (hl : l.rd.length < 4294967295) (ha : asc l.rd = true) (t : Int) :
    Meets Try.prog 80 [.rp 1000000 2 j 0, .ptr 1000001 0] (lockExt XS PR j t l) (fun r => r = lockRes XS PR j t (runlockF t l) (if t ∈ l.rd then [[.v (.int .i64 0)]] else [])) := by
  refine meetsH [] tbOk mixed Try.func80 pl80 rfl rfl ?_
  simp [Try.ntmps80]
  refine effCall (search_m t l.rd (by omega) ha) ?_
  simp
  by_cases h : t ∈ l.rd
  · have hlo : lower t l.rd < l.rd.length := (List.getElem?_eq_some_iff.1 ((lower_mem ha).1 h)).1
    simp [h, wrap_succ hlo (show l.rd.length < 4294967296 by omega)]
    refine ⟨by kernel_rfl, ?_⟩
    refine (delete_m l.rd (lower t l.rd) hlo (by omega)).mono ?_
    rintro _ rfl
    simp
    refine vcRet_of [] ?_ rfl
    simp [runlockF, h, List.length_eraseIdx, hlo]
  · simp [h]
    refine ⟨by kernel_rfl, ?_⟩
    exact vcRet_of [] (by simp [runlockF, h]) rfl
end Go.Proofs.Ytnkoibhjnahkiaa
