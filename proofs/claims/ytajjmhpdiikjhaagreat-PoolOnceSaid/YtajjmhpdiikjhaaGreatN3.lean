/- slices.Insert at a waiter. No condition. -/
import Derived.Test.YtajjmhpdiikjhaaGreatV24
import Derived.Test.YtajjmhpdiikjhaaGreatTab
import Derived.Shelf.Spec.SlicesInsertGrow
import Derived.StillTailTactics
namespace Go.Proofs.YtajjmhpdiikjhaaGreat
open Go.RowKit Go.Lib

theorem run_copy_rows {P : Program} (w : World) (dT sT ty elem : TypeId) (sz b o dLen dCap : Nat) (a : Addr) (sLen sCap : Nat) (cs : List Value)
    (hu : P.underlying dT = some (.slice elem)) (hs : (P.info? elem).map (·.size) = some sz) (hn : cs.length = Nat.min sLen dLen * sz)
    (hsrc : ∀ j v, cs[j]? = some v → w.cell? (a.add j) = some v) (hc : ∀ j, j < cs.length → (w.cell? ⟨b, o + j, none⟩).isSome = true) (hf : ∀ j, j < cs.length → w.frozen? ⟨b, o + j, none⟩ = false) (h1 : ∀ v ∈ cs, v.oneCell' = true) :
    (Builtin.copy_ #[dT, sT] ty #[.slice (some ⟨b, o, none⟩) dLen dCap, .slice (some a) sLen sCap]).run P w = .ok (goInt (Nat.min sLen dLen : Nat)) (w.setCells b o cs) := by
  have hl := run_loadCells_list (P := P) w a cs hsrc
  have hst := run_storeCells_cells (P := P) b o cs 0 w (by simpa using hc) (by simpa using hf) h1
  cases hq : P.info? elem with
  | none => simp [hq] at hs
  | some i =>
    have hi : i.size = sz := by simpa [hq] using hs
    simp [Builtin.copy_, run_underlying hu, Builtin.lenOf, Builtin.firstCells, sizeOf, typeInfo, hq, hi]
    rw [← hn, hl]
    simp only [Result.andThen_ok]
    rw [hst]
    rfl
theorem info_size {P : Program} {e : TypeId} {n : Nat} (h : (P.info? e).map (·.size) = some n) (w : World) : (Go.sizeOf e).run P w = .ok n w := by
  cases hq : P.info? e with
  | none => simp [hq] at h
  | some i =>
    have hi : i.size = n := by simpa [hq] using h
    simp [Go.sizeOf, typeInfo, hq, hi]
set_option maxHeartbeats 4000000 in
set_option maxRecDepth 100000 in
theorem insD_shift (b n c i vb vc : Nat) (cs vs : List Value) (w : World) (hi : i < n) (hroom : n + 1 ≤ c) (hc63 : c ≤ 9223372036854775807) (hvb : vb ≠ b)
    (hcl : cs.length = n * 2) (hvl : vs.length = 2)
    (hcs : ∀ j v, cs[j]? = some v → w.cell? ⟨b, j, none⟩ = some v) (hsp : ∀ j, j < (n + 1) * 2 → (w.cell? ⟨b, j, none⟩).isSome = true) (hfz : ∀ j, w.frozen? ⟨b, j, none⟩ = false)
    (hvs : ∀ j v, vs[j]? = some v → w.cell? ⟨vb, j, none⟩ = some v) (h1c : ∀ v ∈ cs, v.oneCell' = true) (h1v : ∀ v ∈ vs, v.oneCell' = true)
    (tA tB : TypeId) (kA kB : Nat) (hsa : w.shape? vb = some (tA, kA)) (hsb : w.shape? b = some (tB, kB)) (hkB : kB ≠ 0) (hfa : w.frozen? ⟨vb, 0, none⟩ = false) (hfe : w.frozen? ⟨vb, kA, none⟩ = false) :
    Calls Tryz.prog 118 #[.slice (some ⟨b, 0, none⟩) n c, .int .i64 i, .slice (some ⟨vb, 0, none⟩) 1 vc] w fun e w' =>
      e = .returned (.slice (some ⟨b, 0, none⟩) (n + 1) c) ∧ w' = (w.drew.setCells b ((i + 1) * 2) (cs.drop (i * 2))).setCells b (i * 2) vs := by
  have hz2 : ¬ ((i : Int) = (n : Int)) := by omega
  have hsz : (Tryz.prog.info? 66).map (·.size) = some 2 := by kernel_rfl
  have hun : Tryz.prog.underlying 26 = some (.slice 66) := Tryz.underlying26
  have hov : ∀ lb cb, (callFunc 145 #[.slice (some ⟨vb, 0, none⟩) 1 vc, .slice (some ⟨b, (i + 1) * 2, none⟩) lb cb]).run Tryz.prog w = .ok (.value (.bool false)) w := fun lb cb => by
    rw [run_callFunc_extern Tryz.func145 (by kernel_rfl) (by kernel_rfl) (by kernel_rfl) (e := Extern.SlicesOverlaps.overlaps #[26, 26] #[4]) (by kernel_rfl),
      Lib.run_overlaps_apart w 26 4 66 hun 2 (info_size hsz) ⟨vb, 0, none⟩ ⟨b, (i + 1) * 2, none⟩ 1 vc lb cb hvb tA tB kA kB hsa hsb hkB hfa hfe]
    rfl
  have hdl : (cs.drop (i * 2)).length = (n - i) * 2 := by rw [List.length_drop, hcl, Nat.sub_mul]
  have hcp1 : ∀ ty dc sc, (Builtin.copy_ #[26, 26] ty #[.slice (some ⟨b, (i + 1) * 2, none⟩) (n - i) dc, .slice (some ⟨b, i * 2, none⟩) (n + 1 - i) sc]).run Tryz.prog w.drew = .ok (goInt (Nat.min (n + 1 - i) (n - i) : Nat)) (w.drew.setCells b ((i + 1) * 2) (cs.drop (i * 2))) := fun ty dc sc =>
    run_copy_rows w.drew _ _ ty 66 2 b ((i + 1) * 2) (n - i) dc ⟨b, i * 2, none⟩ (n + 1 - i) sc (cs.drop (i * 2)) hun hsz (by rw [hdl]; congr 1; simp only [Nat.min_def]; split <;> omega)
      (fun j v hj => by rw [Addr.add_lit]; exact hcs (i * 2 + j) v (by rwa [List.getElem?_drop] at hj))
      (fun j hj => hsp ((i + 1) * 2 + j) (by rw [hdl] at hj; omega)) (fun j hj => hfz _) (fun v hv => h1c v (List.mem_of_mem_drop hv))
  obtain ⟨W1, hW1⟩ : ∃ W1, W1 = w.drew.setCells b ((i + 1) * 2) (cs.drop (i * 2)) := ⟨_, rfl⟩
  have hsp1 : ∀ k, k < (n + 1) * 2 → (W1.cell? ⟨b, k, none⟩).isSome = true := fun k hk => by
    rw [hW1]
    exact isSome_setCells b _ _ w.drew (fun j hj => hsp ((i + 1) * 2 + j) (by rw [hdl] at hj; omega)) _ (hsp k hk)
  have hcp2 : ∀ (W : World), (∀ x, W.cell? x = W1.cell? x) → (∀ x, W.frozen? x = W1.frozen? x) → ∀ ty dc, (Builtin.copy_ #[26, 26] ty #[.slice (some ⟨b, i * 2, none⟩) (n + 1 - i) dc, .slice (some ⟨vb, 0, none⟩) 1 vc]).run Tryz.prog W = .ok (goInt (Nat.min 1 (n + 1 - i) : Nat)) (W.setCells b (i * 2) vs) := fun W hWc hWf ty dc =>
    run_copy_rows W _ _ ty 66 2 b (i * 2) (n + 1 - i) dc ⟨vb, 0, none⟩ 1 vc vs hun hsz (by rw [hvl]; simp only [Nat.min_def]; split <;> omega)
      (fun j v hj => by
        rw [Addr.add_lit, hWc, hW1, World.cell?_setCells_out b _ _ _ _ (fun h _ => absurd h hvb), Nat.zero_add]
        exact hvs j v hj)
      (fun j hj => by rw [hWc]; exact hsp1 _ (by omega)) (fun j hj => by rw [hWf, hW1, World.frozen?_setCells]; exact hfz _) h1v
  rw [← hW1] at hcp1
  have hw1 : IntKind.i64.wrap ((i : Int) + 1) = (i : Int) + 1 := by rw [IntKind.wrap_i64]; omega
  have hb1 : (0 : Int) ≤ (i : Int) + 1 := by omega
  have hin : i ≤ n := by omega
  have htn : ((i : Int) + 1).toNat = i + 1 := by omega
  have hb2 : ¬ (c = i + 1) := by omega
  have hb3 : (i : Int) ≤ (n : Int) + 1 := by omega
  have hb4 : ¬ (c = i) := by omega
  have mixed : Tryz.prog.follows .mixedOrders = true := mixed
  go_enter Tryz.func118, Tryz.ntmps118
  go_wp2_with (simp only [hov])
  go_region_law_o (refine step_copy_runI rfl _ _ 26 26 rfl _ _ (by simp [Act.eval, Act.put]) (by simp [Act.eval, Act.put]) (hcp1 _ _ _) ?_)
  go_wp2_with (at_builtin; refine wpList_copy_runI _ rfl _ _ 26 26 rfl _ _ rfl rfl (hcp2 _ (fun _ => rfl) (fun _ => rfl) _ _) ?_)
  go_ret
  first | exact ⟨rfl, rfl⟩ | exact ⟨rfl, by rw [hW1]⟩
set_option maxHeartbeats 4000000 in
set_option maxRecDepth 100000 in
theorem insD_grow (b n i vb vc : Nat) (cs vs : List Value) (w : World) (hi : i < n) (hbig : (n + 1) * 24 ≤ 140737488355328)
    (hcl : cs.length = n * 2) (hvl : vs.length = 2)
    (hcs : ∀ j v, cs[j]? = some v → w.cell? ⟨b, j, none⟩ = some v)
    (hvs : ∀ j v, vs[j]? = some v → w.cell? ⟨vb, j, none⟩ = some v) (h1c : ∀ v ∈ cs, v.oneCell' = true) (h1v : ∀ v ∈ vs, v.oneCell' = true) :
    Calls Tryz.prog 118 #[.slice (some ⟨b, 0, none⟩) n n, .int .i64 i, .slice (some ⟨vb, 0, none⟩) 1 vc] w fun e w' => ∃ (G : Nat) (ROW : Array Value), n + 1 ≤ G ∧ G ≤ maxLen ∧ ROW.size = G * 2 ∧ (∀ j v, j < i * 2 → cs[j]? = some v → ROW[j]? = some v) ∧
      e = .returned (.slice (some ⟨w.heap.size, 0, none⟩) (n + 1) G) ∧
      w' = (((w.alloc (.cells ROW 66)).drew.setCells w.heap.size (i * 2) vs).drew).setCells w.heap.size ((i + 1) * 2) (cs.drop (i * 2)) := by
  have hun : Tryz.prog.underlying 26 = some (.slice 66) := Tryz.underlying26
  obtain ⟨i0, hi0, hz0, hzs, hzb⟩ : ∃ i0, Tryz.prog.info? 66 = some i0 ∧ i0.zero = some (.agg #[.int .i64 0, .bool false]) ∧ i0.size = 2 ∧ i0.bytes = 16 := ⟨_, rfl, by kernel_rfl, by kernel_rfl, by kernel_rfl⟩
  have hz2 : ¬ ((i : Int) = (n : Int)) := by omega
  have hz3 : (n : Int) < (n : Int) + 1 := by omega
  have hsz : (Tryz.prog.info? 66).map (·.size) = some 2 := by rw [hi0]; simp [hzs]
  have hbw : b < w.heap.size := block_lt_of_cell (hcs 0 _ (List.getElem?_eq_getElem (by omega)))
  have hvw : vb < w.heap.size := block_lt_of_cell (hvs 0 _ (List.getElem?_eq_getElem (by omega)))
  have hkk : (n : Int) + 1 - (i : Int) = ((n + 1 - i : Nat) : Int) := by omega
  have hik : i + (n + 1 - i) = n + 1 := by omega
  have hold : (Builtin.firstCells i0.size i (.slice (some ⟨b, 0, none⟩) i n)).run Tryz.prog w.drew = .ok (cs.take (i * 2)).toArray w.drew := by
    rw [hzs]
    exact run_firstCells_some w.drew 2 i ⟨b, 0, none⟩ i n (cs.take (i * 2)) (by rw [List.length_take]; omega) (fun j v hj => by
      rw [Addr.add_lit, Nat.zero_add]
      rw [List.getElem?_take] at hj
      split at hj
      · exact hcs j v hj
      · cases hj)
  have hrz : ∀ ty, (Builtin.append_ #[26, 3] ty #[.slice (some ⟨b, 0, none⟩) i n, .int .i64 ((n : Int) + 1 - (i : Int))]).run Tryz.prog w =
      .ok (.slice (some ⟨w.heap.size, 0, none⟩) (n + 1) (grownCap w (n + 1) n 66)) (w.drew.alloc (.cells ((cs.take (i * 2)).toArray ++ Builtin.zeroCells (Value.agg #[.int .i64 0, .bool false]).cells (n + 1 - i) ++ Builtin.zeroCells (Value.agg #[.int .i64 0, .bool false]).cells (grownCap w (n + 1) n 66 - (n + 1))) 66)) := fun ty => by
    have h := Lib.run_append_grow_zeros w 26 3 ty 66 i0 _ .i64 .i64 hun Tryz.underlying3 hi0 hz0 (some ⟨b, 0, none⟩) i n (cs.take (i * 2)) hold (n + 1 - i) (by omega) (by omega) (by omega) (by omega) (by rw [hzb]; omega) (by rw [hzb, hik]; exact growslice_fits (by omega) (by omega))
    rw [hik] at h
    rw [hkk]
    exact h
  obtain ⟨G, hG⟩ : ∃ G, G = grownCap w (n + 1) n 66 := ⟨_, rfl⟩
  obtain ⟨ROW, hROW⟩ : ∃ ROW : Array Value, ROW = (cs.take (i * 2)).toArray ++ Builtin.zeroCells (Value.agg #[.int .i64 0, .bool false]).cells (n + 1 - i) ++ Builtin.zeroCells (Value.agg #[.int .i64 0, .bool false]).cells (G - (n + 1)) := ⟨_, rfl⟩
  rw [← hG] at hrz
  rw [← hROW] at hrz
  have hGn : n + 1 ≤ G := by rw [hG]; exact grownCap_ge w _ _ _
  have hGm : G ≤ maxLen := by rw [hG]; exact grownCap_le_maxLen w (n + 1) n 66 (by unfold maxLen; omega)
  have hzc : ∀ k, (Builtin.zeroCells (Value.agg #[.int .i64 0, .bool false]).cells k).size = k * 2 := fun k => by
    simp [Builtin.zeroCells, Value.cells]
  have hRs : ROW.size = G * 2 := by
    rw [hROW, Array.size_append, Array.size_append, hzc, hzc, List.size_toArray, List.length_take, hcl, Nat.min_eq_left (by omega)]
    omega
  have hRow : ∀ j v, j < i * 2 → cs[j]? = some v → ROW[j]? = some v := fun j v hj hv => by
    rw [hROW, Array.append_assoc, Array.getElem?_append_left (by simp; omega)]
    simp [hj, hv]
  refine Calls.mono (R := fun e w' => e = .returned (.slice (some ⟨w.heap.size, 0, none⟩) (n + 1) G) ∧ w' = (((w.alloc (.cells ROW 66)).drew.setCells w.heap.size (i * 2) vs).drew).setCells w.heap.size ((i + 1) * 2) (cs.drop (i * 2))) ?_ fun e w' ⟨h1, h2⟩ => ⟨G, ROW, hGn, hGm, hRs, hRow, h1, h2⟩
  obtain ⟨W1, hW1⟩ : ∃ W1, W1 = w.drew.alloc (.cells ROW 66) := ⟨_, rfl⟩
  rw [← hW1] at hrz
  have hN : ∀ j, j < (n + 1) * 2 → (W1.cell? ⟨w.heap.size, j, none⟩).isSome = true := fun j hj => by
    rw [hW1, World.cell?_alloc_at (w := w.drew) ROW _ w.heap.size j rfl, Array.getElem?_eq_getElem (by omega)]; rfl
  have hNf : ∀ j, W1.frozen? ⟨w.heap.size, j, none⟩ = false := fun j => by rw [hW1]; exact World.frozen?_alloc_at (w := w.drew) ROW _ w.heap.size j rfl
  have hOb : ∀ j v, w.cell? ⟨b, j, none⟩ = some v → W1.cell? ⟨b, j, none⟩ = some v := fun j v h => by rw [hW1, World.cell?_alloc_past (w := w.drew) _ b j hbw]; exact h
  have hOv : ∀ j v, w.cell? ⟨vb, j, none⟩ = some v → W1.cell? ⟨vb, j, none⟩ = some v := fun j v h => by rw [hW1, World.cell?_alloc_past (w := w.drew) _ vb j hvw]; exact h
  have hcpA : ∀ (W : World), (∀ x, W.cell? x = W1.cell? x) → (∀ x, W.frozen? x = W1.frozen? x) → ∀ ty dc, (Builtin.copy_ #[26, 26] ty #[.slice (some ⟨w.heap.size, i * 2, none⟩) (n + 1 - i) dc, .slice (some ⟨vb, 0, none⟩) 1 vc]).run Tryz.prog W = .ok (goInt (Nat.min 1 (n + 1 - i) : Nat)) (W.setCells w.heap.size (i * 2) vs) := fun W hWc hWf ty dc =>
    run_copy_rows W _ _ ty 66 2 w.heap.size (i * 2) (n + 1 - i) dc ⟨vb, 0, none⟩ 1 vc vs hun hsz (by rw [hvl]; simp only [Nat.min_def]; split <;> omega)
      (fun j v hj => by rw [Addr.add_lit, hWc, Nat.zero_add]; exact hOv _ v (hvs j v hj))
      (fun j hj => by rw [hWc]; exact hN (i * 2 + j) (by omega)) (fun j hj => by rw [hWf]; exact hNf _) h1v
  have hbN : b ≠ w.heap.size := by omega
  have hdl : (cs.drop (i * 2)).length = (n - i) * 2 := by rw [List.length_drop, hcl, Nat.sub_mul]
  have hcpB : ∀ (W : World), (∀ x, W.cell? x = (W1.setCells w.heap.size (i * 2) vs).cell? x) → (∀ x, W.frozen? x = (W1.setCells w.heap.size (i * 2) vs).frozen? x) → ∀ ty dc sc, (Builtin.copy_ #[26, 26] ty #[.slice (some ⟨w.heap.size, (i + 1) * 2, none⟩) (n - i) dc, .slice (some ⟨b, i * 2, none⟩) (n - i) sc]).run Tryz.prog W = .ok (goInt (Nat.min (n - i) (n - i) : Nat)) (W.setCells w.heap.size ((i + 1) * 2) (cs.drop (i * 2))) := fun W hWc hWf ty dc sc =>
    run_copy_rows W _ _ ty 66 2 w.heap.size ((i + 1) * 2) (n - i) dc ⟨b, i * 2, none⟩ (n - i) sc (cs.drop (i * 2)) hun hsz (by rw [hdl]; congr 1; simp only [Nat.min_def]; split <;> omega)
      (fun j v hj => by
        rw [Addr.add_lit, hWc, World.cell?_setCells_out _ _ _ _ _ (fun h _ => absurd h hbN)]
        exact hOb _ v (hcs (i * 2 + j) v (by rwa [List.getElem?_drop] at hj)))
      (fun j hj => by rw [hWc]; rw [hdl] at hj; exact isSome_setCells _ _ _ _ (fun t ht => hN (i * 2 + t) (by omega)) _ (hN ((i + 1) * 2 + j) (by omega)))
      (fun j hj => by rw [hWf, World.frozen?_setCells]; exact hNf _) (fun v hv => h1c v (List.mem_of_mem_drop hv))
  subst hW1
  have hE1 : ∀ x, ((w.alloc (.cells ROW 66)).drew).cell? x = (w.drew.alloc (.cells ROW 66)).cell? x := fun x => rfl
  have hE2 : ∀ x, ((w.alloc (.cells ROW 66)).drew).frozen? x = (w.drew.alloc (.cells ROW 66)).frozen? x := fun x => rfl
  have hF1 : ∀ x, (((w.alloc (.cells ROW 66)).drew.setCells w.heap.size (i * 2) vs).drew).cell? x = ((w.drew.alloc (.cells ROW 66)).setCells w.heap.size (i * 2) vs).cell? x := fun x => rfl
  have hF2 : ∀ x, (((w.alloc (.cells ROW 66)).drew.setCells w.heap.size (i * 2) vs).drew).frozen? x = ((w.drew.alloc (.cells ROW 66)).setCells w.heap.size (i * 2) vs).frozen? x := fun x => rfl
  have hw1 : IntKind.i64.wrap ((i : Int) + 1) = (i : Int) + 1 := by rw [IntKind.wrap_i64]; omega
  have hb1 : (0 : Int) ≤ (i : Int) + 1 := by omega
  have hin : i ≤ n := by omega
  have htn : ((i : Int) + 1).toNat = i + 1 := by omega
  have hb3 : (i : Int) ≤ (n : Int) := by omega
  have hG63 : G ≤ 9223372036854775807 := by unfold maxLen at hGm; omega
  have hGi : ¬ (G = i) := by omega
  have hGim : ¬ (G = i + 1) := by omega
  have hci : ¬ (n = i) := by omega
  clear hkk hik hold hROW hG
  have mixed : Tryz.prog.follows .mixedOrders = true := mixed
  go_enter Tryz.func118, Tryz.ntmps118
  go_wp2_with (first
    | (at_builtin; refine Lib.wpList_append_run _ rfl _ _ _ _ rfl _ _ rfl rfl _ _ (hrz _) ?_)
    | (at_builtin; refine wpList_copy_runI _ rfl _ _ 26 26 rfl _ _ rfl rfl (hcpA _ hE1 hE2 _ _) ?_)
    | (at_builtin; refine wpList_copy_runI _ rfl _ _ 26 26 rfl _ _ rfl rfl (hcpB _ (fun _ => rfl) (fun _ => rfl) _ _ _) ?_))
  go_region_law_o (refine step_copy_runI rfl _ _ 26 26 rfl (.slice (some ⟨w.heap.size, (i + 1) * 2, none⟩) (n - i) (G - (i + 1))) (.slice (some ⟨b, i * 2, none⟩) (n - i) (n - i)) (by simp [Act.eval, Act.put]) (by simp [Act.eval, Act.put]) (hcpB _ hF1 hF2 3 (G - (i + 1)) (n - i)) ?_)
  go_wp2
  go_ret
  exact ⟨rfl, rfl⟩
set_option maxHeartbeats 4000000 in
set_option maxRecDepth 100000 in
theorem insL_shift (b n c i vb vc : Nat) (cs vs : List Value) (w : World) (hi : i < n) (hroom : n + 1 ≤ c) (hc63 : c ≤ 9223372036854775807) (hvb : vb ≠ b)
    (hcl : cs.length = n * 3) (hvl : vs.length = 3)
    (hcs : ∀ j v, cs[j]? = some v → w.cell? ⟨b, j, none⟩ = some v) (hsp : ∀ j, j < (n + 1) * 3 → (w.cell? ⟨b, j, none⟩).isSome = true) (hfz : ∀ j, w.frozen? ⟨b, j, none⟩ = false)
    (hvs : ∀ j v, vs[j]? = some v → w.cell? ⟨vb, j, none⟩ = some v) (h1c : ∀ v ∈ cs, v.oneCell' = true) (h1v : ∀ v ∈ vs, v.oneCell' = true)
    (tA tB : TypeId) (kA kB : Nat) (hsa : w.shape? vb = some (tA, kA)) (hsb : w.shape? b = some (tB, kB)) (hkB : kB ≠ 0) (hfa : w.frozen? ⟨vb, 0, none⟩ = false) (hfe : w.frozen? ⟨vb, kA, none⟩ = false) :
    Calls Tryz.prog 142 #[.slice (some ⟨b, 0, none⟩) n c, .int .i64 i, .slice (some ⟨vb, 0, none⟩) 1 vc] w fun e w' =>
      e = .returned (.slice (some ⟨b, 0, none⟩) (n + 1) c) ∧ w' = (w.drew.setCells b ((i + 1) * 3) (cs.drop (i * 3))).setCells b (i * 3) vs := by
  have hz2 : ¬ ((i : Int) = (n : Int)) := by omega
  have hsz : (Tryz.prog.info? 71).map (·.size) = some 3 := by kernel_rfl
  have hun : Tryz.prog.underlying 25 = some (.slice 71) := Tryz.underlying25
  have hov : ∀ lb cb, (callFunc 153 #[.slice (some ⟨vb, 0, none⟩) 1 vc, .slice (some ⟨b, (i + 1) * 3, none⟩) lb cb]).run Tryz.prog w = .ok (.value (.bool false)) w := fun lb cb => by
    rw [run_callFunc_extern Tryz.func153 (by kernel_rfl) (by kernel_rfl) (by kernel_rfl) (e := Extern.SlicesOverlaps.overlaps #[25, 25] #[4]) (by kernel_rfl),
      Lib.run_overlaps_apart w 25 4 71 hun 3 (info_size hsz) ⟨vb, 0, none⟩ ⟨b, (i + 1) * 3, none⟩ 1 vc lb cb hvb tA tB kA kB hsa hsb hkB hfa hfe]
    rfl
  have hdl : (cs.drop (i * 3)).length = (n - i) * 3 := by rw [List.length_drop, hcl, Nat.sub_mul]
  have hcp1 : ∀ ty dc sc, (Builtin.copy_ #[25, 25] ty #[.slice (some ⟨b, (i + 1) * 3, none⟩) (n - i) dc, .slice (some ⟨b, i * 3, none⟩) (n + 1 - i) sc]).run Tryz.prog w.drew = .ok (goInt (Nat.min (n + 1 - i) (n - i) : Nat)) (w.drew.setCells b ((i + 1) * 3) (cs.drop (i * 3))) := fun ty dc sc =>
    run_copy_rows w.drew _ _ ty 71 3 b ((i + 1) * 3) (n - i) dc ⟨b, i * 3, none⟩ (n + 1 - i) sc (cs.drop (i * 3)) hun hsz (by rw [hdl]; congr 1; simp only [Nat.min_def]; split <;> omega)
      (fun j v hj => by rw [Addr.add_lit]; exact hcs (i * 3 + j) v (by rwa [List.getElem?_drop] at hj))
      (fun j hj => hsp ((i + 1) * 3 + j) (by rw [hdl] at hj; omega)) (fun j hj => hfz _) (fun v hv => h1c v (List.mem_of_mem_drop hv))
  obtain ⟨W1, hW1⟩ : ∃ W1, W1 = w.drew.setCells b ((i + 1) * 3) (cs.drop (i * 3)) := ⟨_, rfl⟩
  have hsp1 : ∀ k, k < (n + 1) * 3 → (W1.cell? ⟨b, k, none⟩).isSome = true := fun k hk => by
    rw [hW1]
    exact isSome_setCells b _ _ w.drew (fun j hj => hsp ((i + 1) * 3 + j) (by rw [hdl] at hj; omega)) _ (hsp k hk)
  have hcp2 : ∀ (W : World), (∀ x, W.cell? x = W1.cell? x) → (∀ x, W.frozen? x = W1.frozen? x) → ∀ ty dc, (Builtin.copy_ #[25, 25] ty #[.slice (some ⟨b, i * 3, none⟩) (n + 1 - i) dc, .slice (some ⟨vb, 0, none⟩) 1 vc]).run Tryz.prog W = .ok (goInt (Nat.min 1 (n + 1 - i) : Nat)) (W.setCells b (i * 3) vs) := fun W hWc hWf ty dc =>
    run_copy_rows W _ _ ty 71 3 b (i * 3) (n + 1 - i) dc ⟨vb, 0, none⟩ 1 vc vs hun hsz (by rw [hvl]; simp only [Nat.min_def]; split <;> omega)
      (fun j v hj => by
        rw [Addr.add_lit, hWc, hW1, World.cell?_setCells_out b _ _ _ _ (fun h _ => absurd h hvb), Nat.zero_add]
        exact hvs j v hj)
      (fun j hj => by rw [hWc]; exact hsp1 _ (by omega)) (fun j hj => by rw [hWf, hW1, World.frozen?_setCells]; exact hfz _) h1v
  rw [← hW1] at hcp1
  have hw1 : IntKind.i64.wrap ((i : Int) + 1) = (i : Int) + 1 := by rw [IntKind.wrap_i64]; omega
  have hb1 : (0 : Int) ≤ (i : Int) + 1 := by omega
  have hin : i ≤ n := by omega
  have htn : ((i : Int) + 1).toNat = i + 1 := by omega
  have hb2 : ¬ (c = i + 1) := by omega
  have hb3 : (i : Int) ≤ (n : Int) + 1 := by omega
  have hb4 : ¬ (c = i) := by omega
  have mixed : Tryz.prog.follows .mixedOrders = true := mixed
  go_enter Tryz.func142, Tryz.ntmps142
  go_wp2_with (simp only [hov])
  go_region_law_o (refine step_copy_runI rfl _ _ 25 25 rfl _ _ (by simp [Act.eval, Act.put]) (by simp [Act.eval, Act.put]) (hcp1 _ _ _) ?_)
  go_wp2_with (at_builtin; refine wpList_copy_runI _ rfl _ _ 25 25 rfl _ _ rfl rfl (hcp2 _ (fun _ => rfl) (fun _ => rfl) _ _) ?_)
  go_ret
  first | exact ⟨rfl, rfl⟩ | exact ⟨rfl, by rw [hW1]⟩
set_option maxHeartbeats 4000000 in
set_option maxRecDepth 100000 in
theorem insL_grow (b n i vb vc : Nat) (cs vs : List Value) (w : World) (hi : i < n) (hbig : (n + 1) * 24 ≤ 140737488355328)
    (hcl : cs.length = n * 3) (hvl : vs.length = 3)
    (hcs : ∀ j v, cs[j]? = some v → w.cell? ⟨b, j, none⟩ = some v)
    (hvs : ∀ j v, vs[j]? = some v → w.cell? ⟨vb, j, none⟩ = some v) (h1c : ∀ v ∈ cs, v.oneCell' = true) (h1v : ∀ v ∈ vs, v.oneCell' = true) :
    Calls Tryz.prog 142 #[.slice (some ⟨b, 0, none⟩) n n, .int .i64 i, .slice (some ⟨vb, 0, none⟩) 1 vc] w fun e w' => ∃ (G : Nat) (ROW : Array Value), n + 1 ≤ G ∧ G ≤ maxLen ∧ ROW.size = G * 3 ∧ (∀ j v, j < i * 3 → cs[j]? = some v → ROW[j]? = some v) ∧
      e = .returned (.slice (some ⟨w.heap.size, 0, none⟩) (n + 1) G) ∧
      w' = (((w.alloc (.cells ROW 71)).drew.setCells w.heap.size (i * 3) vs).drew).setCells w.heap.size ((i + 1) * 3) (cs.drop (i * 3)) := by
  have hun : Tryz.prog.underlying 25 = some (.slice 71) := Tryz.underlying25
  obtain ⟨i0, hi0, hz0, hzs, hzb⟩ : ∃ i0, Tryz.prog.info? 71 = some i0 ∧ i0.zero = some (.agg #[.int .i64 0, .int .i64 0, .int .i64 0]) ∧ i0.size = 3 ∧ i0.bytes = 24 := ⟨_, rfl, by kernel_rfl, by kernel_rfl, by kernel_rfl⟩
  have hz2 : ¬ ((i : Int) = (n : Int)) := by omega
  have hz3 : (n : Int) < (n : Int) + 1 := by omega
  have hsz : (Tryz.prog.info? 71).map (·.size) = some 3 := by rw [hi0]; simp [hzs]
  have hbw : b < w.heap.size := block_lt_of_cell (hcs 0 _ (List.getElem?_eq_getElem (by omega)))
  have hvw : vb < w.heap.size := block_lt_of_cell (hvs 0 _ (List.getElem?_eq_getElem (by omega)))
  have hkk : (n : Int) + 1 - (i : Int) = ((n + 1 - i : Nat) : Int) := by omega
  have hik : i + (n + 1 - i) = n + 1 := by omega
  have hold : (Builtin.firstCells i0.size i (.slice (some ⟨b, 0, none⟩) i n)).run Tryz.prog w.drew = .ok (cs.take (i * 3)).toArray w.drew := by
    rw [hzs]
    exact run_firstCells_some w.drew 3 i ⟨b, 0, none⟩ i n (cs.take (i * 3)) (by rw [List.length_take]; omega) (fun j v hj => by
      rw [Addr.add_lit, Nat.zero_add]
      rw [List.getElem?_take] at hj
      split at hj
      · exact hcs j v hj
      · cases hj)
  have hrz : ∀ ty, (Builtin.append_ #[25, 3] ty #[.slice (some ⟨b, 0, none⟩) i n, .int .i64 ((n : Int) + 1 - (i : Int))]).run Tryz.prog w =
      .ok (.slice (some ⟨w.heap.size, 0, none⟩) (n + 1) (grownCap w (n + 1) n 71)) (w.drew.alloc (.cells ((cs.take (i * 3)).toArray ++ Builtin.zeroCells (Value.agg #[.int .i64 0, .int .i64 0, .int .i64 0]).cells (n + 1 - i) ++ Builtin.zeroCells (Value.agg #[.int .i64 0, .int .i64 0, .int .i64 0]).cells (grownCap w (n + 1) n 71 - (n + 1))) 71)) := fun ty => by
    have h := Lib.run_append_grow_zeros w 25 3 ty 71 i0 _ .i64 .i64 hun Tryz.underlying3 hi0 hz0 (some ⟨b, 0, none⟩) i n (cs.take (i * 3)) hold (n + 1 - i) (by omega) (by omega) (by omega) (by omega) (by rw [hzb]; omega) (by rw [hzb, hik]; exact growslice_fits (by omega) (by omega))
    rw [hik] at h
    rw [hkk]
    exact h
  obtain ⟨G, hG⟩ : ∃ G, G = grownCap w (n + 1) n 71 := ⟨_, rfl⟩
  obtain ⟨ROW, hROW⟩ : ∃ ROW : Array Value, ROW = (cs.take (i * 3)).toArray ++ Builtin.zeroCells (Value.agg #[.int .i64 0, .int .i64 0, .int .i64 0]).cells (n + 1 - i) ++ Builtin.zeroCells (Value.agg #[.int .i64 0, .int .i64 0, .int .i64 0]).cells (G - (n + 1)) := ⟨_, rfl⟩
  rw [← hG] at hrz
  rw [← hROW] at hrz
  have hGn : n + 1 ≤ G := by rw [hG]; exact grownCap_ge w _ _ _
  have hGm : G ≤ maxLen := by rw [hG]; exact grownCap_le_maxLen w (n + 1) n 71 (by unfold maxLen; omega)
  have hzc : ∀ k, (Builtin.zeroCells (Value.agg #[.int .i64 0, .int .i64 0, .int .i64 0]).cells k).size = k * 3 := fun k => by
    simp [Builtin.zeroCells, Value.cells]
  have hRs : ROW.size = G * 3 := by
    rw [hROW, Array.size_append, Array.size_append, hzc, hzc, List.size_toArray, List.length_take, hcl, Nat.min_eq_left (by omega)]
    omega
  have hRow : ∀ j v, j < i * 3 → cs[j]? = some v → ROW[j]? = some v := fun j v hj hv => by
    rw [hROW, Array.append_assoc, Array.getElem?_append_left (by simp; omega)]
    simp [hj, hv]
  refine Calls.mono (R := fun e w' => e = .returned (.slice (some ⟨w.heap.size, 0, none⟩) (n + 1) G) ∧ w' = (((w.alloc (.cells ROW 71)).drew.setCells w.heap.size (i * 3) vs).drew).setCells w.heap.size ((i + 1) * 3) (cs.drop (i * 3))) ?_ fun e w' ⟨h1, h2⟩ => ⟨G, ROW, hGn, hGm, hRs, hRow, h1, h2⟩
  obtain ⟨W1, hW1⟩ : ∃ W1, W1 = w.drew.alloc (.cells ROW 71) := ⟨_, rfl⟩
  rw [← hW1] at hrz
  have hN : ∀ j, j < (n + 1) * 3 → (W1.cell? ⟨w.heap.size, j, none⟩).isSome = true := fun j hj => by
    rw [hW1, World.cell?_alloc_at (w := w.drew) ROW _ w.heap.size j rfl, Array.getElem?_eq_getElem (by omega)]; rfl
  have hNf : ∀ j, W1.frozen? ⟨w.heap.size, j, none⟩ = false := fun j => by rw [hW1]; exact World.frozen?_alloc_at (w := w.drew) ROW _ w.heap.size j rfl
  have hOb : ∀ j v, w.cell? ⟨b, j, none⟩ = some v → W1.cell? ⟨b, j, none⟩ = some v := fun j v h => by rw [hW1, World.cell?_alloc_past (w := w.drew) _ b j hbw]; exact h
  have hOv : ∀ j v, w.cell? ⟨vb, j, none⟩ = some v → W1.cell? ⟨vb, j, none⟩ = some v := fun j v h => by rw [hW1, World.cell?_alloc_past (w := w.drew) _ vb j hvw]; exact h
  have hcpA : ∀ (W : World), (∀ x, W.cell? x = W1.cell? x) → (∀ x, W.frozen? x = W1.frozen? x) → ∀ ty dc, (Builtin.copy_ #[25, 25] ty #[.slice (some ⟨w.heap.size, i * 3, none⟩) (n + 1 - i) dc, .slice (some ⟨vb, 0, none⟩) 1 vc]).run Tryz.prog W = .ok (goInt (Nat.min 1 (n + 1 - i) : Nat)) (W.setCells w.heap.size (i * 3) vs) := fun W hWc hWf ty dc =>
    run_copy_rows W _ _ ty 71 3 w.heap.size (i * 3) (n + 1 - i) dc ⟨vb, 0, none⟩ 1 vc vs hun hsz (by rw [hvl]; simp only [Nat.min_def]; split <;> omega)
      (fun j v hj => by rw [Addr.add_lit, hWc, Nat.zero_add]; exact hOv _ v (hvs j v hj))
      (fun j hj => by rw [hWc]; exact hN (i * 3 + j) (by omega)) (fun j hj => by rw [hWf]; exact hNf _) h1v
  have hbN : b ≠ w.heap.size := by omega
  have hdl : (cs.drop (i * 3)).length = (n - i) * 3 := by rw [List.length_drop, hcl, Nat.sub_mul]
  have hcpB : ∀ (W : World), (∀ x, W.cell? x = (W1.setCells w.heap.size (i * 3) vs).cell? x) → (∀ x, W.frozen? x = (W1.setCells w.heap.size (i * 3) vs).frozen? x) → ∀ ty dc sc, (Builtin.copy_ #[25, 25] ty #[.slice (some ⟨w.heap.size, (i + 1) * 3, none⟩) (n - i) dc, .slice (some ⟨b, i * 3, none⟩) (n - i) sc]).run Tryz.prog W = .ok (goInt (Nat.min (n - i) (n - i) : Nat)) (W.setCells w.heap.size ((i + 1) * 3) (cs.drop (i * 3))) := fun W hWc hWf ty dc sc =>
    run_copy_rows W _ _ ty 71 3 w.heap.size ((i + 1) * 3) (n - i) dc ⟨b, i * 3, none⟩ (n - i) sc (cs.drop (i * 3)) hun hsz (by rw [hdl]; congr 1; simp only [Nat.min_def]; split <;> omega)
      (fun j v hj => by
        rw [Addr.add_lit, hWc, World.cell?_setCells_out _ _ _ _ _ (fun h _ => absurd h hbN)]
        exact hOb _ v (hcs (i * 3 + j) v (by rwa [List.getElem?_drop] at hj)))
      (fun j hj => by rw [hWc]; rw [hdl] at hj; exact isSome_setCells _ _ _ _ (fun t ht => hN (i * 3 + t) (by omega)) _ (hN ((i + 1) * 3 + j) (by omega)))
      (fun j hj => by rw [hWf, World.frozen?_setCells]; exact hNf _) (fun v hv => h1c v (List.mem_of_mem_drop hv))
  subst hW1
  have hE1 : ∀ x, ((w.alloc (.cells ROW 71)).drew).cell? x = (w.drew.alloc (.cells ROW 71)).cell? x := fun x => rfl
  have hE2 : ∀ x, ((w.alloc (.cells ROW 71)).drew).frozen? x = (w.drew.alloc (.cells ROW 71)).frozen? x := fun x => rfl
  have hF1 : ∀ x, (((w.alloc (.cells ROW 71)).drew.setCells w.heap.size (i * 3) vs).drew).cell? x = ((w.drew.alloc (.cells ROW 71)).setCells w.heap.size (i * 3) vs).cell? x := fun x => rfl
  have hF2 : ∀ x, (((w.alloc (.cells ROW 71)).drew.setCells w.heap.size (i * 3) vs).drew).frozen? x = ((w.drew.alloc (.cells ROW 71)).setCells w.heap.size (i * 3) vs).frozen? x := fun x => rfl
  have hw1 : IntKind.i64.wrap ((i : Int) + 1) = (i : Int) + 1 := by rw [IntKind.wrap_i64]; omega
  have hb1 : (0 : Int) ≤ (i : Int) + 1 := by omega
  have hin : i ≤ n := by omega
  have htn : ((i : Int) + 1).toNat = i + 1 := by omega
  have hb3 : (i : Int) ≤ (n : Int) := by omega
  have hG63 : G ≤ 9223372036854775807 := by unfold maxLen at hGm; omega
  have hGi : ¬ (G = i) := by omega
  have hGim : ¬ (G = i + 1) := by omega
  have hci : ¬ (n = i) := by omega
  clear hkk hik hold hROW hG
  have mixed : Tryz.prog.follows .mixedOrders = true := mixed
  go_enter Tryz.func142, Tryz.ntmps142
  go_wp2_with (first
    | (at_builtin; refine Lib.wpList_append_run _ rfl _ _ _ _ rfl _ _ rfl rfl _ _ (hrz _) ?_)
    | (at_builtin; refine wpList_copy_runI _ rfl _ _ 25 25 rfl _ _ rfl rfl (hcpA _ hE1 hE2 _ _) ?_)
    | (at_builtin; refine wpList_copy_runI _ rfl _ _ 25 25 rfl _ _ rfl rfl (hcpB _ (fun _ => rfl) (fun _ => rfl) _ _ _) ?_))
  go_region_law_o (refine step_copy_runI rfl _ _ 25 25 rfl (.slice (some ⟨w.heap.size, (i + 1) * 3, none⟩) (n - i) (G - (i + 1))) (.slice (some ⟨b, i * 3, none⟩) (n - i) (n - i)) (by simp [Act.eval, Act.put]) (by simp [Act.eval, Act.put]) (hcpB _ hF1 hF2 3 (G - (i + 1)) (n - i)) ?_)
  go_wp2
  go_ret
  exact ⟨rfl, rfl⟩
end Go.Proofs.YtajjmhpdiikjhaaGreat
namespace Go.Proofs.YtajjmhpdiikjhaaGreat
open Go.RowKit Go.Lib

theorem setCells_heap (b t : Nat) : ∀ (vs : List Value) (o : Nat) (arr : Array Value) (w : World), w.heap[b]? = some (.cells arr t (0, 0)) → o + vs.length ≤ arr.size →
    ∃ arr', Grow (· = b) w (w.setCells b o vs) ∧ (w.setCells b o vs).heap[b]? = some (.cells arr' t (0, 0)) ∧ arr'.toList = arr.toList.take o ++ vs ++ arr.toList.drop (o + vs.length)
  | [], o, arr, w, hb, _ => ⟨arr, Grow.refl _ _, hb, by simp⟩
  | v :: vs, o, arr, w, hb, hl => by
    simp only [List.length_cons] at hl
    have hlt : o < arr.size := by omega
    have hheap : (w.setCell ⟨b, o, none⟩ v).heap[b]? = some (.cells (arr.setIfInBounds o v) t (0, 0)) := by
      simp [World.setCell, Array.getElem?_modify, hb]
    obtain ⟨arr', g2, g3, g4⟩ := setCells_heap b t vs (o + 1) (arr.setIfInBounds o v) (w.setCell ⟨b, o, none⟩ v) hheap (by simp; omega)
    refine ⟨arr', (Grow.setCell w ⟨b, o, none⟩ v).step g2 fun _ _ h => h, g3, ?_⟩
    rw [g4]
    simp only [Array.toList_setIfInBounds, List.length_cons]
    rw [List.take_set, List.drop_set, if_pos (by omega)]
    rw [show o + 1 + vs.length = o + (vs.length + 1) from by omega]
    have h1 : (arr.toList.take (o + 1)).set o v = arr.toList.take o ++ [v] := by
      have hlt : o < arr.toList.length := by simpa using hlt
      rw [List.take_succ_eq_append_getElem hlt, List.set_append_right _ _ (by rw [List.length_take]; omega)]
      rw [List.length_take, Nat.min_eq_left (by omega), Nat.sub_self]
      rfl
    rw [h1]
    simp
theorem prefix_of {us vs : List Value} (h : ∀ (j : Nat) (v : Value), us[j]? = some v → vs[j]? = some v) : vs = us ++ vs.drop us.length := by
  apply List.ext_getElem?
  intro j
  by_cases hj : j < us.length
  · rw [List.getElem?_append_left hj, List.getElem?_eq_getElem hj]
    exact h j _ (List.getElem?_eq_getElem hj)
  · rw [List.getElem?_append_right (by omega), List.getElem?_drop]
    congr 1; omega
theorem MemOk.mem_eq {B : Base} {m : Map} {S : Cells} {mem mem' : Mem} {w : World} (h : MemOk B m S mem w) (e : ∀ k, look k mem' = look k mem) : MemOk B m S mem' w :=
  { dom := fun k l hk => by rw [e]; exact h.dom k l hk, objs := fun k o ho => h.objs k o (by rw [← e]; exact ho), apart := h.apart, fresh := h.fresh, grow := h.grow, sold := h.sold, snew := h.snew, sin := h.sin, scell := h.scell, ext := fun k l h1 h2 hk => by rw [e]; exact h.ext k l h1 h2 hk, marks := h.marks }
theorem ext2_look {o1 o2 : MObj} (k : Nat) : look k (extMem 1000000 [o1, o2]) = if k = 1000000 then some o1 else if k = 1000001 then some o2 else none := by
  rw [look_ext]
  by_cases h0 : k = 1000000
  · subst h0; rfl
  by_cases h1 : k = 1000001
  · subst h1; rfl
  rw [if_neg h0, if_neg h1]
  split
  · obtain ⟨j, hj⟩ : ∃ j, k - 1000000 = j + 2 := ⟨k - 1000002, by omega⟩
    rw [hj]; rfl
  · rfl
/-- The row is changed where it lies. -/
theorem ins_place {m : Map} {S : Cells} {w w' : World} {T : Nat → Prop} {b c : Nat} {o1 o2 o' : MObj} (hM : MemOk ⟨w, T, S, m, [], [], fun _ => none, w⟩ m S (extMem 1000000 [o1, o2]) w) (hm0 : m 1000000 = some ⟨some b, c⟩) (hS : ∀ o, ¬ S b o) (hg : Grow (· = b) w w') (ho : ObjOk m w' S 1000000 o') :
    MemOk ⟨w, T, S, m, [], [], fun _ => none, w⟩ m S (extMem 1000000 [o', o2]) w' :=
  (hM.write hm0 hS hg ho).mem_eq fun k => by
    rw [ext2_look]
    unfold look
    by_cases h0 : k = 1000000
    · rw [if_pos h0, if_pos h0]
    · rw [if_neg h0, if_neg h0, ext2_look, if_neg h0]
/-- The row is a new one. -/
theorem ins_moved {m : Map} {S : Cells} {w w' : World} {T : Nat → Prop} {c : Nat} {o1 o2 o' : MObj} (hM : MemOk ⟨w, T, S, m, [], [], fun _ => none, w⟩ m S (extMem 1000000 [o1, o2]) w) (hb : ∀ b c, m 1000001 = some ⟨some b, c⟩ → b < w.heap.size) (hk2 : ∀ j ∈ o2.keys, j ≠ 1000000) (hg : Grow (fun _ => False) w w') (ho : ObjOk (upd m 1000000 ⟨some w.heap.size, c⟩) w' S 1000000 o') :
    MemOk ⟨w, T, S, upd m 1000000 ⟨some w.heap.size, c⟩, [], [], fun _ => none, w⟩ (upd m 1000000 ⟨some w.heap.size, c⟩) S (extMem 1000000 [o', o2]) w' := by
  have hc := hg.cells hM.sin fun _ _ _ h => h
  have hne : ∀ j, j ≠ 1000000 → upd m 1000000 ⟨some w.heap.size, c⟩ j = m j := fun j hj => by unfold upd; rw [if_neg hj]
  have he : upd m 1000000 ⟨some w.heap.size, c⟩ 1000000 = some ⟨some w.heap.size, c⟩ := by unfold upd; rw [if_pos rfl]
  have hdom : ∀ k l, m k = some l → k = 1000000 ∨ k = 1000001 := fun k l hk => by
    have := hM.dom k l hk
    rw [ext2_look] at this
    by_cases h0 : k = 1000000
    · exact .inl h0
    · by_cases h1 : k = 1000001
      · exact .inr h1
      · rw [if_neg h0, if_neg h1] at this; cases this
  refine { dom := fun k l hk => ?_, objs := fun k o hk => ?_, apart := fun k k' b c1 c2 hk hk' => ?_, fresh := fun k b c1 hk => ?_, grow := hg.mono fun _ _ h => h.elim, sold := fun _ _ h => h, snew := fun _ _ h _ => h, sin := fun b o hs => Nat.lt_of_lt_of_le (hM.sin b o hs) hg.size, scell := fun b o hs => hc b o hs, ext := fun k l _ _ hk => .inl hk, marks := fun _ hx => nomatch hx }
  · rw [ext2_look]
    by_cases h0 : k = 1000000
    · rw [if_pos h0]; rfl
    · rw [hne k h0] at hk
      rcases hdom k l hk with h1 | h1
      · exact absurd h1 h0
      · rw [if_neg h0, if_pos h1]; rfl
  · rw [ext2_look] at hk
    by_cases h0 : k = 1000000
    · rw [if_pos h0] at hk
      cases hk
      subst h0
      exact ho
    · rw [if_neg h0] at hk
      by_cases h1 : k = 1000001
      · rw [if_pos h1] at hk
        cases hk
        subst h1
        have h2 := hM.objs 1000001 o2 (by rw [ext2_look]; rfl)
        exact h2.keep (fun _ _ h => h) (fun b o hs => hc b o hs) (fun j hj l hl => by rw [hne j (hk2 j hj)]; exact hl) (fun l hl => by rw [hne _ (by decide)]; exact hl) (w' := w') (fun b c1 hbc => ⟨hg.block b (hb b c1 hbc) fun h => h, fun _ h => h⟩)
      · rw [if_neg h1] at hk; cases hk
  · by_cases h0 : k = 1000000
    · by_cases h0' : k' = 1000000
      · rw [h0, h0']
      · rw [hne k' h0'] at hk'
        rcases hdom k' _ hk' with h1 | h1
        · exact absurd h1 h0'
        · subst h0 h1
          rw [he] at hk
          cases hk
          exact absurd (hb _ _ hk') (Nat.lt_irrefl _)
    · rw [hne k h0] at hk
      rcases hdom k _ hk with h1 | h1
      · exact absurd h1 h0
      · by_cases h0' : k' = 1000000
        · subst h0' h1
          rw [he] at hk'
          cases hk'
          exact absurd (hb _ _ hk) (Nat.lt_irrefl _)
        · rw [hne k' h0'] at hk'
          exact hM.apart k k' b c1 c2 hk hk'
  · by_cases h0 : k = 1000000
    · subst h0
      rw [he] at hk
      cases hk
      exact .inl (Nat.le_refl _)
    · rw [hne k h0] at hk
      exact hM.fresh k b c1 hk
theorem ins_obj {m : Map} {S : Cells} {w : World} {t sz b cap i : Nat} {xs : List (List D)} {r : List D} {us vs : List Value} {arr : Array Value} (h0 : 0 < sz) (hlen : ∀ x ∈ xs, x.length = sz) (hr : r.length = sz) (hi : i ≤ xs.length) (hm : m 1000000 = some ⟨some b, cap⟩) (hh : w.heap[b]? = some (.cells arr t (0, 0)))
    (hcap : xs.length + 1 ≤ cap) (hmax : cap ≤ maxLen) (hsize : arr.size = cap * sz) (hus : All2 (RepD w S) us xs.flatten) (hvs : All2 (RepD w S) vs r) (h1 : ∀ u ∈ us, u.oneCell' = true) (h1v : ∀ u ∈ vs, u.oneCell' = true)
    (hpre : ∀ (j : Nat) (v : Value), (us.take (i * sz) ++ vs ++ us.drop (i * sz))[j]? = some v → arr[j]? = some v) (hS : ∀ o, ¬ S b o) : ObjOk m w S 1000000 (.grown t sz (xs.take i ++ r :: xs.drop i)) := by
  have e : (xs.take i ++ r :: xs.drop i).flatten = xs.flatten.take (i * sz) ++ r ++ xs.flatten.drop (i * sz) := by
    rw [List.flatten_append, List.flatten_cons, flatten_take sz xs hlen i hi, flatten_drop sz xs hlen i, List.append_assoc]
  refine ⟨h0, fun x hx => ?_, _, hm, .inr ⟨b, arr, us.take (i * sz) ++ vs ++ us.drop (i * sz), rfl, hh, ?_, hmax, hsize, ?_, fun u hu => ?_, hpre, fun o hs => absurd hs (hS o), fun h => nomatch h⟩⟩
  · rcases List.mem_append.1 hx with h | h
    · exact hlen x (List.mem_of_mem_take h)
    · rcases List.mem_cons.1 h with h | h
      · rw [h]; exact hr
      · exact hlen x (List.mem_of_mem_drop h)
  · simp; omega
  · rw [e]
    exact ((hus.take _).app hvs).app (hus.drop _)
  · rcases List.mem_append.1 hu with h | h
    · rcases List.mem_append.1 h with h | h
      · exact h1 u (List.mem_of_mem_take h)
      · exact h1v u h
    · exact h1 u (List.mem_of_mem_drop h)
set_option maxRecDepth 100000 in
set_option maxHeartbeats 4000000 in
/-- Insert ahead of the end. -/
theorem insD_in (xs : List (List D)) (r : List D) (i : Nat) (hi : i < xs.length) (hl : xs.length < 4294967296) : Meets Tryz.prog 118 [.rw 1000000 xs.length, .i i, .rw 1000001 1] [.row 66 2 xs false, .row 66 2 [r] false]
    (fun q => q = ⟨.rw 1000000 (xs.length + 1), [.grown 66 2 (xs.take i ++ r :: xs.drop i), .row 66 2 [r] false], []⟩) := by
  refine ⟨pl118, fun w S m T vs ha hM => ?_⟩
  obtain ⟨vl⟩ := vs
  rcases vl with _ | ⟨v0, _ | ⟨v1, _ | ⟨v2, _ | ⟨_, _⟩⟩⟩⟩
  · exact ha.elim
  · exact ha.2.elim
  · exact ha.2.2.elim
  case cons.cons.cons.cons => exact ha.2.2.2.elim
  obtain ⟨h0, h1, h2, _⟩ := ha
  have h0 : ∃ l, m 1000000 = some l ∧ ((l.blk = none ∧ v0 = .slice none 0 0 ∧ xs.length = 0) ∨ ∃ b, l.blk = some b ∧ v0 = .slice (some ⟨b, 0, none⟩) xs.length l.cap ∧ xs.length ≤ l.cap) := h0
  have h2 : ∃ l, m 1000001 = some l ∧ ((l.blk = none ∧ v2 = .slice none 0 0 ∧ 1 = 0) ∨ ∃ b, l.blk = some b ∧ v2 = .slice (some ⟨b, 0, none⟩) 1 l.cap ∧ 1 ≤ l.cap) := h2
  have h1 : RepD w S v1 (.v (.int .i64 i)) := h1
  cases h1
  obtain ⟨⟨bo, c⟩, hm0, h0⟩ := h0
  rcases h0 with ⟨_, _, hz⟩ | ⟨b, hb, rfl, hnc⟩
  · omega
  obtain ⟨⟨bo2, vc⟩, hm1, h2⟩ := h2
  rcases h2 with ⟨_, _, hz⟩ | ⟨vb, hvb, rfl, _⟩
  · omega
  simp only at hb hvb hnc
  subst hb hvb
  have o0 : ObjOk m w S 1000000 (.row 66 2 xs false) := hM.objs _ _ (by rw [ext2_look]; rfl)
  have o1 : ObjOk m w S 1000001 (.row 66 2 [r] false) := hM.objs _ _ (by rw [ext2_look]; rfl)
  obtain ⟨z0, hlen, l0, hl0, o0⟩ := o0
  rw [hm0] at hl0
  cases hl0
  obtain ⟨z1, hlenr, l1, hl1, o1⟩ := o1
  rw [hm1] at hl1
  cases hl1
  rcases o0 with ⟨hn, _⟩ | ⟨b', arr, us, hb', hh, hxc, hmax, hsize, hus, h1c, hat, hS1, _⟩
  · cases hn
  cases hb'
  rcases o1 with ⟨hn, _⟩ | ⟨b', arr1, vs, hb', hh1, _, _, hsize1, hvs, h1v, hat1, hS2, _⟩
  · cases hn
  cases hb'
  simp only at hxc hmax hsize hsize1
  have hr : r.length = 2 := hlenr r (by simp)
  have hne : vb ≠ b := fun e => by
    subst e
    have := hM.apart _ _ _ _ _ hm0 hm1
    omega
  have hvs : All2 (RepD w S) vs r := by simpa using hvs
  have hcl : us.length = xs.length * 2 := by rw [hus.len, flatten_len 2 xs hlen]
  have hvl : vs.length = 2 := by rw [hvs.len, hr]
  have hcell : ∀ j, w.cell? ⟨b, j, none⟩ = arr[j]? := fun j => by simp only [World.cell?, hh]; rfl
  have hcell1 : ∀ j, w.cell? ⟨vb, j, none⟩ = arr1[j]? := fun j => by simp only [World.cell?, hh1]; rfl
  have hfz : ∀ j, w.frozen? ⟨b, j, none⟩ = false := fun j => by simp [World.frozen?, hh]
  have hfz1 : ∀ j, w.frozen? ⟨vb, j, none⟩ = false := fun j => by simp [World.frozen?, hh1]
  have hb : b < w.heap.size := (Array.getElem?_eq_some_iff.1 hh).1
  have hb1 : vb < w.heap.size := (Array.getElem?_eq_some_iff.1 hh1).1
  have hSb : ∀ o, ¬ S b o := fun o hs => by have := (hS1 o hs).1; cases this
  have hcs : ∀ j v, us[j]? = some v → w.cell? ⟨b, j, none⟩ = some v := fun j v h => by rw [hcell]; exact hat j v h
  have hcv : ∀ j v, vs[j]? = some v → w.cell? ⟨vb, j, none⟩ = some v := fun j v h => by rw [hcell1]; exact hat1 j v h
  by_cases hroom : xs.length + 1 ≤ c
  · have hT : T b := by
      rcases hM.fresh _ _ _ hm0 with h | h
      · exact absurd hb (Nat.not_lt.2 h)
      · exact h.1
    refine (insD_shift b xs.length c i vb vc us vs w hi hroom (by unfold maxLen at hmax; omega) hne hcl hvl hcs (fun j hj => by rw [hcell, Array.getElem?_eq_getElem (by omega)]; rfl) hfz hcv h1c h1v 66 66 arr1.size arr.size (by simp [World.shape?, hh1]) (by simp [World.shape?, hh]) (by omega) (hfz1 0) (hfz1 _)).mono ?_
    rintro e w' ⟨rfl, rfl⟩
    obtain ⟨arrA, gA, hA, eA⟩ := setCells_heap b 66 (us.drop (i * 2)) ((i + 1) * 2) arr w.drew hh (by rw [List.length_drop, hcl]; omega)
    have sA : arrA.toList.length = arr.toList.length := by rw [eA, List.length_append, List.length_append, List.length_take, List.length_drop, List.length_drop, Array.length_toList, hcl]; omega
    simp only [Array.length_toList] at sA
    obtain ⟨arrB, gB, hB, eB⟩ := setCells_heap b 66 vs (i * 2) arrA _ hA (by omega)
    have sB : arrB.toList.length = arrA.toList.length := by rw [eB, List.length_append, List.length_append, List.length_take, List.length_drop, Array.length_toList]; omega
    simp only [Array.length_toList] at sB
    have hg : Grow (· = b) w ((w.drew.setCells b ((i + 1) * 2) (us.drop (i * 2))).setCells b (i * 2) vs) := ((Grow.drewn _ w).step gA fun _ _ h => h).step gB fun _ _ h => h
    have hkc : ∀ b' o, S b' o → ((w.drew.setCells b ((i + 1) * 2) (us.drop (i * 2))).setCells b (i * 2) vs).cell? ⟨b', o, none⟩ = w.cell? ⟨b', o, none⟩ := hg.cells hM.sin fun b' o hs e => hSb o (e ▸ hs)
    have hpre := prefix_of (us := us) (vs := arr.toList) fun j v h => by rw [Array.getElem?_toList]; exact hat j v h
    have hal : arr.toList.length = c * 2 := by rw [Array.length_toList, hsize]
    have t1 : arrA.toList.take (i * 2) = us.take (i * 2) := by
      rw [eA, List.append_assoc, List.take_append_of_le_length (by rw [List.length_take]; omega), List.take_take, Nat.min_eq_left (by omega), hpre, List.take_append_of_le_length (by omega)]
    have t2 : ∃ rest, arrA.toList.drop (i * 2 + vs.length) = us.drop (i * 2) ++ rest := by
      rw [eA, List.append_assoc, hvl, show i * 2 + 2 = (i + 1) * 2 from by omega, List.drop_left' (by rw [List.length_take]; omega)]
      exact ⟨_, rfl⟩
    obtain ⟨rest, t2⟩ := t2
    rw [t1, t2] at eB
    have ho := ins_obj (t := 66) (m := m) (S := S) (i := i) (cap := c) (us := us) (vs := vs) (arr := arrB) z0 hlen hr (by omega) hm0 hB hroom hmax (by rw [sB, sA, hsize]) (hus.imp fun _ _ _ h => h.keep (fun _ _ h => h) hkc) (hvs.imp fun _ _ _ h => h.keep (fun _ _ h => h) hkc) h1c h1v (fun j v h => by
      rw [← Array.getElem?_toList, eB, ← List.append_assoc, List.getElem?_append_left (List.getElem?_eq_some_iff.1 h).1]
      exact h) hSb
    exact ⟨_, _, m, S, rfl, rfl, ⟨_, hm0, .inr ⟨b, rfl, rfl, hroom⟩⟩, ins_place hM hm0 hSb hg ho, fun k l hk => ⟨l, hk, .inl rfl⟩, rfl, Nat.zero_le _⟩
  · obtain rfl : c = xs.length := by omega
    refine (insD_grow b xs.length i vb vc us vs w hi (by omega) hcl hvl hcs hcv h1c h1v).mono ?_
    rintro e w' ⟨G, ROW, g1, g2, g3, g4, rfl, rfl⟩
    have hh0 : (w.alloc (.cells ROW 66)).drew.heap[w.heap.size]? = some (.cells ROW 66 (0, 0)) := heap_alloc_new ..
    obtain ⟨arrA, gA, hA, eA⟩ := setCells_heap w.heap.size 66 vs (i * 2) ROW _ hh0 (by omega)
    have sA : arrA.toList.length = ROW.toList.length := by rw [eA, List.length_append, List.length_append, List.length_take, List.length_drop, Array.length_toList]; omega
    simp only [Array.length_toList] at sA
    obtain ⟨arrB, gB, hB, eB⟩ := setCells_heap w.heap.size 66 (us.drop (i * 2)) ((i + 1) * 2) arrA (((w.alloc (.cells ROW 66)).drew.setCells w.heap.size (i * 2) vs).drew) hA (by rw [List.length_drop, hcl]; omega)
    have sB : arrB.toList.length = arrA.toList.length := by rw [eB, List.length_append, List.length_append, List.length_take, List.length_drop, List.length_drop, Array.length_toList, hcl]; omega
    simp only [Array.length_toList] at sB
    have hg0 : Grow (· = w.heap.size) w ((((w.alloc (.cells ROW 66)).drew.setCells w.heap.size (i * 2) vs).drew).setCells w.heap.size ((i + 1) * 2) (us.drop (i * 2))) :=
      (((((Grow.alloc (· = w.heap.size) w (.cells ROW 66)).step (Grow.drewn (fun _ => False) _) fun _ _ h => h.elim).step gA fun _ _ h => h).step (Grow.drewn (fun _ => False) _) fun _ _ h => h.elim).step gB fun _ _ h => h)
    have hg : Grow (fun _ => False) w ((((w.alloc (.cells ROW 66)).drew.setCells w.heap.size (i * 2) vs).drew).setCells w.heap.size ((i + 1) * 2) (us.drop (i * 2))) := hg0.mono fun k hk e => by omega
    have hkc : ∀ b' o, S b' o → ((((w.alloc (.cells ROW 66)).drew.setCells w.heap.size (i * 2) vs).drew).setCells w.heap.size ((i + 1) * 2) (us.drop (i * 2))).cell? ⟨b', o, none⟩ = w.cell? ⟨b', o, none⟩ := hg.cells hM.sin fun _ _ _ h => h
    have hRl : ROW.toList.length = G * 2 := by rw [Array.length_toList, g3]
    have hpre : ROW.toList.take (i * 2) = us.take (i * 2) := by
      apply List.ext_getElem?
      intro j
      rw [List.getElem?_take, List.getElem?_take]
      split
      · rename_i hj
        have := g4 j (us[j]'(by omega)) hj (List.getElem?_eq_getElem _)
        rw [Array.getElem?_toList, this, List.getElem?_eq_getElem]
      · rfl
    have t1 : arrA.toList.take ((i + 1) * 2) = us.take (i * 2) ++ vs := by
      rw [eA, hpre, List.take_left' (by rw [List.length_append, List.length_take]; omega)]
    rw [t1] at eB
    have hne0 : ∀ o, ¬ S w.heap.size o := fun o hs => Nat.lt_irrefl _ (hM.sin _ o hs)
    have hup : upd m 1000000 ⟨some w.heap.size, G⟩ 1000000 = some ⟨some w.heap.size, G⟩ := by unfold upd; rw [if_pos rfl]
    have ho := ins_obj (t := 66) (m := upd m 1000000 ⟨some w.heap.size, G⟩) (S := S) (i := i) (cap := G) (us := us) (vs := vs) (arr := arrB) z0 hlen hr (by omega) hup hB g1 g2 (by rw [sB, sA, g3]) (hus.imp fun _ _ _ h => h.keep (fun _ _ h => h) hkc) (hvs.imp fun _ _ _ h => h.keep (fun _ _ h => h) hkc) h1c h1v (fun j v h => by
      rw [← Array.getElem?_toList, eB, List.getElem?_append_left (List.getElem?_eq_some_iff.1 h).1]
      exact h) hne0
    have hM2 := ins_moved hM (fun b2 c2 h => by rw [hm1] at h; cases h; exact hb1) (fun j hj => by cases hj) hg ho
    refine ⟨_, _, _, S, rfl, rfl, ⟨_, hup, .inr ⟨w.heap.size, rfl, rfl, g1⟩⟩, hM2, fun k l hk => ?_, rfl, Nat.zero_le _⟩
    by_cases h0 : k = 1000000
    · subst h0
      refine ⟨_, hup, .inr ⟨rfl, fun b' h => ?_⟩⟩
      cases h
      exact .inl (Nat.le_refl _)
    · exact ⟨l, by unfold upd; rw [if_neg h0]; exact hk, .inl rfl⟩
set_option maxRecDepth 100000 in
set_option maxHeartbeats 4000000 in
/-- Insert ahead of the end. -/
theorem insL_in (xs : List (List D)) (r : List D) (i : Nat) (hi : i < xs.length) (hl : xs.length < 4294967296) : Meets Tryz.prog 142 [.rw 1000000 xs.length, .i i, .rw 1000001 1] [.row 71 3 xs false, .row 71 3 [r] false]
    (fun q => q = ⟨.rw 1000000 (xs.length + 1), [.grown 71 3 (xs.take i ++ r :: xs.drop i), .row 71 3 [r] false], []⟩) := by
  refine ⟨pl142, fun w S m T vs ha hM => ?_⟩
  obtain ⟨vl⟩ := vs
  rcases vl with _ | ⟨v0, _ | ⟨v1, _ | ⟨v2, _ | ⟨_, _⟩⟩⟩⟩
  · exact ha.elim
  · exact ha.2.elim
  · exact ha.2.2.elim
  case cons.cons.cons.cons => exact ha.2.2.2.elim
  obtain ⟨h0, h1, h2, _⟩ := ha
  have h0 : ∃ l, m 1000000 = some l ∧ ((l.blk = none ∧ v0 = .slice none 0 0 ∧ xs.length = 0) ∨ ∃ b, l.blk = some b ∧ v0 = .slice (some ⟨b, 0, none⟩) xs.length l.cap ∧ xs.length ≤ l.cap) := h0
  have h2 : ∃ l, m 1000001 = some l ∧ ((l.blk = none ∧ v2 = .slice none 0 0 ∧ 1 = 0) ∨ ∃ b, l.blk = some b ∧ v2 = .slice (some ⟨b, 0, none⟩) 1 l.cap ∧ 1 ≤ l.cap) := h2
  have h1 : RepD w S v1 (.v (.int .i64 i)) := h1
  cases h1
  obtain ⟨⟨bo, c⟩, hm0, h0⟩ := h0
  rcases h0 with ⟨_, _, hz⟩ | ⟨b, hb, rfl, hnc⟩
  · omega
  obtain ⟨⟨bo2, vc⟩, hm1, h2⟩ := h2
  rcases h2 with ⟨_, _, hz⟩ | ⟨vb, hvb, rfl, _⟩
  · omega
  simp only at hb hvb hnc
  subst hb hvb
  have o0 : ObjOk m w S 1000000 (.row 71 3 xs false) := hM.objs _ _ (by rw [ext2_look]; rfl)
  have o1 : ObjOk m w S 1000001 (.row 71 3 [r] false) := hM.objs _ _ (by rw [ext2_look]; rfl)
  obtain ⟨z0, hlen, l0, hl0, o0⟩ := o0
  rw [hm0] at hl0
  cases hl0
  obtain ⟨z1, hlenr, l1, hl1, o1⟩ := o1
  rw [hm1] at hl1
  cases hl1
  rcases o0 with ⟨hn, _⟩ | ⟨b', arr, us, hb', hh, hxc, hmax, hsize, hus, h1c, hat, hS1, _⟩
  · cases hn
  cases hb'
  rcases o1 with ⟨hn, _⟩ | ⟨b', arr1, vs, hb', hh1, _, _, hsize1, hvs, h1v, hat1, hS2, _⟩
  · cases hn
  cases hb'
  simp only at hxc hmax hsize hsize1
  have hr : r.length = 3 := hlenr r (by simp)
  have hne : vb ≠ b := fun e => by
    subst e
    have := hM.apart _ _ _ _ _ hm0 hm1
    omega
  have hvs : All2 (RepD w S) vs r := by simpa using hvs
  have hcl : us.length = xs.length * 3 := by rw [hus.len, flatten_len 3 xs hlen]
  have hvl : vs.length = 3 := by rw [hvs.len, hr]
  have hcell : ∀ j, w.cell? ⟨b, j, none⟩ = arr[j]? := fun j => by simp only [World.cell?, hh]; rfl
  have hcell1 : ∀ j, w.cell? ⟨vb, j, none⟩ = arr1[j]? := fun j => by simp only [World.cell?, hh1]; rfl
  have hfz : ∀ j, w.frozen? ⟨b, j, none⟩ = false := fun j => by simp [World.frozen?, hh]
  have hfz1 : ∀ j, w.frozen? ⟨vb, j, none⟩ = false := fun j => by simp [World.frozen?, hh1]
  have hb : b < w.heap.size := (Array.getElem?_eq_some_iff.1 hh).1
  have hb1 : vb < w.heap.size := (Array.getElem?_eq_some_iff.1 hh1).1
  have hSb : ∀ o, ¬ S b o := fun o hs => by have := (hS1 o hs).1; cases this
  have hcs : ∀ j v, us[j]? = some v → w.cell? ⟨b, j, none⟩ = some v := fun j v h => by rw [hcell]; exact hat j v h
  have hcv : ∀ j v, vs[j]? = some v → w.cell? ⟨vb, j, none⟩ = some v := fun j v h => by rw [hcell1]; exact hat1 j v h
  by_cases hroom : xs.length + 1 ≤ c
  · have hT : T b := by
      rcases hM.fresh _ _ _ hm0 with h | h
      · exact absurd hb (Nat.not_lt.2 h)
      · exact h.1
    refine (insL_shift b xs.length c i vb vc us vs w hi hroom (by unfold maxLen at hmax; omega) hne hcl hvl hcs (fun j hj => by rw [hcell, Array.getElem?_eq_getElem (by omega)]; rfl) hfz hcv h1c h1v 71 71 arr1.size arr.size (by simp [World.shape?, hh1]) (by simp [World.shape?, hh]) (by omega) (hfz1 0) (hfz1 _)).mono ?_
    rintro e w' ⟨rfl, rfl⟩
    obtain ⟨arrA, gA, hA, eA⟩ := setCells_heap b 71 (us.drop (i * 3)) ((i + 1) * 3) arr w.drew hh (by rw [List.length_drop, hcl]; omega)
    have sA : arrA.toList.length = arr.toList.length := by rw [eA, List.length_append, List.length_append, List.length_take, List.length_drop, List.length_drop, Array.length_toList, hcl]; omega
    simp only [Array.length_toList] at sA
    obtain ⟨arrB, gB, hB, eB⟩ := setCells_heap b 71 vs (i * 3) arrA _ hA (by omega)
    have sB : arrB.toList.length = arrA.toList.length := by rw [eB, List.length_append, List.length_append, List.length_take, List.length_drop, Array.length_toList]; omega
    simp only [Array.length_toList] at sB
    have hg : Grow (· = b) w ((w.drew.setCells b ((i + 1) * 3) (us.drop (i * 3))).setCells b (i * 3) vs) := ((Grow.drewn _ w).step gA fun _ _ h => h).step gB fun _ _ h => h
    have hkc : ∀ b' o, S b' o → ((w.drew.setCells b ((i + 1) * 3) (us.drop (i * 3))).setCells b (i * 3) vs).cell? ⟨b', o, none⟩ = w.cell? ⟨b', o, none⟩ := hg.cells hM.sin fun b' o hs e => hSb o (e ▸ hs)
    have hpre := prefix_of (us := us) (vs := arr.toList) fun j v h => by rw [Array.getElem?_toList]; exact hat j v h
    have hal : arr.toList.length = c * 3 := by rw [Array.length_toList, hsize]
    have t1 : arrA.toList.take (i * 3) = us.take (i * 3) := by
      rw [eA, List.append_assoc, List.take_append_of_le_length (by rw [List.length_take]; omega), List.take_take, Nat.min_eq_left (by omega), hpre, List.take_append_of_le_length (by omega)]
    have t2 : ∃ rest, arrA.toList.drop (i * 3 + vs.length) = us.drop (i * 3) ++ rest := by
      rw [eA, List.append_assoc, hvl, show i * 3 + 3 = (i + 1) * 3 from by omega, List.drop_left' (by rw [List.length_take]; omega)]
      exact ⟨_, rfl⟩
    obtain ⟨rest, t2⟩ := t2
    rw [t1, t2] at eB
    have ho := ins_obj (t := 71) (m := m) (S := S) (i := i) (cap := c) (us := us) (vs := vs) (arr := arrB) z0 hlen hr (by omega) hm0 hB hroom hmax (by rw [sB, sA, hsize]) (hus.imp fun _ _ _ h => h.keep (fun _ _ h => h) hkc) (hvs.imp fun _ _ _ h => h.keep (fun _ _ h => h) hkc) h1c h1v (fun j v h => by
      rw [← Array.getElem?_toList, eB, ← List.append_assoc, List.getElem?_append_left (List.getElem?_eq_some_iff.1 h).1]
      exact h) hSb
    exact ⟨_, _, m, S, rfl, rfl, ⟨_, hm0, .inr ⟨b, rfl, rfl, hroom⟩⟩, ins_place hM hm0 hSb hg ho, fun k l hk => ⟨l, hk, .inl rfl⟩, rfl, Nat.zero_le _⟩
  · obtain rfl : c = xs.length := by omega
    refine (insL_grow b xs.length i vb vc us vs w hi (by omega) hcl hvl hcs hcv h1c h1v).mono ?_
    rintro e w' ⟨G, ROW, g1, g2, g3, g4, rfl, rfl⟩
    have hh0 : (w.alloc (.cells ROW 71)).drew.heap[w.heap.size]? = some (.cells ROW 71 (0, 0)) := heap_alloc_new ..
    obtain ⟨arrA, gA, hA, eA⟩ := setCells_heap w.heap.size 71 vs (i * 3) ROW _ hh0 (by omega)
    have sA : arrA.toList.length = ROW.toList.length := by rw [eA, List.length_append, List.length_append, List.length_take, List.length_drop, Array.length_toList]; omega
    simp only [Array.length_toList] at sA
    obtain ⟨arrB, gB, hB, eB⟩ := setCells_heap w.heap.size 71 (us.drop (i * 3)) ((i + 1) * 3) arrA (((w.alloc (.cells ROW 71)).drew.setCells w.heap.size (i * 3) vs).drew) hA (by rw [List.length_drop, hcl]; omega)
    have sB : arrB.toList.length = arrA.toList.length := by rw [eB, List.length_append, List.length_append, List.length_take, List.length_drop, List.length_drop, Array.length_toList, hcl]; omega
    simp only [Array.length_toList] at sB
    have hg0 : Grow (· = w.heap.size) w ((((w.alloc (.cells ROW 71)).drew.setCells w.heap.size (i * 3) vs).drew).setCells w.heap.size ((i + 1) * 3) (us.drop (i * 3))) :=
      (((((Grow.alloc (· = w.heap.size) w (.cells ROW 71)).step (Grow.drewn (fun _ => False) _) fun _ _ h => h.elim).step gA fun _ _ h => h).step (Grow.drewn (fun _ => False) _) fun _ _ h => h.elim).step gB fun _ _ h => h)
    have hg : Grow (fun _ => False) w ((((w.alloc (.cells ROW 71)).drew.setCells w.heap.size (i * 3) vs).drew).setCells w.heap.size ((i + 1) * 3) (us.drop (i * 3))) := hg0.mono fun k hk e => by omega
    have hkc : ∀ b' o, S b' o → ((((w.alloc (.cells ROW 71)).drew.setCells w.heap.size (i * 3) vs).drew).setCells w.heap.size ((i + 1) * 3) (us.drop (i * 3))).cell? ⟨b', o, none⟩ = w.cell? ⟨b', o, none⟩ := hg.cells hM.sin fun _ _ _ h => h
    have hRl : ROW.toList.length = G * 3 := by rw [Array.length_toList, g3]
    have hpre : ROW.toList.take (i * 3) = us.take (i * 3) := by
      apply List.ext_getElem?
      intro j
      rw [List.getElem?_take, List.getElem?_take]
      split
      · rename_i hj
        have := g4 j (us[j]'(by omega)) hj (List.getElem?_eq_getElem _)
        rw [Array.getElem?_toList, this, List.getElem?_eq_getElem]
      · rfl
    have t1 : arrA.toList.take ((i + 1) * 3) = us.take (i * 3) ++ vs := by
      rw [eA, hpre, List.take_left' (by rw [List.length_append, List.length_take]; omega)]
    rw [t1] at eB
    have hne0 : ∀ o, ¬ S w.heap.size o := fun o hs => Nat.lt_irrefl _ (hM.sin _ o hs)
    have hup : upd m 1000000 ⟨some w.heap.size, G⟩ 1000000 = some ⟨some w.heap.size, G⟩ := by unfold upd; rw [if_pos rfl]
    have ho := ins_obj (t := 71) (m := upd m 1000000 ⟨some w.heap.size, G⟩) (S := S) (i := i) (cap := G) (us := us) (vs := vs) (arr := arrB) z0 hlen hr (by omega) hup hB g1 g2 (by rw [sB, sA, g3]) (hus.imp fun _ _ _ h => h.keep (fun _ _ h => h) hkc) (hvs.imp fun _ _ _ h => h.keep (fun _ _ h => h) hkc) h1c h1v (fun j v h => by
      rw [← Array.getElem?_toList, eB, List.getElem?_append_left (List.getElem?_eq_some_iff.1 h).1]
      exact h) hne0
    have hM2 := ins_moved hM (fun b2 c2 h => by rw [hm1] at h; cases h; exact hb1) (fun j hj => by cases hj) hg ho
    refine ⟨_, _, _, S, rfl, rfl, ⟨_, hup, .inr ⟨w.heap.size, rfl, rfl, g1⟩⟩, hM2, fun k l hk => ?_, rfl, Nat.zero_le _⟩
    by_cases h0 : k = 1000000
    · subst h0
      refine ⟨_, hup, .inr ⟨rfl, fun b' h => ?_⟩⟩
      cases h
      exact .inl (Nat.le_refl _)
    · exact ⟨l, by unfold upd; rw [if_neg h0]; exact hk, .inl rfl⟩
end Go.Proofs.YtajjmhpdiikjhaaGreat
