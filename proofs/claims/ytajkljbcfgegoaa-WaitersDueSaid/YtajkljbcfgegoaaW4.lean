/- Walks: equality of lists and states, ready, out, Delete, divide. -/
import Derived.Test.YtajkljbcfgegoaaW3
import Derived.StillTailTactics
namespace Go.Proofs.Ytajkljbcfgegoaa
open Go.RowKit

theorem neq_wt (w : World) (x y : Wt) : (binOp .neq 29 (.agg #[.int .i64 x.call, .int .i64 x.since, .int .i64 x.dead]) (.agg #[.int .i64 y.call, .int .i64 y.since, .int .i64 y.dead])).run Try.prog w = .ok (.bool (decide (x ≠ y))) w := by
  obtain ⟨a, b, c⟩ := x
  obtain ⟨d, e, f⟩ := y
  rw [run_neq_struct]
  by_cases h0 : a = d <;> by_cases h1 : b = e <;> by_cases h2 : c = f <;> simp [go_sem, h0, h1, h2]
theorem eql_wt (w : World) (x y : Wt) : (binOp .eql 29 (.agg #[.int .i64 x.call, .int .i64 x.since, .int .i64 x.dead]) (.agg #[.int .i64 y.call, .int .i64 y.since, .int .i64 y.dead])).run Try.prog w = .ok (.bool (decide (x = y))) w := by
  obtain ⟨a, b, c⟩ := x
  obtain ⟨d, e, f⟩ := y
  rw [run_eql_struct]
  by_cases h0 : a = d <;> by_cases h1 : b = e <;> by_cases h2 : c = f <;> simp [go_sem, h0, h1, h2]

theorem take_all_eq {α : Type} {xs ys : List α} (h : xs.length = ys.length) (ht : xs.take xs.length = ys.take xs.length) : xs = ys := by
  rw [List.take_length, h, List.take_length] at ht; exact ht
theorem take_step {α : Type} {xs ys : List α} {k : Nat} {x : α} (ht : xs.take k = ys.take k) (hx : xs[k]? = some x) (hy : ys[k]? = some x) : xs.take (k + 1) = ys.take (k + 1) := by
  rw [List.take_add_one, List.take_add_one, ht, hx, hy]

set_option maxHeartbeats 800000 in
theorem sameList_any (A A' : Option Addr) (c c' : Nat) (xs ys : List Wt) (w : World) {S S' : Nat → Prop} (h : Arr w S A c xs) (h' : Arr w S' A' c' ys) :
    Calls Try.prog 31 #[.slice A xs.length c, .slice A' ys.length c'] w fun e w' => e = .returned (.bool (decide (xs = ys))) ∧ Below w.heap.size w w' := by
  have hm := h.max'
  have hm' := h'.max'
  have H := Lib.hid h
  have H' := Lib.hid h'
  clear h h'
  by_cases hl : xs.length = ys.length
  · have hb : ((xs.length : Int) != (ys.length : Int)) = false := by simp [hl]
    have HL := Lib.hid hl
    clear hl
    go_enter Try.func31, Try.ntmps31
    go_wp2
    go_loopw [5] (fun i wr => ∃ k : Nat, k ≤ xs.length ∧ i = .int .i64 k ∧ xs.take k = ys.take k ∧ ∃ n, w.drewN n = wr) (fun i _ => xs.length - (intOf i).toNat)
    case atStart => exact ⟨0, Nat.zero_le _, rfl, rfl, 0, rfl⟩
    case round =>
      obtain ⟨k, hk, rfl, ht, n, rfl⟩ := hrel
      have HT := Lib.hid ht
      clear ht
      by_cases hlt : k < xs.length
      · have hlt' : k < ys.length := by have := HL.out; omega
        obtain ⟨x, hx⟩ := some_lt hlt
        obtain ⟨y, hy⟩ := some_lt hlt'
        obtain ⟨b, o, rfl, hbl, h1, h2, h3⟩ := Wt.at_ H.out hx
        obtain ⟨b', o', rfl, hbl', h1', h2', h3'⟩ := Wt.at_ H'.out hy
        have HX := Lib.hid hx
        have HY := Lib.hid hy
        have hq := fun w => neq_wt w x y
        clear hx hy
        by_cases hxy : x = y
        · subst hxy
          have hnn : (!decide (x = x)) = false := by simp
          go_wp2
          go_quiet (fail)
          go_wp2
          go_roundw
          case rel => exact ⟨k + 1, by omega, by go_num, take_step HT.out HX.out HY.out, _, rfl⟩
          case measure => simp [intOf]; omega
        · go_wp2
          go_quiet (fail)
          go_wp2
          go_ret
          refine ⟨ret_bool ?_, bdrewN (bdrewN (Below.refl _ _) _) _⟩
          have : ¬ xs = ys := fun e => hxy (by have a := HX.out; have b := HY.out; rw [e] at a; rw [a] at b; exact Option.some.inj b)
          simp [this]
      · obtain rfl : k = xs.length := by omega
        go_wp2
        go_ret
        exact ⟨ret_bool (by simp [take_all_eq HL.out HT.out]), bdrewN (Below.refl _ _) _⟩
  · have hb : ((xs.length : Int) != (ys.length : Int)) = true := by simp; omega
    go_enter Try.func31, Try.ntmps31
    go_wp2
    go_ret
    refine ⟨ret_bool ?_, Below.refl _ _⟩
    have : ¬ xs = ys := fun e => hl (by rw [e])
    simp [this]

theorem ready_any (s : St) (A : Option Addr) (c b : Nat) (now : Int) (w : World) {S : Nat → Prop} (h : Arr w S A c s.ws) (h0 : w.cell? ⟨b, 0, none⟩ = some (.int .i64 s.most)) (h1 : w.cell? ⟨b, 1, none⟩ = some (.slice A s.ws.length c)) :
    Calls Try.prog 27 #[.pointer (some ⟨b, 0, none⟩), .int .i64 now] w fun e w' => e = .returned (.int .i64 (rdy s now)) ∧ Below w.heap.size w w' := by
  have hm := h.max'
  have hle := h.le
  have hlb := World.block_lt_of_cell? w _ h0
  simp only at hlb
  have H := Lib.hid h
  clear h
  by_cases hc : chk s = 0
  · have HC := Lib.hid hc
    clear hc
    by_cases hz : 0 < s.ws.length
    · obtain ⟨y, hy⟩ := some_lt (show s.ws.length - 1 < s.ws.length by omega)
      obtain ⟨b', o', rfl, hbl, j1, j2, j3⟩ := Wt.at_ H.out hy
      have HB := Lib.hid (rdy_bad (now := now) (y := y) HC.out hy)
      have HO := Lib.hid (rdy_ok (now := now) (y := y) HC.out hz hy)
      have hzi : (0 : Int) < (s.ws.length : Int) := by omega
      clear hy
      go_enter Try.func27, Try.ntmps27
      go_wp2_with (go_at_call 22; refine (check_any s _ c _ H.out).mono ?_; rw [HC.out]; rintro e w1 ⟨rfl, hb1⟩; have g0 := (hb1.cell (p := ⟨b, 0, none⟩) hlb).trans h0; have g1 := (hb1.cell (p := ⟨b, 1, none⟩) hlb).trans h1; have g2 := (hb1.cell (p := ⟨b', _, none⟩) hbl).trans j2)
      all_goals
        go_ret
        first
          | exact ⟨ret_int (HB.out (by omega)).symm, hb1⟩
          | exact ⟨ret_int (HO.out (by omega)).symm, hb1⟩
    · have HB := Lib.hid (rdy_bad0 (now := now) HC.out (by omega))
      have HO := Lib.hid (rdy_ok0 (now := now) HC.out (by omega))
      have hzi : ¬ (0 : Int) < (s.ws.length : Int) := by omega
      go_enter Try.func27, Try.ntmps27
      go_wp2_with (go_at_call 22; refine (check_any s _ c _ H.out).mono ?_; rw [HC.out]; rintro e w1 ⟨rfl, hb1⟩; have g0 := (hb1.cell (p := ⟨b, 0, none⟩) hlb).trans h0; have g1 := (hb1.cell (p := ⟨b, 1, none⟩) hlb).trans h1)
      all_goals
        go_ret
        first
          | exact ⟨ret_int (HB.out (by omega)).symm, hb1⟩
          | exact ⟨ret_int (HO.out (by omega)).symm, hb1⟩
  · have hcb : (chk s != 0) = true := by simp [hc]
    have hr : rdy s now = chk s := by simp [rdy, hc]
    have HR := Lib.hid hr
    clear hr hc
    go_enter Try.func27, Try.ntmps27
    go_wp2_with (go_at_call 22; refine (check_any s A c _ H.out).mono ?_; rintro e w1 ⟨rfl, hb1⟩)
    go_ret
    exact ⟨ret_int HR.out.symm, hb1⟩

theorem zero29 (w : World) (z : Value) (h : ∃ i, Try.prog.info? 29 = some i ∧ i.zero = some z) : (zeroValue 29).run Try.prog w = .ok z w ∧ ∀ u ∈ z.cells, u.oneCell' = true := by
  obtain ⟨i, hi, hz⟩ := h
  have h1 : (Try.prog.info? 29).bind (·.zero) = some (.agg #[.int .i64 0, .int .i64 0, .int .i64 0]) := by kernel_rfl
  rw [hi] at h1
  obtain rfl : z = .agg #[.int .i64 0, .int .i64 0, .int .i64 0] := Option.some.inj (hz.symm.trans h1)
  exact ⟨by kernel_rfl, fun u hu => by simp [Value.cells] at hu; subst hu; rfl⟩

set_option maxHeartbeats 800000 in
theorem delete_any (base g cap i : Nat) (xs : List Wt) (w : World) (hown : Own w base 29 (.slice (some ⟨g, 0, none⟩) xs.length cap) xs) (hi : i < xs.length) (hl : xs.length < 2147483648) (hb : base ≤ w.heap.size) :
    Calls Try.prog 51 #[.slice (some ⟨g, 0, none⟩) xs.length cap, .int .i64 i, .int .i64 (i + 1)] w fun e w' => ∃ v, e = .returned v ∧ Own w' base 29 v (xs.eraseIdx i) ∧ Below base w w' := by
  obtain ⟨g', cap', hv, hg, hgl, hcap, hmax⟩ := hown.form (by omega)
  injection hv with e1 e2 e3
  injection e1 with e1
  injection e1 with e1
  subst e1 e3
  have HO := Lib.hid hown
  have hm : cap ≤ 9223372036854775807 := by unfold maxLen at hmax; omega
  have hii : ((i : Int) == (i : Int) + 1) = false := by simp; omega
  have i0 : (0 : Int) ≤ (i : Int) := by omega
  have i1 : (i : Int) + 1 ≤ (xs.length : Int) := by omega
  have i2 : (xs.length : Int) ≤ (cap : Int) := by omega
  clear hown hmax
  go_enter Try.func51, Try.ntmps51
  go_wp2
  have i3 : ((i : Int) + 1).toNat = i + 1 := by omega
  have i4 : (0 : Int) ≤ (i : Int) + 1 := by omega
  have i5 : (i : Int) ≤ (cap : Int) := by omega
  go_still_tail 6, (by kernel_rfl)
  change wpList _ _ _ _ _ w.drew
  refine wpList_cutout rfl _ _ elt22 rfl base g cap i _ _ xs HO.out.drew hi rfl _ rfl (by omega) ?_ ?_ ?_
  · intro h0
    rw [if_neg (by omega)]
    rfl
  · split <;> simp
  · intro w1 h1 hg1
    have hlen : (xs.eraseIdx i).length = xs.length - 1 := by rw [List.length_eraseIdx, if_pos hi]
    have HL := Lib.hid hlen
    clear hlen
    go_wp2_with (with_reducible refine wpList_clear rfl _ elt22 (zero29 _) rfl base g cap (xs.length - 1) _ _ _ h1 ?_ ?_ _ rfl ?_ ?_)
    · exact HL.out.symm
    · omega
    · intro _; rfl
    all_goals
      intro w2 h2 hg2
      go_wp2
      go_ret
      refine ⟨_, rfl, h2, (((Below.refl base w).drew).grown hg1 (by simpa using hb) (fun k hk => ?_)).grown hg2 (by have := hg1.size; simp at this; omega) (fun k hk => ?_)⟩
      · cases hk; exact hg
      · cases hk; exact hg

theorem wt_new {w : World} {t : TypeId} (x : Wt) : ∀ j u, (flatWt.enc x)[j]? = some u → (w.alloc (.cells #[.int .i64 x.call, .int .i64 x.since, .int .i64 x.dead] t)).cell? ((⟨w.heap.size, 0, none⟩ : Addr).add j) = some u := by
  intro j u hu
  rw [addr0, World.cell?_alloc_new]
  rw [← hu]
  show _ = [Value.int IntKind.i64 x.call, Value.int IntKind.i64 x.since, Value.int IntKind.i64 x.dead][j]?
  simp

/-- What holds of the two rows of divide after k rounds. -/
structure DivR (p : Nat → Wt → Bool) (xs : List Wt) (Inv : Nat → World → Prop) (B : Nat) (v1 v2 : Value) (k : Nat) (w : World) : Prop where
  inv : Inv k w
  size : B ≤ w.heap.size
  own1 : Own w B 29 v1 (sel p xs k)
  own2 : Own w B 29 v2 (sel (fun i x => !p i x) xs k)
  apart : v1.ownBlock = none ∨ v1.ownBlock ≠ v2.ownBlock

theorem own_sep {w w' : World} {base : Nat} {v : Value} {xs : List Wt} (h : Own w base 29 v xs) (hs : ∀ g, base ≤ g → g < w.heap.size → w'.heap[g]? = w.heap[g]?) : Own w' base 29 v xs := by
  refine ⟨h.1, ?_⟩
  rcases h.2 with hn | ⟨g, cap, cur, rfl, h1, h2, r⟩
  · exact .inl hn
  · exact .inr ⟨g, cap, cur, rfl, h1, (hs g h1 (Array.getElem?_eq_some_iff.1 h2).1).trans h2, r⟩

section
variable {p : Nat → Wt → Bool} {xs : List Wt} {Inv : Nat → World → Prop} {B k : Nat} {v1 v2 v' : Value} {w w1 w2 w3 : World} {x : Wt}
theorem DivR.yes (h1 : Own w1 B 29 v1 (sel p xs k)) (h2 : Own w1 B 29 v2 (sel (fun i x => !p i x) xs k)) (ha : v1.ownBlock = none ∨ v1.ownBlock ≠ v2.ownBlock) (hi : Inv (k + 1) w1) (hB : B ≤ w1.heap.size)
    (hkeep : ∀ k w w', Inv k w → B ≤ w.heap.size → Below B w w' → Inv k w') (o : Obj) (hx : xs[k]? = some x) (hp : p k x = true)
    (hown : Own w2 B 29 v' (sel p xs k ++ [x])) (hg : (w1.alloc o).grownBy w2 v1.ownBlock) (hat : v'.ownBlock = v1.ownBlock ∨ v'.ownBlock = some (w1.alloc o).heap.size) : DivR p xs Inv B v' v2 (k + 1) w2 := by
  have hb : Below B w1 w2 := ((Below.refl _ _).alloc hB _).grown hg (by simp; omega) fun g hg => (h1.lt g hg).1
  refine ⟨hkeep _ _ _ hi hB hb, Nat.le_trans hB hb.size, by rw [sel_yes hx hp]; exact hown, ?_, ?_⟩
  · have hn : (fun i x => !p i x) k x = false := by simp [hp]
    rw [sel_no (p := fun i x => !p i x) hx hn]
    exact (h2.alloc o).kept hg (by
      cases he : v2.ownBlock with
      | none => exact .inl rfl
      | some g => right; rcases ha with h | h
                  · rw [h]; simp
                  · exact fun e => h (by rw [he]; exact e.symm))
  · rcases hat with h | h
    · rw [h]; exact ha
    · right; rw [h]; intro e
      have := (h2.lt _ e.symm).2
      simp at this; omega
theorem DivR.no (h1 : Own w1 B 29 v1 (sel p xs k)) (h2 : Own w1 B 29 v2 (sel (fun i x => !p i x) xs k)) (ha : v1.ownBlock = none ∨ v1.ownBlock ≠ v2.ownBlock) (hi : Inv (k + 1) w1) (hB : B ≤ w1.heap.size)
    (hkeep : ∀ k w w', Inv k w → B ≤ w.heap.size → Below B w w' → Inv k w') (o : Obj) (hx : xs[k]? = some x) (hp : p k x = false)
    (hown : Own w2 B 29 v' (sel (fun i x => !p i x) xs k ++ [x])) (hg : (w1.alloc o).grownBy w2 v2.ownBlock) (hat : v'.ownBlock = v2.ownBlock ∨ v'.ownBlock = some (w1.alloc o).heap.size) : DivR p xs Inv B v1 v' (k + 1) w2 := by
  have hb : Below B w1 w2 := ((Below.refl _ _).alloc hB _).grown hg (by simp; omega) fun g hg => (h2.lt g hg).1
  have hn : (fun i x => !p i x) k x = true := by simp [hp]
  refine ⟨hkeep _ _ _ hi hB hb, Nat.le_trans hB hb.size, ?_, by rw [sel_yes (p := fun i x => !p i x) hx hn]; exact hown, ?_⟩
  · rw [sel_no hx hp]
    exact (h1.alloc o).kept hg ha
  · rcases hat with h | h
    · rw [h]; exact ha
    · rw [h]
      cases he : v1.ownBlock with
      | none => exact .inl rfl
      | some g => right; intro e
                  have := (h1.lt g he).2
                  injection e with e
                  simp at e; omega
end

set_option maxHeartbeats 1600000 in
theorem divide_any (fid : Nat) (cap : Array Value) (p : Nat → Wt → Bool) (Inv : Nat → World → Prop) {S : Nat → Prop} (A : Option Addr) (c : Nat) (xs : List Wt) (w : World) (he : Enters fid cap) (hl : xs.length < 2147483648)
    (h0 : Inv 0 w) (hA : ∀ k w', Inv k w' → Arr w' S A c xs) (hkeep : ∀ k w1 w2, Inv k w1 → w.heap.size ≤ w1.heap.size → Below w.heap.size w1 w2 → Inv k w2)
    (hcall : ∀ k x w', Inv k w' → w.heap.size ≤ w'.heap.size → xs[k]? = some x → Calls Try.prog fid (#[Wt.val x] ++ cap) w' fun e w'' => e = .returned (.bool (p k x)) ∧ Inv (k + 1) w'' ∧ w'.heap.size ≤ w''.heap.size ∧ ∀ g, w.heap.size ≤ g → g < w'.heap.size → w''.heap[g]? = w'.heap[g]?) :
    Calls Try.prog 32 #[.slice A xs.length c, .func (.func fid) #[] cap] w fun e w' => ∃ v1 v2, e = .returned (.tuple #[v1, v2]) ∧ DivR p xs Inv w.heap.size v1 v2 xs.length w' := by
  have hm : xs.length ≤ 9223372036854775807 := by omega
  have H0 := Lib.hid h0
  have HA := Lib.hid hA
  have HK := Lib.hid hkeep
  have HC := Lib.hid hcall
  unfold Enters at he
  clear h0 hA hkeep hcall
  go_enter Try.func32, Try.ntmps32
  go_wp2
  go_loopw [4, 5, 10] (fun v1 v2 i wr => ∃ k : Nat, k ≤ xs.length ∧ i = .int .i64 k ∧ DivR p xs Inv w.heap.size v1 v2 k wr) (fun _ _ i _ => xs.length - (intOf i).toNat)
  case atStart => exact ⟨0, Nat.zero_le _, rfl, H0.out, Nat.le_refl _, Own.nil _ _ _, Own.nil _ _ _, .inl rfl⟩
  case round =>
    rename_i v1 v2 _
    obtain ⟨k, hk, rfl, hD⟩ := hrel
    have HD := Lib.hid hD
    by_cases hlt : k < xs.length
    · obtain ⟨x, hx⟩ := some_lt hlt
      obtain ⟨b, o, rfl, _, h1, h2, h3⟩ := Wt.at_ (HA.out _ _ hD.inv) hx
      have HX := Lib.hid hx
      clear hx hD
      go_wp2_with fail
      refine (HC.out k x _ (HK.out _ _ _ HD.out.inv HD.out.size ((Below.refl _ _).alloc HD.out.size _)) (Nat.le_trans HD.out.size (by simp)) HX.out).mono ?_
      rintro e w1 ⟨rfl, hi1, hs1, hsep⟩
      have o1 := own_sep (HD.out.own1.alloc (.cells #[.int .i64 x.call, .int .i64 x.since, .int .i64 x.dead] 29)) hsep
      have o2 := own_sep (HD.out.own2.alloc (.cells #[.int .i64 x.call, .int .i64 x.since, .int .i64 x.dead] 29)) hsep
      have hbk := hsep wr.heap.size HD.out.size (by simp)
      have c0 : w1.cell? ⟨wr.heap.size, 0, none⟩ = some (.int .i64 x.call) := (World.cell?_of_block (a := ⟨wr.heap.size, 0, none⟩) hbk).trans (by simp)
      have c1 : w1.cell? ⟨wr.heap.size, 1, none⟩ = some (.int .i64 x.since) := (World.cell?_of_block (a := ⟨wr.heap.size, 1, none⟩) hbk).trans (by simp)
      have c2 : w1.cell? ⟨wr.heap.size, 2, none⟩ = some (.int .i64 x.dead) := (World.cell?_of_block (a := ⟨wr.heap.size, 2, none⟩) hbk).trans (by simp)
      have hs2 : w.heap.size ≤ w1.heap.size := by have := HD.out.size; simp at hs1; omega
      have hlen1 := sel_len p xs k
      have hlen2 := sel_len (fun i x => !p i x) xs k
      clear hsep hbk
      cases hp : p k x
      · go_wp2_with (at_builtin; refine wpList_push rfl _ _ elt22 rfl w.heap.size _ _ x rfl (o2.alloc _) ⟨w1.heap.size, 0, none⟩ 1 rfl (wt_new x) ?_ ?_ ?_; omega; simp; omega; intro v' w2 hown hg hat)
        go_roundw
        case rel => exact ⟨k + 1, by omega, by go_num, DivR.no o1 o2 HD.out.apart hi1 hs2 HK.out _ HX.out hp hown hg hat⟩
        case measure => simp [intOf]; omega
      · go_wp2_with (at_builtin; refine wpList_push rfl _ _ elt22 rfl w.heap.size _ _ x rfl (o1.alloc _) ⟨w1.heap.size, 0, none⟩ 1 rfl (wt_new x) ?_ ?_ ?_; omega; simp; omega; intro v' w2 hown hg hat)
        go_roundw
        case rel => exact ⟨k + 1, by omega, by go_num, DivR.yes o1 o2 HD.out.apart hi1 hs2 HK.out _ HX.out hp hown hg hat⟩
        case measure => simp [intOf]; omega
    · obtain rfl : k = xs.length := by omega
      clear hD
      go_wp2
      go_ret2
      exact ⟨_, _, rfl, HD.out⟩
end Go.Proofs.Ytajkljbcfgegoaa
