/- Walks: out, Serve, Cancel. -/
import Derived.Test.YtajkljbcfgegoaaW4
namespace Go.Proofs.Ytajkljbcfgegoaa
open Go.RowKit

/-- A state and one value more are handed back; two values more; a list and a value more. -/
def RSt2 (S : Nat → Prop) (r : St) (v1 : Value) (w : World) (e : Ending) (w' : World) : Prop :=
  ∃ (A : Option Addr) (c : Nat), e = .returned (.tuple #[.agg #[.int .i64 r.most, .slice A r.ws.length c], v1]) ∧ Arr w' (fun b => S b ∨ w.heap.size ≤ b) A c r.ws ∧ Below w.heap.size w w'
def RSt3 (S : Nat → Prop) (r : St) (v1 v2 : Value) (w : World) (e : Ending) (w' : World) : Prop :=
  ∃ (A : Option Addr) (c : Nat), e = .returned (.tuple #[.agg #[.int .i64 r.most, .slice A r.ws.length c], v1, v2]) ∧ Arr w' (fun b => S b ∨ w.heap.size ≤ b) A c r.ws ∧ Below w.heap.size w w'
def RStL (S : Nat → Prop) (r : St) (l : List Wt) (v2 : Value) (w : World) (e : Ending) (w' : World) : Prop :=
  ∃ (A : Option Addr) (c : Nat) (A' : Option Addr) (c' : Nat), e = .returned (.tuple #[.agg #[.int .i64 r.most, .slice A r.ws.length c], .slice A' l.length c', v2]) ∧ Arr w' (fun b => S b ∨ w.heap.size ≤ b) A c r.ws ∧ Arr w' (fun b => S b ∨ w.heap.size ≤ b) A' c' l ∧ Below w.heap.size w w'

section
variable {α : Type} [L : Lay α] {w w' : World} {S S' : Nat → Prop} {c m n : Nat} {A : Option Addr} {xs : List α}
theorem Arr.weak (h : Arr w (fun b => S b ∨ n ≤ b) A c xs) (hn : m ≤ n) : Arr w (fun b => S b ∨ m ≤ b) A c xs :=
  h.mono fun b hb => by rcases hb with hb | hb
                        · exact .inl hb
                        · exact .inr (by omega)
theorem Arr.start (h : Arr w S A c xs) : Arr w (fun b => S b ∨ n ≤ b) A c xs := h.mono fun _ hb => .inl hb
theorem Arr.setAt (h : Arr w (fun b => S b ∨ n ≤ b) A c xs) {p : Addr} (h1 : ¬ S p.block) (h2 : p.block < n) (u : Value) : Arr (w.setCell p u) (fun b => S b ∨ n ≤ b) A c xs :=
  h.setCell (fun hb => by rcases hb with hb | hb
                          · exact h1 hb
                          · omega) u
end

theorem out_neg (s : St) (A : Option Addr) (c : Nat) (i : Int) (w : World) {S : Nat → Prop} (h : Arr w S A c s.ws) (hi : i < 0) :
    Calls Try.prog 28 #[.agg #[.int .i64 s.most, .slice A s.ws.length c], .int .i64 i] w (RSt3 S s (Wt.val ⟨0, 0, 0⟩) (.int .i64 4) w) := by
  have H := Lib.hid h
  clear h
  go_enter Try.func28, Try.ntmps28
  go_wp2
  have hb := (al3 w (.cells #[.int .i64 s.most, .slice A s.ws.length c] 24) (.cells #[.int .i64 s.most, .slice A s.ws.length c] 24) (.cells #[.int .i64 0, .int .i64 0, .int .i64 0] 29)).2.2.2.2
  refine bodyPost_ret (v := .tuple #[.agg #[.int .i64 s.most, .slice A s.ws.length c], Wt.val ⟨0, 0, 0⟩, .int .i64 4]) (by simp [results, Try.results28, go_sem, Wt.val]) rfl ⟨_, _, rfl, (H.out.later hb).mono fun _ h => .inl h, hb⟩

set_option maxHeartbeats 1600000 in
theorem out_pos (s : St) (A : Option Addr) (c i : Nat) (w : World) {S : Nat → Prop} (h : Arr w S A c s.ws) (x : Wt) (hx : s.ws[i]? = some x) (hl : s.ws.length < 2147483648) :
    Calls Try.prog 28 #[.agg #[.int .i64 s.most, .slice A s.ws.length c], .int .i64 i] w (RSt3 S ⟨s.most, s.ws.eraseIdx i⟩ x.val (.int .i64 0) w) := by
  have hi := lt_some hx
  have hm := h.max'
  have i0 : (0 : Int) ≤ (i : Int) := by omega
  have i1 : ¬ (i : Int) < 0 := by omega
  have i2 : (i : Int) < (s.ws.length : Int) := by omega
  obtain ⟨b, o, rfl, hbl, h1, h2, h3⟩ := Wt.at_ h hx
  have HAL := Lib.hid (al4 w (.cells #[.int .i64 s.most, .slice (some ⟨b, o, none⟩) s.ws.length c] 24) (.cells #[.int .i64 0, .slice none 0 0] 24) (.cells #[.int .i64 0, .int .i64 0, .int .i64 0] 29) (.cells #[.int .i64 x.call, .int .i64 x.since, .int .i64 x.dead] 29))
  have H := Lib.hid (h.later HAL.out.2.2.2.2.2)
  have hbl1 : b < w.heap.size + 1 := by omega
  have hbl2 : b < w.heap.size + 1 + 1 := by omega
  clear h hx
  go_enter Try.func28, Try.ntmps28
  go_wp2_with fail
  refine (clone_any _ c s.ws _ hl H.out).mono ?_
  rintro e w1 ⟨v1, rfl, hown1, hb1⟩
  obtain ⟨g, cap, rfl, hg, hgl, hcap, hmax⟩ := hown1.form (by omega)
  have HO1 := Lib.hid hown1
  clear hown1
  have hsz := HAL.out.2.2.2.2.1
  have Hsz := Lib.hid hsz
  have hs1 := hb1.size
  rw [hsz] at hs1
  clear hsz
  go_wp2_with fail
  refine (delete_any _ g cap i s.ws _ HO1.out hi hl hb1.size).mono ?_
  rintro e w2 ⟨v2, rfl, hown2, hb2⟩
  obtain ⟨A2, c2, rfl, ha2⟩ := hown2.arr
  have hbw : Below (w.heap.size + 1 + 1 + 1 + 1) _ w2 := (hb1.mono (by rw [Hsz.out]; exact Nat.le_refl _)).trans (hb2.mono (by rw [Hsz.out]; exact Nat.le_refl _))
  have B0 : Blk w2 w.heap.size 24 _ := (hbw.block _ (by omega)).trans HAL.out.1
  have B1 : Blk w2 (w.heap.size + 1) 24 _ := (hbw.block _ (by omega)).trans HAL.out.2.1
  have B2 : Blk w2 (w.heap.size + 1 + 1) 29 _ := (hbw.block _ (by omega)).trans HAL.out.2.2.1
  have B3 : Blk w2 (w.heap.size + 1 + 1 + 1) 29 _ := (hbw.block _ (by omega)).trans HAL.out.2.2.2.1
  have f0 := B0.cell
  have f1 := B1.cell
  have f2 := B2.cell
  have f3 := B3.cell
  have z0 := B0.frozen
  have z1 := B1.frozen
  have z2 := B2.frozen
  have HO2 := Lib.hid (hown2.mono (base' := w.heap.size + 1 + 1 + 1 + 1) (by rw [Hsz.out]; exact Nat.le_refl _))
  have hs2 := hbw.size
  clear hown2 ha2 B0 B1 B2 B3
  go_wp2
  go_region_held3 (fun w' => w'.cell? ⟨w.heap.size, 0, none⟩ = some (.int .i64 s.most) ∧ w'.cell? ⟨w.heap.size, 1, none⟩ = some (.slice A2 (s.ws.eraseIdx i).length c2) ∧ w'.cell? ⟨w.heap.size + 1 + 1 + 1, 0, none⟩ = some (.int .i64 x.call) ∧ w'.cell? ⟨w.heap.size + 1 + 1 + 1, 1, none⟩ = some (.int .i64 x.since) ∧ w'.cell? ⟨w.heap.size + 1 + 1 + 1, 2, none⟩ = some (.int .i64 x.dead)) (first | (refine ⟨?_, ?_, ?_, ?_, ?_⟩ <;> go_simp; done) | go_keep) (fail)
  go_wp2
  refine bodyPost_ret (v := .tuple #[.agg #[.int .i64 s.most, .slice A2 (s.ws.eraseIdx i).length c2], .agg #[.int .i64 x.call, .int .i64 x.since, .int .i64 x.dead], .int .i64 0]) (by simp [results, Try.results28, go_sem, f1, f2]) rfl ⟨_, _, rfl, ?_, ?_⟩
  · refine (Own.arr' (base := w.heap.size + 1 + 1 + 1 + 1) (e := 29) (n := (s.ws.eraseIdx i).length) ?_).mono fun b h => .inr (by omega)
    refine Own.drew ?_
    repeat ((with_reducible refine Own.set_ ?_ ?_ _); rotate_left; (dsimp only; omega))
    exact HO2.out
  · refine Below.drew ?_
    repeat ((with_reducible refine Below.setCell ?_ ?_ _); rotate_left; (dsimp only; omega))
    exact HAL.out.2.2.2.2.2.trans (hbw.mono (by omega))

/-- The world in which Serve and Cancel go to work. -/
def W4 (w : World) (o0 o1 o2 o3 : Obj) : World := (((w.alloc o0).alloc o1).alloc o2).alloc o3

theorem outAt_neg {s : St} {i : Int} (h : i < 0) : outAt s i = (s, ⟨0, 0, 0⟩, 4) := by simp [outAt, h]
theorem outAt_pos {s : St} {i : Nat} {x : Wt} (h : s.ws[i]? = some x) : outAt s (i : Int) = (⟨s.most, s.ws.eraseIdx i⟩, x, 0) := by
  have : ¬ (i : Int) < 0 := by omega
  simp only [outAt, this, if_false, Int.toNat_natCast, getD_some h]

theorem out_any (s : St) (A : Option Addr) (c : Nat) (i : Int) (w : World) {S : Nat → Prop} (h : Arr w S A c s.ws) (hi : i < s.ws.length) (hl : s.ws.length < 2147483648) :
    Calls Try.prog 28 #[.agg #[.int .i64 s.most, .slice A s.ws.length c], .int .i64 i] w (RSt3 S (outAt s i).1 (outAt s i).2.1.val (.int .i64 (outAt s i).2.2) w) := by
  by_cases h0 : i < 0
  · rw [outAt_neg h0]; exact out_neg s A c i w h h0
  · obtain ⟨k, rfl⟩ := Int.eq_ofNat_of_zero_le (show 0 ≤ i by omega)
    obtain ⟨x, hx⟩ := some_lt (show k < s.ws.length by omega)
    rw [outAt_pos hx]; exact out_pos s A c k w h x hx hl

theorem out_is (s : St) (A : Option Addr) (c : Nat) (i : Int) (w : World) {S : Nat → Prop} (h : Arr w S A c s.ws) (hi : i < s.ws.length) (hl : s.ws.length < 2147483648) (t : St) (x : Wt) (k : Int) (hr : outAt s i = (t, x, k)) :
    Calls Try.prog 28 #[.agg #[.int .i64 s.most, .slice A s.ws.length c], .int .i64 i] w (RSt3 S t x.val (.int .i64 k) w) := by
  have := out_any s A c i w h hi hl
  rw [hr] at this
  exact this

set_option maxHeartbeats 400000 in
theorem serve_any (s : St) (A : Option Addr) (c : Nat) (now : Int) (w : World) {S : Nat → Prop} (h : Arr w S A c s.ws) (hS : ∀ b, S b → b < w.heap.size) (hl : s.ws.length < 2147483648) :
    Calls Try.prog 12 #[.agg #[.int .i64 s.most, .slice A s.ws.length c], .int .i64 now] w (RSt3 S (serve s now).1 (serve s now).2.1.val (.int .i64 (serve s now).2.2) w) := by
  have HAL := Lib.hid (al4 w (.cells #[.int .i64 s.most, .slice A s.ws.length c] 24) (.cells #[.int .i64 now] 2) (.cells #[.int .i64 0, .slice none 0 0] 24) (.cells #[.int .i64 0, .int .i64 0, .int .i64 0] 29))
  have H := Lib.hid (h.later HAL.out.2.2.2.2.2)
  have HS := Lib.hid hS
  clear h hS
  go_enter Try.func12, Try.ntmps12
  go_wp2_with fail
  refine (ready_any s A c w.heap.size now _ H.out (by go_simp) (by go_simp)).mono ?_
  rintro e w1 ⟨rfl, hb1⟩
  have hbw : Below (w.heap.size + 1 + 1 + 1 + 1) _ w1 := hb1.mono (by rw [HAL.out.2.2.2.2.1]; exact Nat.le_refl _)
  have hs1 := hbw.size
  rw [HAL.out.2.2.2.2.1] at hs1
  have B0 : Blk w1 w.heap.size 24 _ := (hbw.block _ (by omega)).trans HAL.out.1
  have B1 : Blk w1 (w.heap.size + 1) 2 _ := (hbw.block _ (by omega)).trans HAL.out.2.1
  have B2 : Blk w1 (w.heap.size + 1 + 1) 24 _ := (hbw.block _ (by omega)).trans HAL.out.2.2.1
  have B3 : Blk w1 (w.heap.size + 1 + 1 + 1) 29 _ := (hbw.block _ (by omega)).trans HAL.out.2.2.2.1
  have f0 := B0.cell
  have f2 := B2.cell
  have f3 := B3.cell
  have z2 := B2.frozen
  have z3 := B3.frozen
  have HW := Lib.hid (HAL.out.2.2.2.2.2.trans (hb1.mono (by rw [HAL.out.2.2.2.2.1]; omega)))
  have H1 := Lib.hid (H.out.later hb1)
  have HB0 := Lib.hid B0
  have HB1 := Lib.hid B1
  have HB2 := Lib.hid B2
  have HB3 := Lib.hid B3
  clear B0 B1 B2 B3 hbw hb1
  by_cases hr : rdy s now = 0
  · have hsv : serve s now = outAt s (idx (fun x => decide (now < x.dead)) s.ws 0) := by simp [serve, hr]
    obtain ⟨t, x, k, ht⟩ : ∃ t x k, outAt s (idx (fun x => decide (now < x.dead)) s.ws 0) = (t, x, k) := ⟨_, _, _, rfl⟩
    have HT := Lib.hid ht
    have HSV := Lib.hid (hsv.trans ht)
    rw [hr]
    clear hsv hr ht
    go_wp2
    go_region_held3 (fun w' => w'.cell? ⟨w.heap.size, 0, none⟩ = some (.int .i64 s.most) ∧ w'.cell? ⟨w.heap.size, 1, none⟩ = some (.slice A s.ws.length c)) (first | (refine ⟨?_, ?_⟩ <;> go_simp; done) | go_keep)
      (first
       | (go_at_call 29; refine (indexFunc_any (S := S) 30 #[.pointer (some ⟨w.heap.size + 1, 0, none⟩)] (fun x => decide (now < x.dead)) A c s.ws _ ?_ (enters30 _) ?_).mono ?_; exact H1.out.drew; (intro w' x hb _; exact later_any 30 (.inl rfl) x _ now w' ((hb.cell (p := ⟨w.heap.size + 1, 0, none⟩) HB1.out.drew.lt).trans (HB1.out.drew.cell 0))); rintro e w2 ⟨rfl, hb2⟩; have e0 := (HB0.out.drew.later hb2).cell)
       | (go_at_call 28; refine (out_is (S := S) s A c _ _ ?_ ?_ hl t x k HT.out).mono ?_; exact H1.out.drew.later hb2; (have := idx_range (fun x => decide (now < x.dead)) s.ws 0; omega); rintro e w3 ⟨A3, c3, rfl, ha3, hb3⟩; unfold Wt.val; have e1 := ((HB0.out.drew.later hb2).later hb3).cell; have e2 := ((HB2.out.drew.later hb2).later hb3).cell; have e3 := ((HB3.out.drew.later hb2).later hb3).cell; have y2 := ((HB2.out.drew.later hb2).later hb3).frozen; have y3 := ((HB3.out.drew.later hb2).later hb3).frozen))
    have hs2 := hb2.size
    have hs3 := hb3.size
    simp only [World.size_drew] at hs2
    go_wp2
    refine bodyPost_ret (v := .tuple #[.agg #[.int .i64 t.most, .slice A3 t.ws.length c3], .agg #[.int .i64 x.call, .int .i64 x.since, .int .i64 x.dead], .int .i64 k]) (by simp [results, Try.results12, go_sem, e2, e3]) rfl ?_
    rw [HSV.out]
    show RSt3 S t x.val (.int .i64 k) w _ _
    refine ⟨A3, c3, rfl, ?_, ?_⟩
    · refine Arr.weak (n := w2.heap.size) ?_ (by omega)
      try (with_reducible refine Arr.drew ?_)
      repeat ((with_reducible refine Arr.setAt ?_ ?_ ?_ _); rotate_left; (exact fun h => absurd (HS.out _ h) (by dsimp only; omega)); (dsimp only; omega))
      exact ha3
    · try (with_reducible refine Below.drew ?_)
      repeat ((with_reducible refine Below.setCell ?_ ?_ _); rotate_left; (dsimp only; omega))
      exact bup (bup HW.out.drew hb2 (by simp only [World.size_drew]; omega)) hb3 (by omega)
  · have hrb : (rdy s now != 0) = true := by simp [hr]
    have hsv : serve s now = (s, ⟨0, 0, 0⟩, rdy s now) := by simp [serve, hr]
    have HSV := Lib.hid hsv
    clear hsv hr
    go_wp2
    refine bodyPost_ret (v := .tuple #[.agg #[.int .i64 s.most, .slice A s.ws.length c], Wt.val ⟨0, 0, 0⟩, .int .i64 (rdy s now)]) (by simp [results, Try.results12, go_sem, Wt.val, f2, f3]) rfl ?_
    rw [HSV.out]
    show RSt3 S s (Wt.val ⟨0, 0, 0⟩) (.int .i64 (rdy s now)) w _ _
    refine ⟨A, c, rfl, ?_, ?_⟩
    · refine Arr.weak (n := w1.heap.size) ?_ (by omega)
      repeat ((with_reducible refine Arr.setAt ?_ ?_ ?_ _); rotate_left; (exact fun h => absurd (HS.out _ h) (by dsimp only; omega)); (dsimp only; omega))
      exact H1.out.start
    · repeat ((with_reducible refine Below.setCell ?_ ?_ _); rotate_left; (dsimp only; omega))
      exact HW.out
end Go.Proofs.Ytajkljbcfgegoaa
