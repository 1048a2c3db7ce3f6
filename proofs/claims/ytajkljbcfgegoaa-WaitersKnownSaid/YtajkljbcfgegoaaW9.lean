/- Walk: the statement of the examples. -/
import Derived.Test.YtajkljbcfgegoaaW8
namespace Go.Proofs.Ytajkljbcfgegoaa
open Go.RowKit

theorem k1 : join ⟨3, [⟨1, 5, 20⟩, ⟨2, 5, 10⟩, ⟨3, 6, 1000000000001⟩]⟩ 2 6 9 = (⟨3, [⟨1, 5, 20⟩, ⟨2, 5, 10⟩, ⟨3, 6, 1000000000001⟩]⟩, 8) := by decide
theorem k2 : where_ ⟨3, [⟨1, 5, 20⟩, ⟨2, 5, 10⟩, ⟨3, 6, 1000000000001⟩]⟩ 3 = (2, 0) := by decide
theorem k3 : expire ⟨3, [⟨2, 5, 10⟩]⟩ 10 = (⟨3, []⟩, [⟨2, 5, 10⟩], 0) := by decide
theorem k4 : expire ⟨3, []⟩ 11 = (⟨3, []⟩, [], 0) := by decide
theorem k5 : serve ⟨3, []⟩ 11 = (⟨3, []⟩, ⟨0, 0, 0⟩, 4) := by decide
theorem place_lit (l : List Wt) (n : Nat) (most : Int) (A : Option Addr) (c : Nat) (k : Int) (w : World) {S : Nat → Prop} (r e : Int) (hn : l.length = n) (h : Arr w S A c l) (hj : where_ ⟨most, l⟩ k = (r, e)) :
    Calls Try.prog 18 #[.agg #[.int .i64 most, .slice A n c], .int .i64 k] w fun e' w' => e' = .returned (.tuple #[.int .i64 r, .int .i64 e]) ∧ Below w.heap.size w w' := by
  subst hn
  have := place_any ⟨most, l⟩ A c k w h
  rw [hj] at this
  exact this
theorem expire_lit (l : List Wt) (n : Nat) (most : Int) (A : Option Addr) (c : Nat) (now : Int) (w : World) {S : Nat → Prop} (t : St) (x : List Wt) (e : Int) (hn : l.length = n) (hn2 : n < 2147483648) (h : Arr w S A c l) (hS : ∀ b, S b → b < w.heap.size)
    (hj : expire ⟨most, l⟩ now = (t, x, e)) :
    Calls Try.prog 15 #[.agg #[.int .i64 most, .slice A n c], .int .i64 now] w (RStL S t x (.int .i64 e) w) := by
  subst hn
  exact expire_any ⟨most, l⟩ A c now w h hS hn2 t x e hj

set_option maxHeartbeats 1600000 in
theorem known_any (w : World) : Calls Try.prog 5 #[] w fun e w' => e = .returned (.bool true) ∧ Below w.heap.size w w' := by
  go_enter Try.func5, Try.ntmps5
  go_wp2_with fail
  refine (three_any w).mono ?_
  rintro e w1 ⟨A1, c1, rfl, ha1, hb1⟩
  have HA1 := Lib.hid ((ha1.bound (S' := fun b => b ≠ w1.heap.size ∧ b < w1.heap.size) fun _ _ h => by omega).alloc (.cells #[.int .i64 3, .slice A1 3 c1] 24))
  have hs1 := hb1.size
  clear ha1
  go_wp2_with fail
  refine (join_lit [⟨1, 5, 20⟩, ⟨2, 5, 10⟩, ⟨3, 6, 1000000000001⟩] 3 3 A1 c1 2 6 9 _ _ _ rfl (by omega) HA1.out (fun b h => by simp only [World.size_alloc]; omega) k1).mono ?_
  rintro e w2 ⟨A2, c2, rfl, ha2, hb2⟩
  have hs2 := hb2.size
  simp only [World.size_alloc] at hs2
  have HA2 := Lib.hid (((HA1.out.later hb2).bound (S' := fun b => b ≠ w1.heap.size ∧ b < w2.heap.size) fun _ h _ => by omega).alloc (.cells #[.int .i64 3, .slice A2 3 c2] 24))
  have HB2 := Lib.hid ((Blk.later (Blk.new w1 24 _) hb2).alloc (.cells #[.int .i64 3, .slice A2 3 c2] 24))
  have f2 := HB2.out.cell
  clear ha2
  go_wp2_with fail
  refine (place_lit [⟨1, 5, 20⟩, ⟨2, 5, 10⟩, ⟨3, 6, 1000000000001⟩] 3 3 A1 c1 3 _ _ _ rfl HA2.out k2).mono ?_
  rintro e w3 ⟨rfl, hb3⟩
  have hs3 := hb3.size
  simp only [World.size_alloc] at hs3
  have HA3 := Lib.hid ((HA2.out.later hb3).bound (S' := fun b => b ≠ w1.heap.size ∧ b < w3.heap.size) fun _ h _ => by omega)
  have HB3 := Lib.hid (Blk.later HB2.out hb3)
  have f3 := HB3.out.cell
  clear f2
  go_wp2_with fail
  refine (serve_lit [⟨1, 5, 20⟩, ⟨2, 5, 10⟩, ⟨3, 6, 1000000000001⟩] 3 3 A1 c1 9 _ _ _ _ rfl (by omega) HA3.out (fun b h => h.2) v1).mono ?_
  rintro e w4 ⟨A4, c4, rfl, ha4, hb4⟩
  unfold Wt.val
  have hs4 := hb4.size
  have HA4 := Lib.hid (ha4.bound (S' := fun b => b ≠ w1.heap.size ∧ b < w4.heap.size) fun _ h _ => by omega)
  have HB4 := Lib.hid (Blk.later HB3.out hb4)
  have hlt4 : w1.heap.size < w4.heap.size := by omega
  have f4 := HB4.out.cell
  have z4 := HB4.out.frozen
  have g4 := fun o => (HB4.out.alloc o).cell
  have y4 := fun o => (HB4.out.alloc o).frozen
  clear f3 ha4
  go_wp2_with fail
  refine (serve_lit [⟨2, 5, 10⟩, ⟨3, 6, 1000000000001⟩] 2 3 A4 c4 10 _ _ _ _ rfl (by omega) ((HA4.out.two (fun h => h.1 rfl) _ _).alloc _) (fun b h => by simp only [World.size_alloc, size_two]; omega) v2).mono ?_
  rintro e w5 ⟨A5, c5, rfl, ha5, hb5⟩
  unfold Wt.val
  have hs5 := hb5.size
  simp only [World.size_alloc, size_two] at hs5
  have HA5 := Lib.hid (ha5.bound (S' := fun b => b ≠ w1.heap.size ∧ b < w5.heap.size) fun _ h _ => by simp only [World.size_alloc, size_two] at h; omega)
  have HB5 := Lib.hid (Blk.later ((HB4.out.two (.int .i64 3) (.slice A4 2 c4)).alloc _) hb5)
  have BA5 : Blk w5 w4.heap.size 29 #[.int .i64 1, .int .i64 5, .int .i64 20] := by have := Blk.later (Blk.new _ 29 _) hb5; rwa [size_two] at this
  have HBA5 := Lib.hid BA5
  have f5 := HB5.out.cell
  have z5 := HB5.out.frozen
  have g5 := fun o => (HB5.out.alloc o).cell
  have y5 := fun o => (HB5.out.alloc o).frozen
  have hlt5 : w1.heap.size < w5.heap.size := by omega
  clear f4 z4 g4 y4 ha5 BA5
  go_wp2_with fail
  refine (expire_lit [⟨2, 5, 10⟩] 1 3 A5 c5 10 _ _ _ _ rfl (by omega) ((HA5.out.two (fun h => h.1 rfl) _ _).alloc _) (fun b h => by simp only [World.size_alloc, size_two]; omega) k3).mono ?_
  rintro e w6 ⟨A6, c6, A6', c6', rfl, ha6, ha6', hb6⟩
  have hs6 := hb6.size
  simp only [World.size_alloc, size_two] at hs6
  have HA6 := Lib.hid (ha6.bound (S' := fun b => b ≠ w1.heap.size ∧ b < w6.heap.size) fun _ h _ => by simp only [World.size_alloc, size_two] at h; omega)
  have HL6 := Lib.hid (ha6'.bound (S' := fun b => b ≠ w1.heap.size ∧ b < w6.heap.size) fun _ h _ => by simp only [World.size_alloc, size_two] at h; omega)
  have HB6 := Lib.hid (Blk.later ((HB5.out.two (.int .i64 3) (.slice A5 1 c5)).alloc _) hb6)
  have HBA6 := Lib.hid (Blk.later ((Blk.far (Blk.far HBA5.out (p := ⟨w1.heap.size, 0, none⟩) (by dsimp only; omega) (.int .i64 3)) (p := ⟨w1.heap.size, 1, none⟩) (by dsimp only; omega) (.slice A5 1 c5)).alloc _) hb6)
  have BC6 : Blk w6 w5.heap.size 29 #[.int .i64 3, .int .i64 6, .int .i64 1000000000001] := by have := Blk.later (Blk.new _ 29 _) hb6; rwa [size_two] at this
  have HBC6 := Lib.hid BC6
  have f6 := HB6.out.cell
  have z6 := HB6.out.frozen
  clear f5 z5 g5 y5 ha6 ha6' BC6
  go_wp2_with fail
  refine (expire_lit [] 0 3 A6 c6 11 _ _ _ _ rfl (by omega) (HA6.out.two (fun h => h.1 rfl) _ _) (fun b h => by rw [size_two]; exact h.2) k4).mono ?_
  rintro e w7 ⟨A7, c7, A7', c7', rfl, ha7, ha7', hb7⟩
  have hs7 := hb7.size
  rw [size_two] at hs7
  have HA7 := Lib.hid (ha7.bound (S' := fun b => b ≠ w1.heap.size ∧ b < w7.heap.size) fun _ h _ => by rw [size_two] at h; omega)
  have HL7 := Lib.hid ((HL6.out.two (fun h => h.1 rfl) (.int .i64 3) (.slice A6 0 c6)).later hb7)
  have HB7 := Lib.hid (Blk.later (HB6.out.two (.int .i64 3) (.slice A6 0 c6)) hb7)
  have HBA7 := Lib.hid (Blk.later (Blk.far (Blk.far HBA6.out (p := ⟨w1.heap.size, 0, none⟩) (by dsimp only; omega) (.int .i64 3)) (p := ⟨w1.heap.size, 1, none⟩) (by dsimp only; omega) (.slice A6 0 c6)) hb7)
  have HBC7 := Lib.hid (Blk.later (Blk.far (Blk.far HBC6.out (p := ⟨w1.heap.size, 0, none⟩) (by dsimp only; omega) (.int .i64 3)) (p := ⟨w1.heap.size, 1, none⟩) (by dsimp only; omega) (.slice A6 0 c6)) hb7)
  have f7 := HB7.out.cell
  have z7 := HB7.out.frozen
  clear f6 z6 ha7 ha7'
  go_wp2_with fail
  refine (serve_lit [] 0 3 A7 c7 11 _ _ _ _ rfl (by omega) (HA7.out.two (fun h => h.1 rfl) _ _) (fun b h => by rw [size_two]; exact h.2) k5).mono ?_
  rintro e w8 ⟨A8, c8, rfl, ha8, hb8⟩
  unfold Wt.val
  have hs8 := hb8.size
  rw [size_two] at hs8
  have HL8 := Lib.hid ((HL7.out.two (fun h => h.1 rfl) (.int .i64 3) (.slice A7 0 c7)).later hb8)
  have HBA8 := Lib.hid (((Blk.later (Blk.far (Blk.far HBA7.out (p := ⟨w1.heap.size, 0, none⟩) (by dsimp only; omega) (.int .i64 3)) (p := ⟨w1.heap.size, 1, none⟩) (by dsimp only; omega) (.slice A7 0 c7)) hb8).alloc (.cells #[.int .i64 3, .slice A8 0 c8] 24)).alloc (.cells #[.int .i64 0, .int .i64 0, .int .i64 0] 29))
  have HBC8 := Lib.hid (((Blk.later (Blk.far (Blk.far HBC7.out (p := ⟨w1.heap.size, 0, none⟩) (by dsimp only; omega) (.int .i64 3)) (p := ⟨w1.heap.size, 1, none⟩) (by dsimp only; omega) (.slice A7 0 c7)) hb8).alloc (.cells #[.int .i64 3, .slice A8 0 c8] 24)).alloc (.cells #[.int .i64 0, .int .i64 0, .int .i64 0] 29))
  obtain ⟨b, o, rfl, hbl, i1, i2, i3⟩ := Wt.at_ (((HL8.out.alloc (.cells #[.int .i64 3, .slice A8 0 c8] 24)).alloc (.cells #[.int .i64 0, .int .i64 0, .int .i64 0] 29))) (k := 0) (x := ⟨2, 5, 10⟩) rfl
  simp only [Nat.zero_mul, Nat.add_zero] at i1
  have fa := HBA8.out.cell
  have fc := HBC8.out.cell
  have hbw : Below w.heap.size w w8 := by
    have h2 := bup (hb1.alloc hb1.size _) hb2 (by simp only [World.size_alloc]; omega)
    have h3 := bup (h2.alloc h2.size _) hb3 (by simp only [World.size_alloc]; omega)
    have h4 := bup h3 hb4 h3.size
    have h5 := bup ((bel2 h4 (g := w1.heap.size) hb1.size _ _).alloc (by rw [size_two]; omega) _) hb5 (by simp only [World.size_alloc, size_two]; omega)
    have h6 := bup ((bel2 h5 (g := w1.heap.size) hb1.size _ _).alloc (by rw [size_two]; omega) _) hb6 (by simp only [World.size_alloc, size_two]; omega)
    have h7 := bup (bel2 h6 (g := w1.heap.size) hb1.size _ _) hb7 (by rw [size_two]; omega)
    exact bup (bel2 h7 (g := w1.heap.size) hb1.size _ _) hb8 (by rw [size_two]; omega)
  clear f7 z7 ha8 hb1 hb2 hb3 hb4 hb5 hb6 hb7 hb8
  go_wp2_with (go_at_call 11; refine (awake_any _).mono ?_; rintro e w9 ⟨rfl, hb9⟩)
  go_ret
  exact ⟨rfl, bup ((hbw.alloc hbw.size _).alloc (by simp only [World.size_alloc]; omega) _) hb9 (by simp only [World.size_alloc]; omega)⟩
end Go.Proofs.Ytajkljbcfgegoaa
