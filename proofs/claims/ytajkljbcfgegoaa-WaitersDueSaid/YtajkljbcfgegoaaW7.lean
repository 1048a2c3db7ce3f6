/- Walks: the examples' state and what the statements ask first (awake). -/
import Derived.Test.YtajkljbcfgegoaaW6
namespace Go.Proofs.Ytajkljbcfgegoaa
open Go.RowKit

section
variable {α : Type} [L : Lay α] {w w' : World} {S S' : Nat → Prop} {c m n g : Nat} {A : Option Addr} {xs : List α}
theorem Arr.bound (h : Arr w S A c xs) (hS : ∀ b, S b → b < w.heap.size → S' b) : Arr w S' A c xs := by
  refine ⟨h.1, h.2.1, h.2.2.1, fun hn => ?_⟩
  obtain ⟨b, o, e, hb, hlt, hc⟩ := h.2.2.2 hn
  refine ⟨b, o, e, hS b hb hlt, hlt, fun i x hx => ?_⟩
  obtain ⟨cs, hr, hcell⟩ := hc i x hx
  exact ⟨cs, L.bound hr hS, hcell⟩
end

def st0 : St := ⟨3, []⟩
def wa : Wt := ⟨1, 5, 20⟩
def wb : Wt := ⟨2, 5, 10⟩
def wc : Wt := ⟨3, 6, 1000000000001⟩
theorem j1 : join ⟨3, []⟩ 1 5 20 = (⟨3, [⟨1, 5, 20⟩]⟩, 0) := by decide
theorem j2 : join ⟨3, [⟨1, 5, 20⟩]⟩ 2 5 10 = (⟨3, [⟨1, 5, 20⟩, ⟨2, 5, 10⟩]⟩, 0) := by decide
theorem j3 : join ⟨3, [⟨1, 5, 20⟩, ⟨2, 5, 10⟩]⟩ 3 6 1000000000001 = (⟨3, [⟨1, 5, 20⟩, ⟨2, 5, 10⟩, ⟨3, 6, 1000000000001⟩]⟩, 0) := by decide

/-- A fact on a state's join, at arguments as they stand. -/
theorem join_lit (l : List Wt) (n : Nat) (most : Int) (A : Option Addr) (c : Nat) (k now dead : Int) (w : World) {S : Nat → Prop} (t : St) (e : Int) (hn : l.length = n) (hn2 : n < 2147483648) (h : Arr w S A c l) (hS : ∀ b, S b → b < w.heap.size)
    (hj : join ⟨most, l⟩ k now dead = (t, e)) :
    Calls Try.prog 17 #[.agg #[.int .i64 most, .slice A n c], .int .i64 k, .int .i64 now, .int .i64 dead] w (RSt2 S t (.int .i64 e) w) := by
  subst hn
  exact join_any ⟨most, l⟩ A c k now dead w h hS hn2 t e hj

theorem new_is (m : Int) (w : World) {S : Nat → Prop} (t : St) (k : Int) (h : new m = (t, k)) : Calls Try.prog 19 #[.int .i64 m] w (RSt2 S t (.int .i64 k) w) := by
  have := new_any m w (S := S)
  rw [h] at this
  exact this
theorem n3 : new 3 = (⟨3, []⟩, 0) := by decide

theorem Arr.two {α : Type} [L : Lay α] {w : World} {S : Nat → Prop} {c g : Nat} {A : Option Addr} {xs : List α} (h : Arr w S A c xs) (hg : ¬ S g) (u v : Value) : Arr ((w.setCell ⟨g, 0, none⟩ u).setCell ⟨g, 1, none⟩ v) S A c xs :=
  (h.setCell (p := ⟨g, 0, none⟩) hg u).setCell (p := ⟨g, 1, none⟩) hg v
theorem Blk.two {w : World} {g : Nat} {t : TypeId} {a b : Value} (h : Blk w g t #[a, b]) (u v : Value) : Blk ((w.setCell ⟨g, 0, none⟩ u).setCell ⟨g, 1, none⟩ v) g t #[u, v] := (h.set_ 0 u).set_ 1 v
theorem size_two (w : World) (p q : Addr) (u v : Value) : ((w.setCell p u).setCell q v).heap.size = w.heap.size := by simp [World.setCell]
theorem bel2 {B g : Nat} {a w : World} (h : Below B a w) (hg : B ≤ g) (u v : Value) : Below B a ((w.setCell ⟨g, 0, none⟩ u).setCell ⟨g, 1, none⟩ v) := (h.setCell (p := ⟨g, 0, none⟩) hg u).setCell (p := ⟨g, 1, none⟩) hg v

set_option maxHeartbeats 1600000 in
theorem three_any (w : World) : Calls Try.prog 16 #[] w (RSt2 (fun _ => False) ⟨3, [⟨1, 5, 20⟩, ⟨2, 5, 10⟩, ⟨3, 6, 1000000000001⟩]⟩ (.bool true) w) := by
  have HAL := Lib.hid (al1 w (.cells #[.int .i64 0, .slice none 0 0] 24))
  go_enter Try.func16, Try.ntmps16
  go_wp2_with fail
  refine (new_is 3 _ (S := fun _ => False) _ _ n3).mono ?_
  rintro e w1 ⟨A1, c1, rfl, ha1, hb1⟩
  have HA1 := Lib.hid (ha1.bound (S' := fun b => w.heap.size + 1 ≤ b ∧ b < w1.heap.size) fun b h hl => by simp at h; omega)
  have hs1 := hb1.size
  simp only [World.size_alloc] at hs1
  have BN := Lib.hid (Blk.later (t := 24) HAL.out.1 hb1)
  clear ha1
  go_wp2_with fail
  refine (join_lit [] 0 3 A1 c1 1 5 20 _ _ _ rfl (by omega) (HA1.out.alloc _) (fun b h => by simp only [World.size_alloc]; omega) j1).mono ?_
  rintro e w2 ⟨A2, c2, rfl, ha2, hb2⟩
  have hs2 := hb2.size
  simp only [World.size_alloc] at hs2
  have HA2 := Lib.hid (ha2.bound (S' := fun b => b ≠ w1.heap.size ∧ w.heap.size + 1 ≤ b ∧ b < w2.heap.size) fun b h hl => by simp only [World.size_alloc] at h; omega)
  have HB2 := Lib.hid (Blk.later (Blk.new w1 24 _) hb2)
  have BN2 := Lib.hid ((BN.out.alloc _).later hb2)
  have f2 := HB2.out.cell
  have z2 := HB2.out.frozen
  clear ha2
  go_wp2_with fail
  refine (join_lit [⟨1, 5, 20⟩] 1 3 A2 c2 2 5 10 _ _ _ rfl (by omega) (HA2.out.two (fun h => h.1 rfl) _ _) (fun b h => by rw [size_two]; exact h.2.2) j2).mono ?_
  rintro e w3 ⟨A3, c3, rfl, ha3, hb3⟩
  have hs3 := hb3.size
  rw [size_two] at hs3
  have HA3 := Lib.hid (ha3.bound (S' := fun b => b ≠ w1.heap.size ∧ w.heap.size + 1 ≤ b ∧ b < w3.heap.size) fun b h hl => by rw [size_two] at h; omega)
  have HB3 := Lib.hid (Blk.later (HB2.out.two (.int .i64 3) (.slice A2 1 c2)) hb3)
  have BN3 := Lib.hid (Blk.later (Blk.far (Blk.far BN2.out (p := ⟨w1.heap.size, 0, none⟩) (by dsimp only; omega) (.int .i64 3)) (p := ⟨w1.heap.size, 1, none⟩) (by dsimp only; omega) (.slice A2 1 c2)) hb3)
  have f3 := HB3.out.cell
  have z3 := HB3.out.frozen
  clear ha3 f2 z2
  go_wp2_with fail
  refine (join_lit [⟨1, 5, 20⟩, ⟨2, 5, 10⟩] 2 3 A3 c3 3 6 1000000000001 _ _ _ rfl (by omega) (HA3.out.two (fun h => h.1 rfl) _ _) (fun b h => by rw [size_two]; exact h.2.2) j3).mono ?_
  rintro e w4 ⟨A4, c4, rfl, ha4, hb4⟩
  have hs4 := hb4.size
  rw [size_two] at hs4
  have HA4 := Lib.hid (ha4.bound (S' := fun b => b ≠ w1.heap.size ∧ w.heap.size + 1 ≤ b) fun b h hl => by rw [size_two] at h; omega)
  have HB4 := Lib.hid (Blk.later (HB3.out.two (.int .i64 3) (.slice A3 2 c3)) hb4)
  have BN4 := Lib.hid (Blk.later (Blk.far (Blk.far BN3.out (p := ⟨w1.heap.size, 0, none⟩) (by dsimp only; omega) (.int .i64 3)) (p := ⟨w1.heap.size, 1, none⟩) (by dsimp only; omega) (.slice A3 2 c3)) hb4)
  have f4 := HB4.out.cell
  have z4 := HB4.out.frozen
  have q4 := BN4.out.cell
  have y4 := BN4.out.frozen
  have hb01 : Below w.heap.size w (w1.alloc (.cells #[.int .i64 3, .slice A1 0 c1] 24)) := (bup HAL.out.2.2 hb1 (by simp)).alloc (by omega) _
  have hb02 : Below w.heap.size w w2 := bup hb01 hb2 (by simp; omega)
  have hb03 : Below w.heap.size w w3 := bup (bel2 hb02 (g := w1.heap.size) (by omega) _ _) hb3 (by rw [size_two]; omega)
  have hb04 : Below w.heap.size w w4 := bup (bel2 hb03 (g := w1.heap.size) (by omega) _ _) hb4 (by rw [size_two]; omega)
  clear ha4 hb01 hb02 hb03 hb1 hb2 hb3 hb4 f3 z3
  have hne : w1.heap.size ≠ w.heap.size := by omega
  go_wp2
  refine bodyPost_ret (v := .tuple #[.agg #[.int .i64 3, .slice A4 3 c4], .bool true]) (by simp [results, Try.results16, go_sem, q4]) rfl ⟨A4, c4, rfl, ?_, ?_⟩
  · exact ((HA4.out.two (fun h => h.1 rfl) _ _).two (g := w.heap.size) (fun h => absurd h.2 (by omega)) _ _).mono fun b h => .inr (by omega)
  · exact bel2 (bel2 hb04 (by omega) _ _) (Nat.le_refl _) _ _

def s3 : St := ⟨3, [⟨1, 5, 20⟩, ⟨2, 5, 10⟩, ⟨3, 6, 1000000000001⟩]⟩
theorem j4 : join ⟨3, [⟨1, 5, 20⟩, ⟨2, 5, 10⟩, ⟨3, 6, 1000000000001⟩]⟩ 4 6 6 = (⟨3, [⟨1, 5, 20⟩, ⟨2, 5, 10⟩, ⟨3, 6, 1000000000001⟩]⟩, 9) := by decide
theorem j5 : join ⟨3, [⟨1, 5, 20⟩, ⟨2, 5, 10⟩, ⟨3, 6, 1000000000001⟩]⟩ 4 6 7 = (⟨3, [⟨1, 5, 20⟩, ⟨2, 5, 10⟩, ⟨3, 6, 1000000000001⟩]⟩, 5) := by decide
theorem x1 : next ⟨3, [⟨1, 5, 20⟩, ⟨2, 5, 10⟩, ⟨3, 6, 1000000000001⟩]⟩ = (10, 0) := by decide
theorem v1 : serve ⟨3, [⟨1, 5, 20⟩, ⟨2, 5, 10⟩, ⟨3, 6, 1000000000001⟩]⟩ 9 = (⟨3, [⟨2, 5, 10⟩, ⟨3, 6, 1000000000001⟩]⟩, ⟨1, 5, 20⟩, 0) := by decide
theorem v2 : serve ⟨3, [⟨2, 5, 10⟩, ⟨3, 6, 1000000000001⟩]⟩ 10 = (⟨3, [⟨2, 5, 10⟩]⟩, ⟨3, 6, 1000000000001⟩, 0) := by decide

theorem next_lit (l : List Wt) (n : Nat) (most : Int) (A : Option Addr) (c : Nat) (w : World) {S : Nat → Prop} (r e : Int) (hn : l.length = n) (h : Arr w S A c l) (hj : next ⟨most, l⟩ = (r, e)) :
    Calls Try.prog 14 #[.agg #[.int .i64 most, .slice A n c]] w fun e' w' => e' = .returned (.tuple #[.int .i64 r, .int .i64 e]) ∧ Below w.heap.size w w' := by
  subst hn
  have := next_any ⟨most, l⟩ A c w h
  rw [hj] at this
  exact this
theorem serve_lit (l : List Wt) (n : Nat) (most : Int) (A : Option Addr) (c : Nat) (now : Int) (w : World) {S : Nat → Prop} (t : St) (x : Wt) (e : Int) (hn : l.length = n) (hn2 : n < 2147483648) (h : Arr w S A c l) (hS : ∀ b, S b → b < w.heap.size)
    (hj : serve ⟨most, l⟩ now = (t, x, e)) :
    Calls Try.prog 12 #[.agg #[.int .i64 most, .slice A n c], .int .i64 now] w (RSt3 S t x.val (.int .i64 e) w) := by
  subst hn
  have := serve_any ⟨most, l⟩ A c now w h hS hn2
  rw [hj] at this
  exact this

set_option maxHeartbeats 1600000 in
theorem awake_any (w : World) : Calls Try.prog 11 #[] w fun e w' => e = .returned (.bool true) ∧ Below w.heap.size w w' := by
  go_enter Try.func11, Try.ntmps11
  go_wp2_with fail
  refine (three_any w).mono ?_
  rintro e w1 ⟨A1, c1, rfl, ha1, hb1⟩
  have HA1 := Lib.hid ((ha1.bound (S' := (· < w1.heap.size)) fun _ _ h => h).alloc (.cells #[.int .i64 3, .slice A1 3 c1] 24))
  have hs1 := hb1.size
  clear ha1
  go_wp2_with fail
  refine (join_lit [⟨1, 5, 20⟩, ⟨2, 5, 10⟩, ⟨3, 6, 1000000000001⟩] 3 3 A1 c1 4 6 6 _ _ _ rfl (by omega) HA1.out (fun b h => by simp only [World.size_alloc]; omega) j4).mono ?_
  rintro e w2 ⟨A2, c2, rfl, ha2, hb2⟩
  have hs2 := hb2.size
  simp only [World.size_alloc] at hs2
  have HA2 := Lib.hid (((HA1.out.later hb2).bound (S' := (· < w2.heap.size)) fun _ _ h => h).alloc (.cells #[.int .i64 3, .slice A2 3 c2] 24))
  have HB2 := Lib.hid ((Blk.later (Blk.new w1 24 _) hb2).alloc (.cells #[.int .i64 3, .slice A2 3 c2] 24))
  have f2 := HB2.out.cell
  clear ha2
  go_wp2_with fail
  refine (join_lit [⟨1, 5, 20⟩, ⟨2, 5, 10⟩, ⟨3, 6, 1000000000001⟩] 3 3 A1 c1 4 6 7 _ _ _ rfl (by omega) HA2.out (fun b h => by simp only [World.size_alloc]; omega) j5).mono ?_
  rintro e w3 ⟨A3, c3, rfl, ha3, hb3⟩
  have hs3 := hb3.size
  simp only [World.size_alloc] at hs3
  have HA3 := Lib.hid (((HA2.out.later hb3).bound (S' := (· < w3.heap.size)) fun _ _ h => h).alloc (.cells #[.int .i64 3, .slice A3 3 c3] 24))
  have HB3 := Lib.hid ((Blk.later HB2.out hb3).alloc (.cells #[.int .i64 3, .slice A3 3 c3] 24))
  have f3 := HB3.out.cell
  clear ha3 f2
  go_wp2_with fail
  refine (next_lit [⟨1, 5, 20⟩, ⟨2, 5, 10⟩, ⟨3, 6, 1000000000001⟩] 3 3 A1 c1 _ _ _ rfl HA3.out x1).mono ?_
  rintro e w4 ⟨rfl, hb4⟩
  have hs4 := hb4.size
  simp only [World.size_alloc] at hs4
  have HA4 := Lib.hid ((HA3.out.later hb4).bound (S' := (· < w4.heap.size)) fun _ _ h => h)
  have HB4 := Lib.hid (Blk.later HB3.out hb4)
  have f4 := HB4.out.cell
  clear f3
  go_wp2_with fail
  refine (serve_lit [⟨1, 5, 20⟩, ⟨2, 5, 10⟩, ⟨3, 6, 1000000000001⟩] 3 3 A1 c1 9 _ _ _ _ rfl (by omega) HA4.out (fun b h => h) v1).mono ?_
  rintro e w5 ⟨A5, c5, rfl, ha5, hb5⟩
  unfold Wt.val
  have hs5 := hb5.size
  have HA5 := Lib.hid (((ha5.bound (S' := (· < w5.heap.size)) fun _ _ h => h).alloc (.cells #[.int .i64 3, .slice A5 2 c5] 24)).alloc (.cells #[.int .i64 1, .int .i64 5, .int .i64 20] 29))
  have HX5 := Lib.hid (al2 w5 (.cells #[.int .i64 3, .slice A5 2 c5] 24) (.cells #[.int .i64 1, .int .i64 5, .int .i64 20] 29))
  clear ha5
  go_wp2_with fail
  refine (serve_lit [⟨2, 5, 10⟩, ⟨3, 6, 1000000000001⟩] 2 3 A5 c5 10 _ _ _ _ rfl (by omega) HA5.out (fun b h => by simp only [World.size_alloc]; omega) v2).mono ?_
  rintro e w6 ⟨A6, c6, rfl, ha6, hb6⟩
  unfold Wt.val
  have hs6 := hb6.size
  simp only [World.size_alloc] at hs6
  have HB6 := Lib.hid (((Blk.later (t := 29) HX5.out.2.1 hb6).alloc (.cells #[.int .i64 3, .slice A6 1 c6] 24)).alloc (.cells #[.int .i64 3, .int .i64 6, .int .i64 1000000000001] 29))
  have f6 := HB6.out.cell
  have hbw : Below w.heap.size w w6 := by
    have h2 := bup (hb1.alloc hb1.size _) hb2 (by simp only [World.size_alloc]; omega)
    have h3 := bup (h2.alloc h2.size _) hb3 (by simp only [World.size_alloc]; omega)
    have h4 := bup (h3.alloc h3.size _) hb4 (by simp only [World.size_alloc]; omega)
    have h5 := bup h4 hb5 h4.size
    exact bup (h5.trans (HX5.out.2.2.2.mono h5.size)) hb6 (by simp only [World.size_alloc]; omega)
  clear ha6 hb1 hb2 hb3 hb4 hb5 hb6 f4
  go_wp2
  go_ret
  exact ⟨rfl, (hbw.alloc hbw.size _).alloc (by simp only [World.size_alloc]; omega) _⟩
end Go.Proofs.Ytajkljbcfgegoaa
