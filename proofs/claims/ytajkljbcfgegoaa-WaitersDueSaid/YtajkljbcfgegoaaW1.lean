/- Walks of the leaf functions: each returns what its plain function says, and no old block turns. No condition. -/
import Derived.Test.YtajkljbcfgegoaaProg
import Derived.Test.YtajkljbcfgegoaaLib
import Derived.Test.YtajkljbcfgegoaaSpec
namespace Go.Proofs.Ytajkljbcfgegoaa
open Go.RowKit

instance flatWt : Flat Wt where
  sz := 3
  pos := by omega
  enc := fun x => [.int .i64 x.call, .int .i64 x.since, .int .i64 x.dead]
  len := fun _ => rfl
  one := fun _ u hu => by simp at hu; rcases hu with h | h | h <;> subst h <;> rfl

def Wt.val (x : Wt) : Value := .agg #[.int .i64 x.call, .int .i64 x.since, .int .i64 x.dead]

theorem Wt.at_ {w : World} {S : Nat → Prop} {c k : Nat} {A : Option Addr} {xs : List Wt} {x : Wt} (h : Arr w S A c xs) (hk : xs[k]? = some x) : ∃ b o : Nat, A = some ⟨b, o, none⟩ ∧ b < w.heap.size ∧
    w.cell? ⟨b, o + k * 3, none⟩ = some (.int .i64 x.call) ∧ w.cell? ⟨b, o + k * 3 + 1, none⟩ = some (.int .i64 x.since) ∧ w.cell? ⟨b, o + k * 3 + 2, none⟩ = some (.int .i64 x.dead) := by
  obtain ⟨b, o, e, hb, _, cs, hr, hc⟩ := h.at_ hk
  obtain rfl : cs = _ := hr
  exact ⟨b, o, e, hb, hc 0 _ rfl, hc 1 _ rfl, hc 2 _ rfl⟩

theorem Boolat {w : World} {S : Nat → Prop} {c k : Nat} {A : Option Addr} {xs : List Bool} {x : Bool} (h : Arr w S A c xs) (hk : xs[k]? = some x) : ∃ b o : Nat, A = some ⟨b, o, none⟩ ∧ b < w.heap.size ∧
    w.cell? ⟨b, o + k, none⟩ = some (.bool x) := by
  obtain ⟨b, o, e, hb, _, cs, hr, hc⟩ := h.at_ hk
  obtain rfl : cs = _ := hr
  refine ⟨b, o, e, hb, ?_⟩
  have := hc 0 _ rfl
  rw [show o + k * (layOfFlat (α := Bool)).sz + 0 = o + k from by show o + k * 1 + 0 = _; omega] at this
  exact this

theorem call_any (n : Int) (w : World) : Calls Try.prog 35 #[.int .i64 n] w fun e w' => e = .returned (.bool (callOk n)) ∧ w = w' := by
  go_enter Try.func35, Try.ntmps35
  go_wp2
  all_goals
    go_ret
    refine ⟨ret_bool ?_, rfl⟩
    simp [callOk]
    omega

theorem room_any (n : Int) (w : World) : Calls Try.prog 38 #[.int .i64 n] w fun e w' => e = .returned (.bool (room n)) ∧ w = w' := by
  go_enter Try.func38, Try.ntmps38
  go_wp2
  all_goals
    go_ret
    refine ⟨ret_bool ?_, rfl⟩
    simp [room]
    omega

theorem between_any (n a b : Int) (w : World) : Calls Try.prog 26 #[.int .i64 n, .int .i64 a, .int .i64 b] w fun e w' => e = .returned (.bool (decide (a ≤ n) && decide (n ≤ b))) ∧ w = w' := by
  go_enter Try.func26, Try.ntmps26
  go_wp2
  all_goals
    go_ret
    refine ⟨ret_bool ?_, rfl⟩
    simp
    omega

set_option maxHeartbeats 400000 in
theorem indexBool_any (v : Bool) (A : Option Addr) (c : Nat) (xs : List Bool) (w : World) {S : Nat → Prop} (h : Arr w S A c xs) :
    Calls Try.prog 57 #[.slice A xs.length c, .bool v] w fun e w' => e = .returned (.int .i64 (idx (fun x => v == x) xs 0)) ∧ w = w' := by
  have hm := h.max'
  have H := Lib.hid h
  clear h
  go_enter Try.func57, Try.ntmps57
  go_wp2
  go_loop [5, 8] (fun _ i => ∃ k : Nat, k ≤ xs.length ∧ i = .int .i64 k ∧ ∀ j y, j < k → xs[j]? = some y → (v == y) = false) (fun _ i => xs.length - (intOf i).toNat)
  case atStart => exact ⟨0, Nat.zero_le _, rfl, fun j y hj _ => absurd hj (by omega)⟩
  case round =>
    obtain ⟨k, hk, rfl, hn⟩ := hrel
    have HN := Lib.hid hn
    clear hn
    by_cases hlt : k < xs.length
    · obtain ⟨x, hx⟩ := some_lt hlt
      obtain ⟨b, o, rfl, _, hc⟩ := Boolat H.out hx
      have HX := Lib.hid hx
      clear hx
      cases hvx : (v == x)
      · go_wp2
        go_round
        case rel =>
          refine ⟨k + 1, by omega, by go_num, fun j y hj hy => ?_⟩
          by_cases hjk : j = k
          · subst hjk; rw [HX.out] at hy; cases hy; exact hvx
          · exact HN.out j y (by omega) hy
        case measure => simp [intOf]; omega
      · go_wp2
        go_ret
        exact ⟨ret_int (idx_hit _ xs k x HX.out hvx HN.out).symm, rfl⟩
    · go_wp2
      go_ret
      exact ⟨ret_int (idx_miss _ xs fun i y hi hy => HN.out i y (by omega) hy).symm, rfl⟩

theorem contains_any (v : Bool) (A : Option Addr) (c : Nat) (xs : List Bool) (w : World) {S : Nat → Prop} (h : Arr w S A c xs) :
    Calls Try.prog 52 #[.slice A xs.length c, .bool v] w fun e w' => e = .returned (.bool (xs.any (fun x => v == x))) ∧ w = w' := by
  have H := Lib.hid h
  clear h
  go_enter Try.func52, Try.ntmps52
  go_wp2_with (go_at_call 57; refine (indexBool_any v A c xs _ H.out).mono ?_; rintro e w' ⟨rfl, rfl⟩)
  go_ret
  exact ⟨ret_bool (by rw [← idx_any _ xs 0 (by omega)]), rfl⟩

theorem all_any (A : Option Addr) (c : Nat) (xs : List Bool) (w : World) {S : Nat → Prop} (h : Arr w S A c xs) :
    Calls Try.prog 34 #[.slice A xs.length c] w fun e w' => e = .returned (.bool (!xs.any (fun x => !x))) ∧ w = w' := by
  have H := Lib.hid h
  clear h
  go_enter Try.func34, Try.ntmps34
  go_wp2_with (go_at_call 52; refine (contains_any false A c xs _ H.out).mono ?_; rintro e w' ⟨rfl, rfl⟩)
  go_ret
  exact ⟨rfl, rfl⟩

theorem find1_any (x : Wt) (b : Nat) (call : Int) (w : World) (hc : w.cell? ⟨b, 0, none⟩ = some (.int .i64 call)) :
    Calls Try.prog 53 #[x.val, .pointer (some ⟨b, 0, none⟩)] w fun e w' => e = .returned (.bool (x.call == call)) ∧ Below w.heap.size w w' := by
  unfold Wt.val
  have h2 : ∀ o, (w.alloc o).cell? ⟨b, 0, none⟩ = some (.int .i64 call) := fun o => (World.cell?_alloc_lt w o ⟨b, 0, none⟩ (World.block_lt_of_cell? w _ hc)).trans hc
  go_enter Try.func53, Try.ntmps53
  go_wp2
  go_ret
  exact ⟨rfl, (Below.refl _ _).alloc (Nat.le_refl _) _⟩

theorem later_any (f : Nat) (hf : f = 30 ∨ f = 33) (x : Wt) (b : Nat) (now : Int) (w : World) (hc : w.cell? ⟨b, 0, none⟩ = some (.int .i64 now)) :
    Calls Try.prog f #[x.val, .pointer (some ⟨b, 0, none⟩)] w fun e w' => e = .returned (.bool (decide (now < x.dead))) ∧ Below w.heap.size w w' := by
  unfold Wt.val
  have h2 : ∀ o, (w.alloc o).cell? ⟨b, 0, none⟩ = some (.int .i64 now) := fun o => (World.cell?_alloc_lt w o ⟨b, 0, none⟩ (World.block_lt_of_cell? w _ hc)).trans hc
  rcases hf with rfl | rfl
  · go_enter Try.func30, Try.ntmps30
    go_wp2
    go_ret
    exact ⟨rfl, (Below.refl _ _).alloc (Nat.le_refl _) _⟩
  · go_enter Try.func33, Try.ntmps33
    go_wp2
    go_ret
    exact ⟨rfl, (Below.refl _ _).alloc (Nat.le_refl _) _⟩

theorem never_any (x : Wt) (w : World) : Calls Try.prog 42 #[x.val] w fun e w' => e = .returned (.bool false) ∧ Below w.heap.size w w' := by
  unfold Wt.val
  go_enter Try.func42, Try.ntmps42
  go_wp2
  go_ret
  exact ⟨rfl, (Below.refl _ _).alloc (Nat.le_refl _) _⟩

end Go.Proofs.Ytajkljbcfgegoaa
