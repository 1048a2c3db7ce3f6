/- Walks: the search with a function, odd, find, Clone. Each returns what its plain function says, and no old block turns. -/
import Derived.Test.YtajkljbcfgegoaaW1
import Derived.StillTailTactics
import Derived.Lib.SliceRun
namespace Go.Proofs.Ytajkljbcfgegoaa
open Go.RowKit

/-- A function value that the program enters with these captured values. -/
def Enters (fid : Nat) (cap : Array Value) : Prop := ∀ (x : Value) (w : World), (callFunc fid (#[x] ++ cap)).run Try.prog w = .ok (.enter fid (#[x] ++ cap)) w
theorem enters53 (v : Value) : Enters 53 #[v] := fun _ _ => by kernel_rfl
theorem enters30 (v : Value) : Enters 30 #[v] := fun _ _ => by kernel_rfl
theorem enters33 (v : Value) : Enters 33 #[v] := fun _ _ => by kernel_rfl
theorem enters41 : Enters 41 #[] := fun _ _ => by kernel_rfl
theorem enters42 : Enters 42 #[] := fun _ _ => by kernel_rfl

set_option maxHeartbeats 400000 in
theorem indexFunc_any (fid : Nat) (cap : Array Value) (p : Wt → Bool) (A : Option Addr) (c : Nat) (xs : List Wt) (w : World) {S : Nat → Prop} (h : Arr w S A c xs) (he : Enters fid cap)
    (hp : ∀ w' x, Below w.heap.size w w' → x ∈ xs → Calls Try.prog fid (#[Wt.val x] ++ cap) w' fun e w'' => e = .returned (.bool (p x)) ∧ Below w'.heap.size w' w'') :
    Calls Try.prog 29 #[.slice A xs.length c, .func (.func fid) #[] cap] w fun e w' => e = .returned (.int .i64 (idx p xs 0)) ∧ Below w.heap.size w w' := by
  have hm := h.max'
  have H := Lib.hid h
  have HP := Lib.hid hp
  unfold Enters at he
  clear h hp
  go_enter Try.func29, Try.ntmps29
  go_wp2
  go_loopw [5, 8] (fun _ i wr => ∃ k : Nat, k ≤ xs.length ∧ i = .int .i64 k ∧ (∀ j y, j < k → xs[j]? = some y → p y = false) ∧ Below w.heap.size w wr) (fun _ i _ => xs.length - (intOf i).toNat)
  case atStart => exact ⟨0, Nat.zero_le _, rfl, fun j y hj _ => absurd hj (by omega), Below.refl _ _⟩
  case round =>
    obtain ⟨k, hk, rfl, hn, hb⟩ := hrel
    have HN := Lib.hid hn
    clear hn
    by_cases hlt : k < xs.length
    · obtain ⟨x, hx⟩ := some_lt hlt
      obtain ⟨b, o, rfl, _, h1, h2, h3⟩ := Wt.at_ (H.out.later hb) hx
      have HX := Lib.hid hx
      clear hx
      go_wp2_with fail
      refine (HP.out _ x hb (List.mem_of_getElem? HX.out)).mono ?_
      rintro e w1 ⟨rfl, hb1⟩
      cases hpx : p x
      · go_wp2
        go_roundw
        case rel =>
          refine ⟨k + 1, by omega, by go_num, fun j y hj hy => ?_, bup hb hb1 hb.size⟩
          by_cases hjk : j = k
          · subst hjk; rw [HX.out] at hy; cases hy; exact hpx
          · exact HN.out j y (by omega) hy
        case measure => simp [intOf]; omega
      · go_wp2
        go_ret
        exact ⟨ret_int (idx_hit _ xs k x HX.out hpx HN.out).symm, bup hb hb1 hb.size⟩
    · go_wp2
      go_ret
      exact ⟨ret_int (idx_miss _ xs fun i y hi hy => HN.out i y (by omega) hy).symm, hb⟩

theorem containsFunc_any (fid : Nat) (cap : Array Value) (p : Wt → Bool) (A : Option Addr) (c : Nat) (xs : List Wt) (w : World) {S : Nat → Prop} (h : Arr w S A c xs) (he : Enters fid cap)
    (hp : ∀ w' x, Below w.heap.size w w' → x ∈ xs → Calls Try.prog fid (#[Wt.val x] ++ cap) w' fun e w'' => e = .returned (.bool (p x)) ∧ Below w'.heap.size w' w'') :
    Calls Try.prog 40 #[.slice A xs.length c, .func (.func fid) #[] cap] w fun e w' => e = .returned (.bool (xs.any p)) ∧ Below w.heap.size w w' := by
  have H := Lib.hid h
  have HP := Lib.hid hp
  have HE := Lib.hid he
  clear h hp he
  go_enter Try.func40, Try.ntmps40
  go_wp2_with (go_at_call 29; refine (indexFunc_any fid cap p A c xs _ H.out HE.out HP.out).mono ?_; rintro e w' ⟨rfl, hb1⟩)
  go_ret
  exact ⟨ret_bool (by rw [← idx_any _ xs 0 (by omega)]), hb1⟩

theorem find_any (A : Option Addr) (c : Nat) (xs : List Wt) (n : Int) (w : World) {S : Nat → Prop} (h : Arr w S A c xs) :
    Calls Try.prog 36 #[.slice A xs.length c, .int .i64 n] w fun e w' => e = .returned (.int .i64 (place xs n)) ∧ Below w.heap.size w w' := by
  have H := Lib.hid h
  clear h
  go_enter Try.func36, Try.ntmps36
  go_wp2_with fail
  refine (indexFunc_any 53 _ (fun x => x.call == n) A c xs _ (H.out.alloc _) (enters53 _) ?_).mono ?_
  · intro w' x hb _
    refine find1_any x _ n w' ?_
    rw [hb.cell (by simp)]
    simp
  · rintro e w1 ⟨rfl, hb1⟩
    go_wp2
    go_ret
    exact ⟨rfl, ((Below.refl _ _).alloc (Nat.le_refl _) _).trans (hb1.mono (by simp))⟩

theorem find_n (A : Option Addr) (c m : Nat) (xs : List Wt) (n : Int) (w : World) {S : Nat → Prop} (h : Arr w S A c xs) (hm : xs.length = m) :
    Calls Try.prog 36 #[.slice A m c, .int .i64 n] w fun e w' => e = .returned (.int .i64 (place xs n)) ∧ Below w.heap.size w w' := by
  subst hm; exact find_any A c xs n w h

theorem elt22 : Elt Try.prog Wt 22 29 := Elt.of Try.underlying22 (z := .agg #[.int .i64 0, .int .i64 0, .int .i64 0]) (n := 3) (b := 24) (by kernel_rfl) rfl (by omega) rfl

theorem clone_any (A : Option Addr) (c : Nat) (xs : List Wt) (w : World) (hl : xs.length < 2147483648) {S : Nat → Prop} (h : Arr w S A c xs) :
    Calls Try.prog 37 #[.slice A xs.length c] w fun e w' => ∃ v, e = .returned v ∧ Own w' w.heap.size 29 v xs ∧ Below w.heap.size w w' := by
  have H := Lib.hid h
  have h0 := h.2.2.1
  have h1 := h.1
  have hq := fun (w : World) (a : Option Addr) (l c : Nat) => Lib.run_eql_slice_nil (P := Try.prog) w 22 29 a l c 0 0 Try.underlying22
  clear h
  cases A with
  | none =>
    obtain rfl : c = 0 := h0 rfl
    obtain rfl : xs = [] := List.eq_nil_of_length_eq_zero (by omega)
    go_enter Try.func37, Try.ntmps37
    go_wp2
    go_ret
    exact ⟨_, rfl, Own.nil _ _ _, Below.refl _ _⟩
  | some ad =>
    clear h0
    go_enter Try.func37, Try.ntmps37
    go_wp2_with (at_builtin; refine wpList_more rfl _ _ elt22 rfl w.heap.size _ [] xs rfl (Own.new0 _ _) _ _ c rfl (H.out.alloc _) (by simp; omega) (by simp) ?_; intro v1 w1 hown1 hg1 hat1)
    go_ret
    exact ⟨v1, rfl, hown1, ((Below.refl _ _).alloc (Nat.le_refl _) _).grown hg1 (by simp) (fun k hk => by cases hk; exact Nat.le_refl _)⟩

end Go.Proofs.Ytajkljbcfgegoaa
