/- Walks: odd, Check, ready, out, Delete, divide. -/
import Derived.Test.YtajkljbcfgegoaaW2
namespace Go.Proofs.Ytajkljbcfgegoaa
open Go.RowKit

theorem all_lit (l : List Bool) (n g : Nat) (w : World) (hn : l.length = n) (hm : n ≤ 1000) (hg : g < w.heap.size) (hc : ∀ i x, l[i]? = some x → w.cell? ⟨g, i, none⟩ = some (.bool x)) :
    Calls Try.prog 34 #[.slice (some ⟨g, 0, none⟩) n n] w fun e w' => e = .returned (.bool (!l.any (fun x => !x))) ∧ w = w' := by
  subst hn
  refine all_any _ _ l _ (S := fun _ => True) ⟨Nat.le_refl _, by unfold maxLen; omega, (fun h => by cases h), fun _ => ⟨g, 0, rfl, trivial, hg, fun i x hx => ⟨[.bool x], rfl, fun j u hu => ?_⟩⟩⟩
  cases j with
  | succ j => simp at hu
  | zero =>
    simp at hu
    subst hu
    have := hc i x hx
    rw [show 0 + i * (layOfFlat (α := Bool)).sz + 0 = i from by show 0 + i * 1 + 0 = i; omega]
    exact this

theorem lit5 {w : World} {g : Nat} {a b c d e : Bool} (h0 : w.cell? ⟨g, 0, none⟩ = some (.bool a)) (h1 : w.cell? ⟨g, 1, none⟩ = some (.bool b)) (h2 : w.cell? ⟨g, 2, none⟩ = some (.bool c))
    (h3 : w.cell? ⟨g, 3, none⟩ = some (.bool d)) (h4 : w.cell? ⟨g, 4, none⟩ = some (.bool e)) : ∀ i x, [a, b, c, d, e][i]? = some x → w.cell? ⟨g, i, none⟩ = some (.bool x) := by
  intro i x hx
  match i, hx with
  | 0, hx => simp at hx; subst hx; exact h0
  | 1, hx => simp at hx; subst hx; exact h1
  | 2, hx => simp at hx; subst hx; exact h2
  | 3, hx => simp at hx; subst hx; exact h3
  | 4, hx => simp at hx; subst hx; exact h4
  | i + 5, hx => simp at hx
theorem lit3 {w : World} {g : Nat} {a b c : Bool} (h0 : w.cell? ⟨g, 0, none⟩ = some (.bool a)) (h1 : w.cell? ⟨g, 1, none⟩ = some (.bool b)) (h2 : w.cell? ⟨g, 2, none⟩ = some (.bool c)) :
    ∀ i x, [a, b, c][i]? = some x → w.cell? ⟨g, i, none⟩ = some (.bool x) := by
  intro i x hx
  match i, hx with
  | 0, hx => simp at hx; subst hx; exact h0
  | 1, hx => simp at hx; subst hx; exact h1
  | 2, hx => simp at hx; subst hx; exact h2
  | i + 3, hx => simp at hx

set_option maxHeartbeats 800000 in
theorem odd_any (x : Wt) (w : World) : Calls Try.prog 41 #[x.val] w fun e w' => e = .returned (.bool (oddW x)) ∧ Below w.heap.size w w' := by
  unfold Wt.val
  go_enter Try.func41, Try.ntmps41
  go_wp2
  go_region_held3 (fun w' => w'.cell? ⟨w.heap.size, 0, none⟩ = some (.int .i64 x.call) ∧ w'.cell? ⟨w.heap.size, 1, none⟩ = some (.int .i64 x.since) ∧ w'.cell? ⟨w.heap.size, 2, none⟩ = some (.int .i64 x.dead)) (go_keep)
    (first
     | (go_at_call 35; refine (call_any _ _).mono ?_; rintro e w' ⟨rfl, rfl⟩)
     | (go_at_call 34; (with_reducible refine (all_lit [callOk x.call, decide (0 ≤ x.since), decide (x.since ≤ 1000000000000), decide (x.since < x.dead), decide (x.dead ≤ 1000000000001)] _ _ _ ?_ ?_ ?_ (lit5 ?_ ?_ ?_ ?_ ?_)).mono ?_); rfl; omega; simp; simp; simp; simp; simp; simp; rintro e w' ⟨rfl, rfl⟩))
  go_wp2
  go_ret
  refine ⟨ret_bool ?_, (((Below.refl _ _).alloc (Nat.le_refl _) _).alloc (by simp) _).drew⟩
  simp [oddW]

set_option maxHeartbeats 2000000 in
theorem check_any (s : St) (A : Option Addr) (c : Nat) (w : World) {S : Nat → Prop} (h : Arr w S A c s.ws) :
    Calls Try.prog 22 #[.agg #[.int .i64 s.most, .slice A s.ws.length c]] w fun e w' => e = .returned (.int .i64 (chk s)) ∧ Below w.heap.size w w' := by
  have hm := h.max'
  have hcm := h.capmax
  have hlc := h.le
  have H := Lib.hid h
  have hb0 : Below w.heap.size w (w.alloc (.cells #[.int .i64 s.most, .slice A s.ws.length c] 24)) := (Below.refl _ _).alloc (Nat.le_refl _) _
  have H0 := Lib.hid (h.later hb0)
  clear h
  cases hr : room s.most
  · have hfin : chk s = 7 := by simp [chk, hr]
    have HF := Lib.hid hfin
    clear hfin
    go_enter Try.func22, Try.ntmps22
    go_wp2_with (go_at_call 38; refine (room_any _ _).mono ?_; rw [hr]; rintro e w' ⟨rfl, rfl⟩)
    go_ret
    exact ⟨ret_int HF.out.symm, hb0⟩
  cases ho : s.ws.any oddW
  case true =>
    have hfin : chk s = 7 := by simp [chk, hr, ho]
    have HF := Lib.hid hfin
    clear hfin
    go_enter Try.func22, Try.ntmps22
    go_wp2_with (first | (go_at_call 38; refine (room_any _ _).mono ?_; rw [hr]; rintro e w' ⟨rfl, rfl⟩) | (go_at_call 40; refine (containsFunc_any 41 #[] oddW A c s.ws _ H0.out enters41 fun w' x _ _ => odd_any x w').mono ?_; rw [ho]; rintro e w1 ⟨rfl, hb1⟩))
    go_ret
    exact ⟨ret_int HF.out.symm, bup hb0 hb1 hb0.size⟩
  case false =>
  by_cases hl : s.most < s.ws.length
  · have hfin : chk s = 3 := by simp [chk, hr, ho, hl]
    have HF := Lib.hid hfin
    clear hfin
    go_enter Try.func22, Try.ntmps22
    go_wp2_with (first | (go_at_call 38; refine (room_any _ _).mono ?_; rw [hr]; rintro e w' ⟨rfl, rfl⟩) | (go_at_call 40; refine (containsFunc_any 41 #[] oddW A c s.ws _ H0.out enters41 fun w' x _ _ => odd_any x w').mono ?_; rw [ho]; rintro e w1 ⟨rfl, hb1⟩; have c0 := boxAt (i := 0) hb1 (by simp) rfl; have c1 := boxAt (i := 1) hb1 (by simp) rfl))
    go_ret
    exact ⟨ret_int HF.out.symm, bup hb0 hb1 hb0.size⟩
  · have hfin : chk s = if dupTo s.ws s.ws.length then 8 else if sortTo s.ws s.ws.length then 0 else 6 := by simp [chk, hr, ho, hl]
    have HF := Lib.hid hfin
    clear hfin
    go_enter Try.func22, Try.ntmps22
    go_wp2_with (first | (go_at_call 38; refine (room_any _ _).mono ?_; rw [hr]; rintro e w' ⟨rfl, rfl⟩) | (go_at_call 40; refine (containsFunc_any 41 #[] oddW A c s.ws _ H0.out enters41 fun w' x _ _ => odd_any x w').mono ?_; rw [ho]; rintro e w1 ⟨rfl, hb1⟩; have c0 := boxAt (i := 0) hb1 (by simp) rfl; have c1 := boxAt (i := 1) hb1 (by simp) rfl))
    go_loopw [3, 26] (fun sv i wr => ∃ k : Nat, k ≤ s.ws.length ∧ i = .int .i64 k ∧ sv = .bool (sortTo s.ws k) ∧ dupTo s.ws k = false ∧ Below (w.heap.size + 1) (w.alloc (.cells #[.int .i64 s.most, .slice A s.ws.length c] 24)) wr) (fun _ i _ => s.ws.length - (intOf i).toNat)
    case atStart => exact ⟨0, Nat.zero_le _, rfl, rfl, rfl, hb1.mono (by simp)⟩
    case round =>
      obtain ⟨k, hk, rfl, rfl, hd, hb⟩ := hrel
      have HD := Lib.hid hd
      have c0 := boxAt (i := 0) hb (by simp) rfl
      have c1 := boxAt (i := 1) hb (by simp) rfl
      clear hd
      have hsz := hb.size
      simp at hsz
      have hk0 : (0 : Int) ≤ (k : Int) := by omega
      have hkc : (k : Int) ≤ (c : Int) := by omega
      by_cases hlt : k < s.ws.length
      · obtain ⟨x, hx⟩ := some_lt hlt
        have ha := H.out.later (hb0.trans (hb.mono (by omega)))
        obtain ⟨b, o, rfl, hbl, h1, h2, h3⟩ := Wt.at_ ha hx
        have HX := Lib.hid hx
        have HA := Lib.hid ha
        clear hx ha
        go_wp2
        go_region_held3 (fun w' => w'.cell? ⟨w.heap.size, 0, none⟩ = some (.int .i64 s.most) ∧ w'.cell? ⟨w.heap.size, 1, none⟩ = some (.slice (some ⟨b, o, none⟩) s.ws.length c) ∧ w'.cell? ⟨wr.heap.size, 0, none⟩ = some (.int .i64 x.call)) (go_keep)
          (first | (go_at_call 36; refine (find_n (S := S) (some ⟨b, o, none⟩) c k (s.ws.take k) x.call _ ?_ ?_).mono ?_; exact ((HA.out.alloc _).drew).take k; rw [List.length_take]; omega; rintro e w2 ⟨rfl, hb2⟩; have e0 := hb2.cell (p := ⟨w.heap.size, 0, none⟩) (by simp; omega); have e1 := hb2.cell (p := ⟨w.heap.size, 1, none⟩) (by simp; omega); have e2 := hb2.cell (p := ⟨wr.heap.size, 0, none⟩) (by simp)))
        by_cases hdup : 0 ≤ place (s.ws.take k) x.call
        · have hfin : dupTo s.ws s.ws.length = true := dupTo_mono (k := k + 1) (by omega) (by rw [dupTo_succ HX.out]; simp [hdup])
          have HF2 := Lib.hid hfin
          clear hfin
          go_wp2
          go_ret
          exact ⟨ret_int (by rw [HF.out, HF2.out]; rfl), bup (bup hb0 (hb.mono (by simp)) hb0.size) (bup (((Below.refl _ _).alloc (Nat.le_refl _) _).drew) hb2 (by simp)) (by omega)⟩
        · have hnd : dupTo s.ws (k + 1) = false := by rw [dupTo_succ HX.out, HD.out]; simp [hdup]
          have HN := Lib.hid hnd
          clear hnd
          have hbw : Below (w.heap.size + 1) (w.alloc (.cells #[.int .i64 s.most, .slice (some ⟨b, o, none⟩) s.ws.length c] 24)) w2 := bup hb (bup (((Below.refl _ _).alloc (Nat.le_refl _) _).drew) hb2 (by simp)) (by omega)
          have e3 : w2.cell? ⟨wr.heap.size, 1, none⟩ = some (.int .i64 x.since) := (hb2.cell (p := ⟨wr.heap.size, 1, none⟩) (by simp)).trans (by simp)
          have e1' : w2.cell? ⟨w.heap.size, 1, none⟩ = some (.slice (some ⟨b, o, none⟩) s.ws.length c) := boxAt (i := 1) hbw (by omega) rfl
          have HS := sortTo_succ HX.out
          clear e0 e1 e2
          cases hs : sortTo s.ws k
          · have hs' : sortTo s.ws (k + 1) = false := by rw [HS, hs]; rfl
            have HS' := Lib.hid hs'
            clear hs' HS hs
            go_wp2
            go_quiet (fail)
            go_wp2
            go_roundw
            case rel => exact ⟨k + 1, by omega, by go_num, by rw [HS'.out], HN.out, bdrewN hbw _⟩
            case measure => simp [intOf]; omega
          · rcases Nat.eq_zero_or_pos k with rfl | hkp
            · have hs' : sortTo s.ws (0 + 1) = true := by rw [HS, hs]; rfl
              have HS' := Lib.hid hs'
              clear hs' HS hs
              go_wp2
              go_quiet (fail)
              go_wp2
              go_roundw
              case rel => exact ⟨0 + 1, by omega, by go_num, by rw [HS'.out], HN.out, bdrewN hbw _⟩
              case measure => simp [intOf]; omega
            · obtain ⟨y, hy⟩ := some_lt (show k - 1 < s.ws.length by omega)
              have hs' : sortTo s.ws (k + 1) = decide (y.since ≤ x.since) := by
                rw [HS, hs, getD_some hy, show (k == 0) = false from by simp; omega]; rfl
              have hk1 : ((k : Int) == 0) = false := by simp; omega
              have ha2 := HA.out.later (bup (((Below.refl _ _).alloc (Nat.le_refl _) _).drew) hb2 (by simp))
              obtain ⟨b', o', he, hbl', i1, i2, i3⟩ := Wt.at_ ha2 hy
              cases he
              have hkm : (0 : Int) ≤ (k : Int) - 1 := by omega
              have HS' := Lib.hid hs'
              clear hs' HS hs ha2 hy
              go_wp2
              go_quiet (fail)
              go_wp2
              go_roundw
              case rel => exact ⟨k + 1, by omega, by go_num, by rw [HS'.out], HN.out, bdrewN hbw _⟩
              case measure => simp [intOf]; omega
      · obtain rfl : k = s.ws.length := by omega
        have hbw : Below w.heap.size w wr := hb0.trans (hb.mono (by omega))
        cases hs : sortTo s.ws s.ws.length
        · have HS := Lib.hid hs
          clear hs
          go_wp2
          go_ret
          exact ⟨ret_int (by rw [HF.out, HD.out, HS.out]; rfl), hbw⟩
        · have HS := Lib.hid hs
          clear hs
          go_wp2
          go_ret
          exact ⟨ret_int (by rw [HF.out, HD.out, HS.out]; rfl), hbw⟩
end Go.Proofs.Ytajkljbcfgegoaa
