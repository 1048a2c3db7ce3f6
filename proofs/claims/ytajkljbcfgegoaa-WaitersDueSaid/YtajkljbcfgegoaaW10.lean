/- Walks: the reference's Same, Check. -/
import Derived.Test.YtajkljbcfgegoaaW8
import Derived.Test.YtajkljbcfgegoaaP1
namespace Go.Proofs.Ytajkljbcfgegoaa
open Go.RowKit

theorem between_yes (n a b : Int) (w : World) (h : a ≤ n ∧ n ≤ b) : Calls Try.prog 26 #[.int .i64 n, .int .i64 a, .int .i64 b] w fun e w' => e = .returned (.bool true) ∧ w = w' :=
  (between_any n a b w).mono fun e w' ⟨he, hw⟩ => ⟨by rw [he]; simp [h.1, h.2], hw⟩
theorem between_no (n a b : Int) (w : World) (h : ¬ (a ≤ n ∧ n ≤ b)) : Calls Try.prog 26 #[.int .i64 n, .int .i64 a, .int .i64 b] w fun e w' => e = .returned (.bool false) ∧ w = w' :=
  (between_any n a b w).mono fun e w' ⟨he, hw⟩ => ⟨by rw [he]; congr 2; simp; omega, hw⟩

set_option maxHeartbeats 800000 in
theorem same_any (s t : St) (A A' : Option Addr) (c c' : Nat) (w : World) {S S' : Nat → Prop} (h : Arr w S A c s.ws) (h' : Arr w S' A' c' t.ws) :
    Calls Try.prog 13 #[.agg #[.int .i64 s.most, .slice A s.ws.length c], .agg #[.int .i64 t.most, .slice A' t.ws.length c']] w fun e w' => e = .returned (.bool (decide (s = t))) ∧ Below w.heap.size w w' := by
  have HAL := Lib.hid (al2 w (.cells #[.int .i64 s.most, .slice A s.ws.length c] 24) (.cells #[.int .i64 t.most, .slice A' t.ws.length c'] 24))
  have H := Lib.hid (h.later HAL.out.2.2.2)
  have H' := Lib.hid (h'.later HAL.out.2.2.2)
  clear h h'
  by_cases hm : s.most = t.most
  · have hb : (s.most == t.most) = true := by simp [hm]
    have hd : decide (s = t) = decide (s.ws = t.ws) := by
      obtain ⟨a, b⟩ := s
      obtain ⟨a', b'⟩ := t
      simp only at hm
      simp [hm]
    have HD := Lib.hid hd
    clear hm hd
    go_enter Try.func13, Try.ntmps13
    go_wp2_with (go_at_call 31; refine (sameList_any A A' c c' s.ws t.ws _ H.out H'.out).mono ?_; rintro e w1 ⟨rfl, hb1⟩)
    go_ret
    exact ⟨ret_bool HD.out.symm, bup HAL.out.2.2.2 hb1 (by simp only [World.size_alloc]; omega)⟩
  · have hb : (s.most == t.most) = false := by simp [hm]
    have hd : decide (s = t) = false := by simp; intro e; exact hm (by rw [e])
    have HD := Lib.hid hd
    clear hm hd
    go_enter Try.func13, Try.ntmps13
    go_wp2
    go_ret
    exact ⟨ret_bool HD.out.symm, HAL.out.2.2.2⟩

theorem dup_none {ws : List Wt} {k : Nat} {x : Wt} (hx : ws[k]? = some x) (hd : dupTo ws k = false) (h : ∀ i y, i < k → ws[i]? = some y → y.call ≠ x.call) : dupTo ws (k + 1) = false := by
  rw [dupTo_succ hx, hd, place_any_eq, Bool.false_or, List.any_eq_false]
  intro y hy
  obtain ⟨j, hj⟩ := List.getElem?_of_mem hy
  rw [List.getElem?_take] at hj
  split at hj
  · simpa using h j y (by assumption) hj
  · cases hj
theorem dup_hit {ws : List Wt} {k j : Nat} {x y : Wt} (hx : ws[k]? = some x) (hj : j < k) (hy : ws[j]? = some y) (h : y.call = x.call) : dupTo ws (k + 1) = true := by
  rw [dupTo_succ hx, place_any_eq, Bool.or_eq_true]
  right
  exact List.any_eq_true.2 ⟨y, List.mem_of_getElem? (i := j) (by rw [List.getElem?_take, if_pos hj]; exact hy), by simp [h]⟩
theorem sortTo_false {ws : List Wt} {k : Nat} : ∀ {n : Nat}, k ≤ n → sortTo ws k = false → sortTo ws n = false
  | 0, h, hd => by obtain rfl : k = 0 := by omega
                   exact hd
  | n + 1, h, hd => by
    by_cases hk : k = n + 1
    · subst hk; exact hd
    · rw [sortTo, sortTo_false (n := n) (by omega) hd]; rfl

/-- None of the first k is odd; none of the first k has a fellow before it; the first k are sorted. -/
def fine (ws : List Wt) (k : Nat) : Prop := ∀ j x, j < k → ws[j]? = some x → oddW x = false

set_option maxHeartbeats 3200000 in
theorem refCheck_any (s : St) (A : Option Addr) (c : Nat) (w : World) {S : Nat → Prop} (h : Arr w S A c s.ws) :
    Calls Try.prog 10 #[.agg #[.int .i64 s.most, .slice A s.ws.length c]] w fun e w' => e = .returned (.int .i64 (chk s)) ∧ Below w.heap.size w w' := by
  have hm := h.max'
  have HAL := Lib.hid (al1 w (.cells #[.int .i64 s.most, .slice A s.ws.length c] 24))
  have H := Lib.hid h
  have hsz : (w.alloc (.cells #[.int .i64 s.most, .slice A s.ws.length c] 24)).heap.size = w.heap.size + 1 := HAL.out.2.1
  have HSZ := Lib.hid hsz
  clear h hsz
  by_cases hr : 0 ≤ s.most ∧ s.most ≤ 64
  case neg =>
    have hfin : chk s = 7 := by
      have : room s.most = false := by simp [room]; omega
      simp [chk, this]
    have HF := Lib.hid hfin
    clear hfin
    go_enter Try.func10, Try.ntmps10
    go_wp2_with (go_at_call 26; refine (between_no _ _ _ _ ?_).mono ?_; omega; rintro e w' ⟨rfl, rfl⟩)
    go_ret
    exact ⟨ret_int HF.out.symm, HAL.out.2.2⟩
  have hroom : room s.most = true := by simp [room]; omega
  have HR := Lib.hid hroom
  clear hroom
  go_enter Try.func10, Try.ntmps10
  go_wp2_with (go_at_call 26; refine (between_yes _ _ _ _ ?_).mono ?_; omega; rintro e w' ⟨rfl, rfl⟩)
  go_loopw [3] (fun i wr => ∃ k : Nat, k ≤ s.ws.length ∧ i = .int .i64 k ∧ fine s.ws k ∧ Below (w.heap.size + 1) (w.alloc (.cells #[.int .i64 s.most, .slice A s.ws.length c] 24)) wr) (fun i _ => s.ws.length - (intOf i).toNat)
  case atStart => exact ⟨0, Nat.zero_le _, rfl, fun j x hj _ => absurd hj (by omega), Below.refl _ _⟩
  case round =>
    obtain ⟨k, hk, rfl, hn, hb⟩ := hrel
    have HN := Lib.hid hn
    have HB := Lib.hid hb
    have f0 := (Blk.below (t := 24) HAL.out.1 hb (by omega)).cell
    have hs := hb.size
    rw [HSZ.out] at hs
    have hs1 : w.heap.size < wr.heap.size := by omega
    clear hn hb
    by_cases hlt : k < s.ws.length
    · obtain ⟨x, hx⟩ := some_lt hlt
      obtain ⟨b, o, rfl, hbl, h1, h2, h3⟩ := Wt.at_ (H.out.later (HAL.out.2.2.trans (HB.out.mono (by omega)))) hx
      have HX := Lib.hid hx
      clear hx
      have hbody : ∀ (hodd : oddW x = true), chk s = 7 := fun hodd => by
        have : s.ws.any oddW = true := List.any_eq_true.2 ⟨x, List.mem_of_getElem? HX.out, hodd⟩
        simp [chk, this]
      have HO := Lib.hid hbody
      clear hbody
      have hbw : Below w.heap.size w (wr.alloc (.cells #[.int .i64 x.call, .int .i64 x.since, .int .i64 x.dead] 29)) := (HAL.out.2.2.trans (HB.out.mono (by omega))).alloc (by omega) _
      by_cases q1 : 1 ≤ x.call ∧ x.call ≤ 1000000000000000
      case neg =>
        have ho : oddW x = true := by simp [oddW, callOk]; omega
        have HOX := Lib.hid (HO.out ho)
        clear ho
        go_wp2_with (first | (go_at_call 26; refine (between_yes _ _ _ _ ?_).mono ?_; omega; rintro e w' ⟨rfl, rfl⟩) | (go_at_call 26; refine (between_no _ _ _ _ ?_).mono ?_; omega; rintro e w' ⟨rfl, rfl⟩))
        go_ret
        exact ⟨ret_int HOX.out.symm, hbw⟩
      by_cases q2 : 0 ≤ x.since ∧ x.since ≤ 1000000000000
      case neg =>
        have ho : oddW x = true := by simp [oddW, callOk]; omega
        have HOX := Lib.hid (HO.out ho)
        clear ho
        go_wp2_with (first | (go_at_call 26; refine (between_yes _ _ _ _ ?_).mono ?_; omega; rintro e w' ⟨rfl, rfl⟩) | (go_at_call 26; refine (between_no _ _ _ _ ?_).mono ?_; omega; rintro e w' ⟨rfl, rfl⟩))
        go_ret
        exact ⟨ret_int HOX.out.symm, hbw⟩
      obtain ⟨q2a, q2b⟩ := q2
      by_cases q3 : x.since + 1 ≤ x.dead ∧ x.dead ≤ 1000000000001
      case neg =>
        have ho : oddW x = true := by simp [oddW, callOk]; omega
        have HOX := Lib.hid (HO.out ho)
        clear ho
        go_wp2_with (first | (go_at_call 26; refine (between_yes _ _ _ _ ?_).mono ?_; omega; rintro e w' ⟨rfl, rfl⟩) | (go_at_call 26; refine (between_no _ _ _ _ ?_).mono ?_; omega; rintro e w' ⟨rfl, rfl⟩))
        go_ret
        exact ⟨ret_int HOX.out.symm, hbw⟩
      have ho : oddW x = false := by simp [oddW, callOk]; omega
      have HOX := Lib.hid ho
      clear ho
      go_wp2_with (first | (go_at_call 26; refine (between_yes _ _ _ _ ?_).mono ?_; omega; rintro e w' ⟨rfl, rfl⟩) | (go_at_call 26; refine (between_no _ _ _ _ ?_).mono ?_; omega; rintro e w' ⟨rfl, rfl⟩))
      go_roundw
      case rel =>
        refine ⟨k + 1, by omega, by go_num, fun j y hj hy => ?_, HB.out.alloc (by omega) _⟩
        by_cases hjk : j = k
        · subst hjk; rw [HX.out] at hy; cases hy; exact HOX.out
        · exact HN.out j y (by omega) hy
      case measure => simp [intOf]; omega
    · obtain rfl : k = s.ws.length := by omega
      have hany : s.ws.any oddW = false := List.any_eq_false.2 fun x hx => by
        obtain ⟨j, hj⟩ := List.getElem?_of_mem hx
        simp [HN.out j x (lt_some hj) hj]
      have HANY := Lib.hid hany
      clear hany
      by_cases hl : s.most < s.ws.length
      · have hfin : chk s = 3 := by simp [chk, HR.out, HANY.out, hl]
        have HF := Lib.hid hfin
        clear hfin
        go_wp2
        go_ret
        exact ⟨ret_int HF.out.symm, HAL.out.2.2.trans (HB.out.mono (by omega))⟩
      have hfin : chk s = if dupTo s.ws s.ws.length then 8 else if sortTo s.ws s.ws.length then 0 else 6 := by simp [chk, HR.out, HANY.out, hl]
      have HF := Lib.hid hfin
      clear hfin
      obtain ⟨wo, rfl⟩ : ∃ wo : World, wo = wr := ⟨_, rfl⟩
      go_wp2
      go_loopw [5] (fun i wr => ∃ k : Nat, k ≤ s.ws.length ∧ i = .int .i64 k ∧ dupTo s.ws k = false ∧ ∃ n, wo.drewN n = wr) (fun i _ => s.ws.length - (intOf i).toNat)
      case atStart => exact ⟨0, Nat.zero_le _, rfl, rfl, 0, rfl⟩
      case round =>
        obtain ⟨k, hk, rfl, hd, n, rfl⟩ := hrel
        have HD := Lib.hid hd
        clear hd
        by_cases hlt : k < s.ws.length
        · obtain ⟨x, hx⟩ := some_lt hlt
          obtain ⟨b, o, rfl, hbl, h1, h2, h3⟩ := Wt.at_ (H.out.later (HAL.out.2.2.trans (HB.out.mono (by omega)))) hx
          have HX := Lib.hid hx
          clear hx
          go_wp2
          go_loopw [6] (fun i wr => ∃ j : Nat, j ≤ k ∧ i = .int .i64 j ∧ (∀ i y, i < j → s.ws[i]? = some y → y.call ≠ x.call) ∧ ∃ n, wo.drewN n = wr) (fun i _ => k - (intOf i).toNat)
          case atStart => exact ⟨0, Nat.zero_le _, rfl, fun i y hi _ => absurd hi (by omega), _, rfl⟩
          case round =>
            obtain ⟨j, hj, rfl, hne, n', rfl⟩ := hrel
            have HNE := Lib.hid hne
            clear hne
            by_cases hjk : j < k
            · obtain ⟨y, hy⟩ := some_lt (show j < s.ws.length by omega)
              obtain ⟨b', o', he, hbl', i1, i2, i3⟩ := Wt.at_ (H.out.later (HAL.out.2.2.trans (HB.out.mono (by omega)))) hy
              cases he
              have HY := Lib.hid hy
              have l0 : (0 : Int) ≤ (k : Int) := by omega
              have l1 : (k : Int) < (s.ws.length : Int) := by omega
              have l2 : (0 : Int) ≤ (j : Int) := by omega
              have l3 : (j : Int) < (s.ws.length : Int) := by omega
              clear hy
              by_cases hxy : x.call = y.call
              · have hq : (x.call == y.call) = true := by simp [hxy]
                have hdd : dupTo s.ws s.ws.length = true := dupTo_mono (k := k + 1) (by omega) (dup_hit HX.out hjk HY.out hxy.symm)
                have HDD := Lib.hid hdd
                clear hdd hxy
                go_wp2
                go_quiet (fail)
                go_wp2
                go_ret
                exact ⟨ret_int (by rw [HF.out, HDD.out]; rfl), bdrewN (bdrewN (HAL.out.2.2.trans (HB.out.mono (by omega))) _) _⟩
              · have hq : (x.call == y.call) = false := by simp [hxy]
                have HXY := Lib.hid hxy
                clear hxy
                go_wp2
                go_quiet (fail)
                go_wp2
                go_roundw
                case rel =>
                  refine ⟨j + 1, by omega, by go_num, fun i z hi hz => ?_, _, rfl⟩
                  by_cases hij : i = j
                  · subst hij; rw [HY.out] at hz; cases hz; exact fun e => HXY.out e.symm
                  · exact HNE.out i z (by omega) hz
                case measure => simp [intOf]; omega
            · obtain rfl : j = k := by omega
              go_wp2
              go_roundw
              case rel => exact ⟨j + 1, by omega, by go_num, dup_none HX.out HD.out HNE.out, _, rfl⟩
              case measure => simp [intOf]; omega
        · obtain rfl : k = s.ws.length := by omega
          go_wp2
          go_loopw [7] (fun i wr => ∃ k : Nat, 1 ≤ k ∧ (k ≤ s.ws.length ∨ k = 1) ∧ i = .int .i64 k ∧ sortTo s.ws (min k s.ws.length) = true ∧ ∃ n, wo.drewN n = wr) (fun i _ => s.ws.length - (intOf i).toNat)
          case atStart =>
            refine ⟨1, by omega, .inr rfl, rfl, ?_, _, rfl⟩
            rcases Nat.eq_zero_or_pos s.ws.length with h0 | h0
            · rw [h0]; rfl
            · rw [Nat.min_eq_left h0]; rfl
          case round =>
            obtain ⟨k, hk1, hk, rfl, hsrt, n', rfl⟩ := hrel
            have HSRT := Lib.hid hsrt
            clear hsrt
            by_cases hlt2 : k < s.ws.length
            · obtain ⟨x, hx⟩ := some_lt hlt2
              obtain ⟨y, hy⟩ := some_lt (show k - 1 < s.ws.length by omega)
              obtain ⟨b, o, rfl, hbl, h1, h2, h3⟩ := Wt.at_ (H.out.later (HAL.out.2.2.trans (HB.out.mono (by omega)))) hx
              obtain ⟨b', o', he, hbl', i1, i2, i3⟩ := Wt.at_ (H.out.later (HAL.out.2.2.trans (HB.out.mono (by omega)))) hy
              cases he
              have hss : sortTo s.ws (k + 1) = decide (y.since ≤ x.since) := by
                have h0 := HSRT.out
                rw [Nat.min_eq_left (by omega)] at h0
                rw [sortTo_succ hx, h0, getD_some hy, show (k == 0) = false from by simp; omega]; rfl
              have HSS := Lib.hid hss
              have l0 : (0 : Int) ≤ (k : Int) := by omega
              have l1 : (k : Int) < (s.ws.length : Int) := by omega
              have l2 : (0 : Int) ≤ (k : Int) - 1 := by omega
              have l3 : (k : Int) - 1 < (s.ws.length : Int) := by omega
              have l4 : IntKind.i64.wrap ((k : Int) - 1) = (k : Int) - 1 := IntWalk.i64_in _ (by omega)
              have l5 : ((k : Int) - 1).toNat = k - 1 := by omega
              clear hx hy hss
              by_cases hxy : x.since < y.since
              · have hfl : sortTo s.ws s.ws.length = false := sortTo_false (k := k + 1) (by omega) (by rw [HSS.out]; simp; omega)
                have HFL := Lib.hid hfl
                clear hfl
                go_wp2
                go_quiet (fail)
                go_wp2
                go_ret
                exact ⟨ret_int (by rw [HF.out, HD.out, HFL.out]; rfl), bdrewN (bdrewN (HAL.out.2.2.trans (HB.out.mono (by omega))) _) _⟩
              · have hfl : sortTo s.ws (k + 1) = true := by rw [HSS.out]; simp; omega
                have HFL := Lib.hid hfl
                clear hfl
                go_wp2
                go_quiet (fail)
                clear l4 l5
                go_wp2
                go_roundw
                case rel => exact ⟨k + 1, by omega, .inl (by omega), by go_num, by rw [Nat.min_eq_left (by omega)]; exact HFL.out, _, rfl⟩
                case measure => simp [intOf]; omega
            · have hfl : sortTo s.ws s.ws.length = true := by have := HSRT.out; rwa [Nat.min_eq_right (by omega)] at this
              have HFL := Lib.hid hfl
              clear hfl
              go_wp2
              go_ret
              exact ⟨ret_int (by rw [HF.out, HD.out, HFL.out]; rfl), bdrewN (HAL.out.2.2.trans (HB.out.mono (by omega))) _⟩
end Go.Proofs.Ytajkljbcfgegoaa
