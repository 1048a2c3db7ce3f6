/- Walk: the statement WaitersOrder: whoever is served came before all others whose deadline has not passed. -/
import Derived.Test.YtajkljbcfgegoaaW10
namespace Go.Proofs.Ytajkljbcfgegoaa
open Go.RowKit

theorem serve_cases {s : St} {now : Int} (h : chk s = 0) : serve s now = (s, ⟨0, 0, 0⟩, 7) ∨ (serve s now = (s, ⟨0, 0, 0⟩, 4) ∧ ∀ (i : Nat) (x : Wt), s.ws[i]? = some x → ¬ now < x.dead) ∨
    ∃ (j : Nat) (x : Wt), s.ws[j]? = some x ∧ now < x.dead ∧ idx (fun x => decide (now < x.dead)) s.ws 0 = (j : Int) ∧ serve s now = (⟨s.most, s.ws.eraseIdx j⟩, x, 0) := by
  have hr : rdy s now = 0 ∨ rdy s now = 7 := by unfold rdy; rw [h]; simp
  rcases hr with hr | hr
  · right
    have hs : serve s now = outAt s (idx (fun x => decide (now < x.dead)) s.ws 0) := by simp [serve, hr]
    rcases idx_range (fun x => decide (now < x.dead)) s.ws 0 with h0 | h0
    · left
      refine ⟨by rw [hs, h0]; rfl, fun i x hx => ?_⟩
      have ha := idx_any (fun x => decide (now < x.dead)) s.ws 0 (by omega)
      rw [h0] at ha
      have := List.any_eq_false.1 ha.symm x (List.mem_of_getElem? hx)
      simpa using this
    · right
      obtain ⟨j, hj⟩ := Int.eq_ofNat_of_zero_le h0.1
      obtain ⟨x, hx⟩ := some_lt (show j < s.ws.length by omega)
      refine ⟨j, x, hx, ?_, hj, by rw [hs, hj, outAt_pos hx]⟩
      have hj' : idx (fun x => decide (now < x.dead)) s.ws 0 = (j : Int) := hj
      exact idx_holds s.ws j x hx hj'
  · left
    simp [serve, hr]

theorem idx_drop {α : Type} (p : α → Bool) (ws : List α) (m : Nat) (y : α) (k : Int) (h : ws[m]? = some y) : idx p (ws.drop m) k = if p y then k else idx p (ws.drop (m + 1)) (k + 1) := by
  have hl := lt_some h
  rw [List.drop_eq_getElem_cons hl, idx]
  rw [List.getElem?_eq_getElem hl] at h
  rw [Option.some.inj h]
theorem erase_lt {α : Type} {ws : List α} {j m : Nat} {y : α} (h : (ws.eraseIdx j)[m]? = some y) (hm : m < j) : ws[m]? = some y := by
  rwa [List.getElem?_eraseIdx_of_lt hm] at h
theorem erase_ge {α : Type} {ws : List α} {j m : Nat} {y : α} (h : (ws.eraseIdx j)[m]? = some y) (hm : j ≤ m) : ws[m + 1]? = some y := by
  rwa [List.getElem?_eraseIdx_of_ge hm] at h

theorem serve_is (s : St) (A : Option Addr) (c : Nat) (now : Int) (w : World) {S : Nat → Prop} (t : St) (x : Wt) (e : Int) (h : Arr w S A c s.ws) (hS : ∀ b, S b → b < w.heap.size) (hl : s.ws.length < 2147483648)
    (hj : serve s now = (t, x, e)) : Calls Try.prog 12 #[.agg #[.int .i64 s.most, .slice A s.ws.length c], .int .i64 now] w (RSt3 S t x.val (.int .i64 e) w) := by
  have := serve_any s A c now w h hS hl
  rw [hj] at this
  exact this

/-- What holds at the head of a round: N is the box of s. -/
structure OrdR (w : World) (most : Int) (k : Nat) (wr : World) : Prop where
  ex : ∃ (ws : List Wt) (A : Option Addr) (c : Nat), Good ⟨most, ws⟩ ∧ ws.length + k ≤ 64 ∧ Blk wr w.heap.size 24 #[.int .i64 most, .slice A ws.length c] ∧ Arr wr (· ≠ w.heap.size) A c ws
  bel : Below w.heap.size w wr
  size : w.heap.size < wr.heap.size

set_option maxRecDepth 100000 in
set_option maxHeartbeats 6400000 in
theorem order_any (s : St) (A : Option Addr) (c : Nat) (now : Int) (w : World) (h : Arr w (· < w.heap.size) A c s.ws) :
    Calls Try.prog 3 #[.agg #[.int .i64 s.most, .slice A s.ws.length c], .int .i64 now] w fun e w' => e = .returned (.bool true) ∧ Below w.heap.size w w' := by
  have hm := h.max'
  have HAL := Lib.hid (al1 w (.cells #[.int .i64 s.most, .slice A s.ws.length c] 24))
  have H := Lib.hid h
  have H0 := Lib.hid (h.later HAL.out.2.2)
  clear h
  by_cases hlong : (200 : Int) < (s.ws.length : Int)
  · go_enter Try.func3, Try.ntmps3
    go_wp2_with (go_at_call 11; refine (awake_any _).mono ?_; rintro e w1 ⟨rfl, hb1⟩)
    go_ret
    exact ⟨rfl, bup HAL.out.2.2 hb1 (by simp only [World.size_alloc]; omega)⟩
  by_cases hc : chk s = 0
  case neg =>
    have hcb : (chk s != 0) = true := by simp [hc]
    clear hc
    go_enter Try.func3, Try.ntmps3
    go_wp2_with (first | (go_at_call 10; refine (refCheck_any s A c _ H0.out).mono ?_; rintro e w1 ⟨rfl, hb1⟩) | (go_at_call 11; refine (awake_any _).mono ?_; rintro e w2 ⟨rfl, hb2⟩))
    go_ret
    exact ⟨rfl, bup (bup HAL.out.2.2 hb1 (by simp only [World.size_alloc]; omega)) hb2 (by have := hb1.size; simp only [World.size_alloc] at this; omega)⟩
  have hg := chk_good.1 hc
  have hsh := hg.short
  have HC := Lib.hid hc
  clear hc
  go_enter Try.func3, Try.ntmps3
  go_wp2_with (go_at_call 10; refine (refCheck_any s A c _ H0.out).mono ?_; rw [HC.out]; rintro e w1 ⟨rfl, hb1⟩)
  go_loopw [5] (fun i wr => ∃ k : Nat, k ≤ 64 ∧ i = .int .i64 k ∧ OrdR w s.most k wr) (fun i _ => 70 - (intOf i).toNat)
  case atStart =>
    refine ⟨0, by omega, rfl, ⟨s.ws, A, c, hg, by omega, Blk.later HAL.out.1 hb1, (H0.out.later hb1).mono fun b hb => by omega⟩, bup HAL.out.2.2 hb1 (by simp only [World.size_alloc]; omega), ?_⟩
    have := hb1.size
    simp only [World.size_alloc] at this
    omega
  case round =>
    obtain ⟨k, hk, rfl, hR⟩ := hrel
    obtain ⟨ws, A', c', hgd, hlk, hB, hA⟩ := hR.ex
    have hbw := hR.bel
    have hNs := hR.size
    have HB := Lib.hid hB
    have HA := Lib.hid hA
    have HBW := Lib.hid hbw
    have hchk := chk_good.2 hgd
    have HG := Lib.hid hgd
    have f0 := hB.cell
    have hsv := serve_cases (now := now) hchk
    have HSV := Lib.hid hsv
    clear hR hB hA hbw hgd hchk hsv
    have HAb := Lib.hid (HA.out.bound (S' := fun b => b ≠ w.heap.size ∧ b < wr.heap.size) fun b h1 h2 => ⟨h1, h2⟩)
    rcases HSV.out with h7 | ⟨h4, hall⟩ | ⟨j, x, hx, hdx, hij, h0⟩
    · have H7 := Lib.hid h7
      clear h7
      go_wp2_with fail
      refine (serve_is ⟨s.most, ws⟩ A' c' now _ _ _ _ HAb.out (fun b h => h.2) (by show ws.length < _; omega) H7.out).mono ?_
      rintro e w2 ⟨A2, c2, rfl, ha2, hb2⟩
      unfold Wt.val
      have hs2 := hb2.size
      have HA2 := Lib.hid ((ha2.alloc (.cells #[.int .i64 s.most, .slice A2 ws.length c2] 24)).alloc (.cells #[.int .i64 0, .int .i64 0, .int .i64 0] 29))
      have HA1 := Lib.hid (((HA.out.later hb2).alloc (.cells #[.int .i64 s.most, .slice A2 ws.length c2] 24)).alloc (.cells #[.int .i64 0, .int .i64 0, .int .i64 0] 29))
      have HB2 := Lib.hid (((Blk.later HB.out hb2).alloc (.cells #[.int .i64 s.most, .slice A2 ws.length c2] 24)).alloc (.cells #[.int .i64 0, .int .i64 0, .int .i64 0] 29))
      have f2 := HB2.out.cell
      have hbb := (bup HBW.out hb2 (by omega))
      have HBB := Lib.hid ((hbb.alloc (by omega) (.cells #[.int .i64 s.most, .slice A2 ws.length c2] 24)).alloc (by simp only [World.size_alloc]; omega) (.cells #[.int .i64 0, .int .i64 0, .int .i64 0] 29))
      have hN2 : w.heap.size < w2.heap.size := by omega
      clear ha2 hb2 f0 hbb
      go_wp2_with (go_at_call 13; refine (same_any ⟨s.most, ws⟩ ⟨s.most, ws⟩ A2 A' c2 c' _ HA2.out HA1.out).mono ?_; rintro e w3 ⟨rfl, hb3⟩)
      have hs3 := hb3.size
      simp only [World.size_alloc] at hs3
      have HB3 := Lib.hid (bup HBB.out hb3 (by simp only [World.size_alloc]; omega))
      go_loopw [9] (fun i wr => i = .int .i64 0 ∧ w3 = wr) (fun _ _ => 0)
      case atStart => exact ⟨rfl, rfl⟩
      case round =>
        obtain ⟨rfl, rfl⟩ := hrel
        go_wp2_with (go_at_call 11; refine (awake_any _).mono ?_; rintro e w4 ⟨rfl, hb4⟩)
        go_ret
        exact ⟨rfl, bup HB3.out hb4 (by omega)⟩
    · have H4 := Lib.hid h4
      have HL := Lib.hid hall
      clear h4 hall
      go_wp2_with fail
      refine (serve_is ⟨s.most, ws⟩ A' c' now _ _ _ _ HAb.out (fun b h => h.2) (by show ws.length < _; omega) H4.out).mono ?_
      rintro e w2 ⟨A2, c2, rfl, ha2, hb2⟩
      unfold Wt.val
      have hs2 := hb2.size
      have HA2 := Lib.hid ((ha2.alloc (.cells #[.int .i64 s.most, .slice A2 ws.length c2] 24)).alloc (.cells #[.int .i64 0, .int .i64 0, .int .i64 0] 29))
      have HA1 := Lib.hid (((HA.out.later hb2).alloc (.cells #[.int .i64 s.most, .slice A2 ws.length c2] 24)).alloc (.cells #[.int .i64 0, .int .i64 0, .int .i64 0] 29))
      have HB2 := Lib.hid (((Blk.later HB.out hb2).alloc (.cells #[.int .i64 s.most, .slice A2 ws.length c2] 24)).alloc (.cells #[.int .i64 0, .int .i64 0, .int .i64 0] 29))
      have f2 := HB2.out.cell
      have hbb := (bup HBW.out hb2 (by omega))
      have HBB := Lib.hid ((hbb.alloc (by omega) (.cells #[.int .i64 s.most, .slice A2 ws.length c2] 24)).alloc (by simp only [World.size_alloc]; omega) (.cells #[.int .i64 0, .int .i64 0, .int .i64 0] 29))
      have hN2 : w.heap.size < w2.heap.size := by omega
      clear ha2 hb2 f0 hbb
      go_wp2_with (go_at_call 13; refine (same_any ⟨s.most, ws⟩ ⟨s.most, ws⟩ A2 A' c2 c' _ HA2.out HA1.out).mono ?_; rintro e w3 ⟨rfl, hb3⟩; have f3 := (Blk.later HB2.out hb3).cell)
      have hs3 := hb3.size
      simp only [World.size_alloc] at hs3
      have HB3 := Lib.hid (bup HBB.out hb3 (by simp only [World.size_alloc]; omega))
      have HA3 := Lib.hid (HA1.out.later hb3)
      have hlw : ws.length ≤ 64 := by omega
      go_loopw [9] (fun i wr => ∃ m : Nat, m ≤ ws.length ∧ i = .int .i64 m ∧ w3 = wr) (fun i _ => ws.length - (intOf i).toNat)
      case atStart => exact ⟨0, Nat.zero_le _, rfl, rfl⟩
      case round =>
        obtain ⟨m, hm', rfl, rfl⟩ := hrel
        by_cases hlt : m < ws.length
        · obtain ⟨y, hy⟩ := some_lt hlt
          obtain ⟨b, o, rfl, hbl, i1, i2, i3⟩ := Wt.at_ HA3.out hy
          have hdy := HL.out m y hy
          clear hy
          go_wp2
          go_roundw
          case rel => exact ⟨m + 1, by omega, by go_num, by first | rfl | trivial⟩
          case measure => simp [intOf]; omega
        · go_wp2_with (go_at_call 11; refine (awake_any _).mono ?_; rintro e w4 ⟨rfl, hb4⟩)
          go_ret
          exact ⟨rfl, bup HB3.out hb4 (by omega)⟩
    · obtain ⟨ws', hw'⟩ : ∃ ws', ws' = ws.eraseIdx j := ⟨_, rfl⟩
      have hjl := lt_some hx
      simp only at hjl
      have hlen' : ws'.length = ws.length - 1 := by rw [hw', List.length_eraseIdx, if_pos hjl]
      rw [← hw'] at h0
      have H0' := Lib.hid h0
      have HW' := Lib.hid hw'
      have HX := Lib.hid hx
      have HIJ := Lib.hid hij
      have HLEN := Lib.hid hlen'
      clear h0 hw' hx hij hlen'
      go_wp2_with fail
      refine (serve_is ⟨s.most, ws⟩ A' c' now _ _ _ _ HAb.out (fun b h => h.2) (by show ws.length < _; omega) H0'.out).mono ?_
      rintro e w2 ⟨A2, c2, rfl, ha2, hb2⟩
      unfold Wt.val
      have hs2 := hb2.size
      have HA2 := Lib.hid (((ha2.bound (S' := fun b => b ≠ w.heap.size ∧ b < w2.heap.size) fun b h hl => by omega).alloc (.cells #[.int .i64 s.most, .slice A2 ws'.length c2] 24)).alloc (.cells #[.int .i64 x.call, .int .i64 x.since, .int .i64 x.dead] 29))
      have HA1 := Lib.hid (((HA.out.later hb2).alloc (.cells #[.int .i64 s.most, .slice A2 ws'.length c2] 24)).alloc (.cells #[.int .i64 x.call, .int .i64 x.since, .int .i64 x.dead] 29))
      have HB2 := Lib.hid (((Blk.later HB.out hb2).alloc (.cells #[.int .i64 s.most, .slice A2 ws'.length c2] 24)).alloc (.cells #[.int .i64 x.call, .int .i64 x.since, .int .i64 x.dead] 29))
      have f2 := HB2.out.cell
      have z2 := HB2.out.frozen
      have hbb := (bup HBW.out hb2 (by omega))
      have HBB := Lib.hid ((hbb.alloc (by omega) (.cells #[.int .i64 s.most, .slice A2 ws'.length c2] 24)).alloc (by simp only [World.size_alloc]; omega) (.cells #[.int .i64 x.call, .int .i64 x.since, .int .i64 x.dead] 29))
      have hN2 : w.heap.size < w2.heap.size := by omega
      have hlw : ws.length ≤ 64 := by omega
      have hlw' : ws'.length ≤ 64 := by have := HLEN.out; omega
      obtain ⟨w3, hw3⟩ : ∃ w3, w3 = (w2.alloc (.cells #[.int .i64 s.most, .slice A2 ws'.length c2] 24)).alloc (.cells #[.int .i64 x.call, .int .i64 x.since, .int .i64 x.dead] 29) := ⟨_, rfl⟩
      have HW3 := Lib.hid hw3
      have HT3 := Lib.hid (show Blk w3 w2.heap.size 24 #[.int .i64 s.most, .slice A2 ws'.length c2] from by rw [hw3]; exact (Blk.new _ _ _).alloc _)
      have HX3 := Lib.hid (show Blk w3 (w2.heap.size + 1) 29 #[.int .i64 x.call, .int .i64 x.since, .int .i64 x.dead] from by rw [hw3]; have := Blk.new (w2.alloc (.cells #[.int .i64 s.most, .slice A2 ws'.length c2] 24)) 29 #[.int .i64 x.call, .int .i64 x.since, .int .i64 x.dead]; rwa [World.size_alloc] at this)
      have HN3 := Lib.hid (show Blk w3 w.heap.size 24 #[.int .i64 s.most, .slice A' ws.length c'] from by rw [hw3]; exact HB2.out)
      have HAn3 := Lib.hid (show Arr w3 (· ≠ w.heap.size) A' c' ws from by rw [hw3]; exact HA1.out)
      have HAt3 := Lib.hid (show Arr w3 (fun b => b ≠ w.heap.size ∧ b < w2.heap.size) A2 c2 ws' from by rw [hw3]; exact HA2.out)
      have HBB3 := Lib.hid (show Below w.heap.size w w3 from by rw [hw3]; exact HBB.out)
      have hs3 : w3.heap.size = w2.heap.size + 1 + 1 := by rw [hw3]; simp only [World.size_alloc]
      have HS3 := Lib.hid hs3
      have HW3' := Lib.hid hw3
      clear ha2 hb2 f0 hbb z2 hw3 hs3
      go_wp2_with fail
      rw [← HW3'.out]
      clear f2
      have e0 := HN3.out.cell
      have y0 := HN3.out.frozen
      have e1 := HT3.out.cell
      have e2 := HX3.out.cell
      go_loopw [10, 11] (fun p i wr => ∃ (m : Nat) (q : Int), m ≤ ws.length ∧ i = .int .i64 ((m : Int) - 1) ∧ p = .int .i64 q ∧ q = idx (fun x => decide (now < x.dead)) (ws.drop m) (m : Int) ∧ w3 = wr) (fun _ i _ => (intOf i + 1).toNat)
      case atStart => exact ⟨ws.length, -1, Nat.le_refl _, rfl, rfl, by rw [List.drop_length]; rfl, rfl⟩
      case round =>
        obtain ⟨m, q, hml, rfl, rfl, hq, rfl⟩ := hrel
        have HQ := Lib.hid hq
        clear hq
        rcases Nat.eq_zero_or_pos m with rfl | hpos
        · have hqj : q = (j : Int) := by have := HQ.out; rw [List.drop_zero] at this; rw [this]; exact HIJ.out
          subst hqj
          obtain ⟨b, o, rfl, hbl, i1, i2, i3⟩ := Wt.at_ HAn3.out HX.out
          have l1 : (0 : Int) ≤ (j : Int) := by omega
          have l2 : (j : Int) < (ws.length : Int) := by omega
          have l3 : ¬ (j : Int) < 0 := by omega
          have l4 : IntKind.i64.wrap ((ws.length : Int) - 1) = (ws.length : Int) - 1 := IntWalk.i64_in _ (by omega)
          have l5 : ((ws'.length : Int) != (ws.length : Int) - 1) = false := by have := HLEN.out; simp; omega
          have l6 : (s.most != s.most) = false := by simp
          have l7 : decide ((j : Int) < 0) = false := by simp
          have hq := fun w => neq_wt w x x
          go_wp2
          go_quiet (fail)
          clear l4
          go_wp2
          go_loopw [12] (fun i wr => ∃ m : Nat, m ≤ ws'.length ∧ i = .int .i64 m ∧ ∃ n, w3.drewN n = wr) (fun i _ => ws'.length - (intOf i).toNat)
          case atStart => exact ⟨0, Nat.zero_le _, rfl, _, rfl⟩
          case round =>
            obtain ⟨m, hml', rfl, n, rfl⟩ := hrel
            by_cases hlt : m < ws'.length
            · obtain ⟨y, hy⟩ := some_lt hlt
              have hy2 := hy
              rw [HW'.out] at hy2
              obtain ⟨b2, o2, rfl, hbl2, p1, p2, p3⟩ := Wt.at_ HAt3.out hy
              have hq2 := fun w => neq_wt w y y
              have g1 : (0 : Int) ≤ (m : Int) := by omega
              have g2 : (m : Int) < (ws'.length : Int) := by omega
              by_cases hjm : j ≤ m
              · have hyo := erase_ge hy2 hjm
                have hlo := lt_some hyo
                obtain ⟨b3, o3, he, _, r1, r2, r3⟩ := Wt.at_ HAn3.out hyo
                cases he
                have g3 : (0 : Int) ≤ (m : Int) + 1 := by omega
                have g4 : (m : Int) + 1 < (ws.length : Int) := by omega
                have g5 : ((m : Int) + 1).toNat = m + 1 := by omega
                clear hy hy2 hyo
                go_wp2
                go_quiet (fail)
                clear g5
                go_wp2
                go_roundw
                case rel => exact ⟨m + 1, by omega, by go_num, _, rfl⟩
                case measure => simp [intOf]; omega
              · have hyo := erase_lt hy2 (by omega)
                have hlo := lt_some hyo
                obtain ⟨b3, o3, he, _, r1, r2, r3⟩ := Wt.at_ HAn3.out hyo
                cases he
                have g4 : (m : Int) < (ws.length : Int) := by omega
                clear hy hy2 hyo
                go_wp2
                go_quiet (fail)
                go_wp2
                go_roundw
                case rel => exact ⟨m + 1, by omega, by go_num, _, rfl⟩
                case measure => simp [intOf]; omega
            · have hge := HG.out.erase j
              simp only at hge
              rw [← HW'.out] at hge
              have HGE := Lib.hid hge
              clear hge
              go_wp2
              go_roundw
              case rel =>
                have hlen2 := HLEN.out
                refine ⟨k + 1, by omega, by go_num, ⟨ws', A2, c2, HGE.out, by omega, Blk.two (HN3.out.drewN _) _ _, Arr.two (Arr.drewN (HAt3.out.mono fun b h => h.1) _) (fun h => h rfl) _ _⟩, bel2 (bdrewN HBB3.out _) (Nat.le_refl _) _ _, ?_⟩
                rw [size_two]
                show w.heap.size < w3.heap.size
                rw [HS3.out]
                omega
              case measure => simp [intOf]; omega
        · obtain ⟨y, hy⟩ := some_lt (show m - 1 < ws.length by omega)
          have hdr := idx_drop (fun x => decide (now < x.dead)) ws (m - 1) y ((m - 1 : Nat) : Int) hy
          rw [show m - 1 + 1 = m from by omega, show ((m - 1 : Nat) : Int) + 1 = (m : Int) from by omega, ← HQ.out] at hdr
          have HDR := Lib.hid hdr
          obtain ⟨b, o, rfl, hbl, i1, i2, i3⟩ := Wt.at_ HAn3.out hy
          have l1 : (0 : Int) ≤ (m : Int) - 1 := by omega
          have l2 : (m : Int) - 1 < (ws.length : Int) := by omega
          clear hy hdr
          by_cases hdy : now < y.dead
          · go_wp2
            go_roundw
            case rel => exact ⟨m - 1, _, by omega, by first | rfl | (congr 1; omega), rfl, by rw [HDR.out]; simp [hdy]; omega, by first | rfl | trivial⟩
            case measure => simp [intOf]; omega
          · go_wp2
            go_roundw
            case rel => exact ⟨m - 1, _, by omega, by first | rfl | (congr 1; omega), rfl, by rw [HDR.out]; simp [hdy], by first | rfl | trivial⟩
            case measure => simp [intOf]; omega
end Go.Proofs.Ytajkljbcfgegoaa
