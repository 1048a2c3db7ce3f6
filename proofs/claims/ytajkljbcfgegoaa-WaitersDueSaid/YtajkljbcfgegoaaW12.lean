/- Walk: the statement WaitersDue: Expire takes those whose deadline passed, and Next says when; in many steps the same as in one. -/
import Derived.Test.YtajkljbcfgegoaaW8
import Derived.Test.YtajkljbcfgegoaaW10
import Derived.Test.YtajkljbcfgegoaaP2
import Derived.Test.YtajkljbcfgegoaaO2
import Derived.Deep.Cut
import Derived.Deep.CutRange
namespace Go.Proofs.Ytajkljbcfgegoaa
open Go.RowKit

theorem next_is (s : St) (A : Option Addr) (c : Nat) (w : World) {S : Nat → Prop} (r e : Int) (h : Arr w S A c s.ws) (hj : next s = (r, e)) :
    Calls Try.prog 14 #[.agg #[.int .i64 s.most, .slice A s.ws.length c]] w fun e' w' => e' = .returned (.tuple #[.int .i64 r, .int .i64 e]) ∧ Below w.heap.size w w' := by
  have := next_any s A c w h
  rw [hj] at this
  exact this

/-- What holds at the head of a round: the box of s, the box g of t. -/
structure DueR (w : World) (s : St) (A : Option Addr) (c : Nat) (B : Option Addr) (cb : Nat) (bs : List UInt8) (g : Nat) (k : Nat) (now left : Int) (wr : World) : Prop where
  ex : ∃ (ws : List Wt) (A' : Option Addr) (c' : Nat), At ⟨s.most, ws⟩ now ∧ left + (ws.length : Int) = (s.ws.length : Int) ∧ (ws = s.ws ∧ k = 0 ∨ ws = s.ws.filter fun x => decide (now < x.dead)) ∧
    Blk wr g 24 #[.int .i64 s.most, .slice A' ws.length c'] ∧ Arr wr (· ≠ g) A' c' ws
  at_ : At s now
  pos : 0 ≤ left
  box : Blk wr w.heap.size 24 #[.int .i64 s.most, .slice A s.ws.length c]
  arr : Arr wr (· < w.heap.size) A c s.ws
  by_ : Arr wr (· < w.heap.size) B cb bs
  bel : Below w.heap.size w wr
  size : g < wr.heap.size
  gw : w.heap.size < g

set_option maxRecDepth 100000 in
set_option maxHeartbeats 6400000 in
theorem due_any (s : St) (A : Option Addr) (c : Nat) (B : Option Addr) (cb : Nat) (bs : List UInt8) (w : World) (h : Arr w (· < w.heap.size) A c s.ws) (hb : Arr w (· < w.heap.size) B cb bs) :
    Calls Try.prog 4 #[.agg #[.int .i64 s.most, .slice A s.ws.length c], .slice B bs.length cb] w fun e w' => e = .returned (.bool true) ∧ Below w.heap.size w w' := by
  have hm := h.max'
  have hmb := hb.max'
  have HAL := Lib.hid (al1 w (.cells #[.int .i64 s.most, .slice A s.ws.length c] 24))
  have H0 := Lib.hid (h.later HAL.out.2.2)
  have HB0 := Lib.hid (hb.later HAL.out.2.2)
  clear h hb
  by_cases hlong : (20 : Int) < (bs.length : Int)
  · go_enter Try.func4, Try.ntmps4
    go_wp2_with (go_at_call 11; refine (awake_any _).mono ?_; rintro e w1 ⟨rfl, hb1⟩)
    go_ret
    exact ⟨rfl, bup HAL.out.2.2 hb1 (by simp only [World.size_alloc]; omega)⟩
  by_cases hc : chk s = 0
  case neg =>
    have hcb : (chk s != 0) = true := by simp [hc]
    clear hc
    go_enter Try.func4, Try.ntmps4
    go_wp2_with (first | (go_at_call 10; refine (refCheck_any s A c _ H0.out).mono ?_; rintro e w1 ⟨rfl, hb1⟩) | (go_at_call 11; refine (awake_any _).mono ?_; rintro e w2 ⟨rfl, hb2⟩))
    go_ret
    exact ⟨rfl, bup (bup HAL.out.2.2 hb1 (by simp only [World.size_alloc]; omega)) hb2 (by have := hb1.size; simp only [World.size_alloc] at this; omega)⟩
  have hg := chk_good.1 hc
  have hsh := hg.short
  have HG := Lib.hid hg
  have HC := Lib.hid hc
  clear hc hg
  go_enter Try.func4, Try.ntmps4
  go_upto_if 30 with (go_at_call 10; refine (refCheck_any s A c _ H0.out).mono ?_; rw [HC.out]; rintro e w1 ⟨rfl, hb1⟩; have f0 := (Blk.later HAL.out.1 hb1).cell)
  have hs1 := hb1.size
  rw [HAL.out.2.1] at hs1
  have HS := Lib.hid (H0.out.later hb1)
  have HY := Lib.hid (HB0.out.later hb1)
  have HB := Lib.hid (Blk.later HAL.out.1 hb1)
  have HW := Lib.hid (bup HAL.out.2.2 hb1 (by rw [HAL.out.2.1]; omega))
  clear hb1
  go_cut [5] from 18 (fun s5 wx => wx = w1 ∧ ∃ now : Int, s5 = .int .i64 now ∧ At s now)
  case first =>
    by_cases h0 : s.ws.length = 0
    · have hat := At.start0 HG.out h0
      have HAT := Lib.hid hat
      clear hat
      go_wp2
      go_meet
      case rel => exact ⟨rfl, 0, rfl, HAT.out⟩
    · obtain ⟨y, hy⟩ := some_lt (show s.ws.length - 1 < s.ws.length by omega)
      have HAT := Lib.hid (At.start HG.out hy)
      obtain ⟨b, o, rfl, hbl, i1, i2, i3⟩ := Wt.at_ HS.out hy
      have l1 : IntKind.i64.wrap ((s.ws.length : Int) - 1) = (s.ws.length : Int) - 1 := IntWalk.i64_in _ (by omega)
      have l2 : ((s.ws.length : Int) - 1).toNat = s.ws.length - 1 := by omega
      have l3 : (0 : Int) ≤ (s.ws.length : Int) - 1 := by omega
      have l4 : (s.ws.length : Int) - 1 < (s.ws.length : Int) := by omega
      have l5 : (0 : Int) < (s.ws.length : Int) := by omega
      clear hy
      go_wp2
      go_meet
      case rel => exact ⟨rfl, _, rfl, HAT.out⟩
  case rest =>
    obtain ⟨rfl, now, rfl, hat⟩ := hcut
    have HAT := Lib.hid hat
    clear hat
    obtain ⟨wk, rfl⟩ : ∃ wk : World, wk = wc := ⟨wc, rfl⟩
    have f0 := HB.out.cell
    go_wp2
    go_loopw [5, 7, 8] (fun n l i wr => ∃ (k : Nat) (now left : Int), k ≤ bs.length ∧ n = .int .i64 now ∧ l = .int .i64 left ∧ i = .int .i64 k ∧ DueR w s A c B cb bs wk.heap.size k now left wr) (fun _ _ i _ => bs.length - (intOf i).toNat)
    case atStart =>
      refine ⟨0, now, 0, Nat.zero_le _, rfl, rfl, rfl, ⟨s.ws, A, c, HAT.out, by omega, .inl ⟨rfl, rfl⟩, Blk.new _ _ _, (HS.out.alloc _).mono fun b hb => by omega⟩, HAT.out, Int.le_refl _, HB.out.alloc _, HS.out.alloc _, HY.out.alloc _, HW.out.alloc (by omega) _, by simp only [World.size_alloc]; omega, by omega⟩
    case round =>
      obtain ⟨k, now, left, hk, rfl, rfl, rfl, hR⟩ := hrel
      obtain ⟨ws, A', c', hat', hsum, hws, hB, hA⟩ := hR.ex
      have HR := Lib.hid hR
      have HBg := Lib.hid hB
      have HA := Lib.hid hA
      have HT := Lib.hid hat'
      have HSUM := Lib.hid hsum
      have HWS := Lib.hid hws
      have g0 := hB.cell
      have e0 := hR.box.cell
      have hsz := hR.size
      have hgw := hR.gw
      have n0 := hR.at_.lo
      have n1 := hR.at_.hi
      have p0 := hR.pos
      clear hR hat' hws hB hA f0 hsum
      by_cases hlt : k < bs.length
      · obtain ⟨x, hx⟩ := some_lt hlt
        obtain ⟨b, o, rfl, hbl, i1⟩ := Byteat HR.out.by_ hx
        have hx2 : x.toNat < 256 := x.toNat_lt
        clear hx
        go_upto_region 11 with fail
        go_cut [5] from 41 to 120 (fun s5 wx => wx = wr ∧ ∃ now' : Int, s5 = .int .i64 now' ∧ now ≤ now' ∧ now' ≤ 1000000000000)
        case first =>
          go_wp2
          all_goals (go_meet; exact ⟨rfl, _, rfl, by omega, by omega⟩)
        case rest =>
          obtain ⟨rfl, now', rfl, m1, m2⟩ := hcut
          have hat2 := HT.out.later m1 m2
          obtain ⟨r, e, hnx, hcase⟩ := hat2.next
          obtain ⟨gone, hgone⟩ : ∃ l, l = ws.filter fun x => !decide (now' < x.dead) := ⟨_, rfl⟩
          obtain ⟨ws', hws'⟩ : ∃ l, l = ws.filter fun x => decide (now' < x.dead) := ⟨_, rfl⟩
          have hE := hat2.expire
          have hfl := filter_len (fun x => decide (now' < x.dead)) ws
          simp only at hcase hE
          rw [← hgone] at hcase hE hfl
          rw [← hws'] at hE hfl
          have hat3 := hat2.filter fun x => decide (now' < x.dead)
          simp only at hat3
          rw [← hws'] at hat3
          have HE := Lib.hid hE
          have HFL := Lib.hid hfl
          have HGO := Lib.hid hgone
          have HWS' := Lib.hid hws'
          have HAT3 := Lib.hid hat3
          have HCASE := Lib.hid hcase
          have HNX := Lib.hid hnx
          have hsum := HSUM.out
          have q1 : ws.length ≤ 64 := by omega
          have q2 : gone.length ≤ 64 := by omega
          have q3 : ws'.length ≤ 64 := by omega
          have q4 : left ≤ 64 := by omega
          have q5 : gone.length + ws'.length = ws.length := hfl
          have HSS := Lib.hid hsum
          clear hat2 hnx hcase hgone hws' hE hfl hat3 hsum
          go_wp2_with fail
          refine (next_is ⟨s.most, ws⟩ A' c' _ r e HA.out HNX.out).mono ?_
          rintro e' w2 ⟨rfl, hb2⟩
          have hs2 := hb2.size
          have HA2 := Lib.hid ((HA.out.later hb2).bound (S' := fun b => b ≠ wk.heap.size ∧ b < w2.heap.size) fun b h1 h2 => ⟨h1, h2⟩)
          have HB2 := Lib.hid (Blk.later HBg.out hb2)
          have HX2 := Lib.hid (Blk.later HR.out.box hb2)
          have HR2 := Lib.hid (HR.out.arr.later hb2)
          have HY2 := Lib.hid (HR.out.by_.later hb2)
          have HW2 := Lib.hid (bup HR.out.bel hb2 (by omega))
          clear hb2 g0 e0 i1
          have g0 := HB2.out.cell
          go_wp2_with fail
          refine (expire_any ⟨s.most, ws⟩ A' c' now' _ HA2.out (fun b h => h.2) (by show ws.length < _; omega) _ _ _ HE.out).mono ?_
          rintro e' w3 ⟨A2, c2, A3, c3, rfl, ha2, ha3, hb3⟩
          have hs3 := hb3.size
          have HT4 := Lib.hid ((ha2.bound (S' := fun b => b ≠ wk.heap.size) fun b h hl => by omega).alloc (.cells #[.int .i64 s.most, .slice A2 ws'.length c2] 24))
          have HG4 := Lib.hid (ha3.alloc (.cells #[.int .i64 s.most, .slice A2 ws'.length c2] 24))
          have HB4 := Lib.hid ((Blk.later HB2.out hb3).alloc (.cells #[.int .i64 s.most, .slice A2 ws'.length c2] 24))
          have HX4 := Lib.hid ((Blk.later HX2.out hb3).alloc (.cells #[.int .i64 s.most, .slice A2 ws'.length c2] 24))
          have HR4 := Lib.hid ((HR2.out.later hb3).alloc (.cells #[.int .i64 s.most, .slice A2 ws'.length c2] 24))
          have HY4 := Lib.hid ((HY2.out.later hb3).alloc (.cells #[.int .i64 s.most, .slice A2 ws'.length c2] 24))
          have HW4 := Lib.hid ((bup HW2.out hb3 (by omega)).alloc (by omega) (.cells #[.int .i64 s.most, .slice A2 ws'.length c2] 24))
          clear ha2 ha3 hb3 g0
          have g4 := HB4.out.cell
          have y4 := HB4.out.frozen
          have hc3 : (e = 4 ∧ gone.length = 0 ∧ ((ws'.length : Int) != (ws.length : Int)) = false) ∨ (e = 0 ∧ r ≤ now' ∧ 0 < gone.length ∧ ((gone.length : Int) + (ws'.length : Int) != (ws.length : Int)) = false) ∨ (e = 0 ∧ ¬ r ≤ now' ∧ gone.length = 0 ∧ ((ws'.length : Int) != (ws.length : Int)) = false) := by
            rcases HCASE.out with ⟨h1, h2⟩ | ⟨h1, h2, h3⟩ | ⟨h1, h2, h3⟩
            · exact .inl ⟨h1, h2, by simp; omega⟩
            · exact .inr (.inl ⟨h1, h2, h3, by simp; omega⟩)
            · exact .inr (.inr ⟨h1, by omega, h3, by simp; omega⟩)
          rcases hc3 with ⟨rfl, hz, hy7⟩ | ⟨rfl, hr1, hz, hy7⟩ | ⟨rfl, hr1, hz, hy7⟩
          all_goals
            go_wp2
            go_loopw [14] (fun j wr => ∃ m : Nat, m ≤ gone.length ∧ j = .int .i64 m ∧ w3.alloc (.cells #[.int .i64 s.most, .slice A2 ws'.length c2] 24) = wr) (fun j _ => gone.length - (intOf j).toNat)
            case atStart => exact ⟨0, Nat.zero_le _, rfl, rfl⟩
            case round =>
              obtain ⟨m, hm', rfl, rfl⟩ := hrel
              by_cases hlm : m < gone.length
              · first
                | (exfalso; omega)
                | (obtain ⟨y, hy⟩ := some_lt hlm
                   obtain ⟨b2, o2, rfl, hbl2, j1, j2, j3⟩ := Wt.at_ HG4.out hy
                   rw [HGO.out] at hy
                   have hdy := gone_dead hy
                   clear hy
                   go_wp2
                   go_roundw
                   case rel => exact ⟨m + 1, by omega, by go_num, by first | rfl | trivial⟩
                   case measure => simp [intOf]; omega)
              · go_wp2
                go_roundw
                case rel =>
                  refine ⟨k + 1, now', left + (gone.length : Int), by omega, rfl, by first | rfl | (congr 1; omega), by go_num, ⟨ws', A2, c2, HAT3.out, by have := HSS.out; omega, .inr ?_, Blk.two HB4.out _ _, HT4.out.two (fun h => h rfl) _ _⟩, HR.out.at_.later m1 m2, by omega, ?_, ?_, ?_, bel2 HW4.out (by omega) _ _, by rw [size_two]; simp only [World.size_alloc]; omega, by omega⟩
                  · rcases HWS.out with ⟨rfl, _⟩ | h
                    · exact HWS'.out
                    · rw [HWS'.out, h]; exact filter_later m1 _
                  · exact (HX4.out.far (by show w.heap.size ≠ wk.heap.size; omega) _).far (by show w.heap.size ≠ wk.heap.size; omega) _
                  · exact HR4.out.two (by omega) _ _
                  · exact HY4.out.two (by omega) _ _
                case measure => simp [intOf]; omega
      · obtain rfl : k = bs.length := by omega
        by_cases hb0 : bs.length = 0
        · go_wp2_with (go_at_call 11; refine (awake_any _).mono ?_; rintro e w2 ⟨rfl, hb2⟩)
          go_ret
          exact ⟨rfl, bup HR.out.bel hb2 (by omega)⟩
        have hwf : ws = s.ws.filter fun x => decide (now < x.dead) := by
          rcases HWS.out with ⟨_, h⟩ | h
          · omega
          · exact h
        have hE := HR.out.at_.expire
        have hfl := filter_len (fun x => decide (now < x.dead)) s.ws
        obtain ⟨gone, hgone⟩ : ∃ l, l = s.ws.filter fun x => !decide (now < x.dead) := ⟨_, rfl⟩
        rw [← hgone, ← hwf] at hE hfl
        have HE := Lib.hid hE
        have hsum := HSUM.out
        have q1 : ((gone.length : Int) == left) = true := by simp; omega
        have q2 : (gone.length : Int) = left := by omega
        clear hE hfl hwf hgone hsum
        go_wp2_with fail
        refine (expire_any s A c now _ HR.out.arr (fun b h => by omega) (by omega) _ _ _ HE.out).mono ?_
        rintro e' w3 ⟨A2, c2, A3, c3, rfl, ha2, ha3, hb3⟩
        have hs3 := hb3.size
        have HT4 := Lib.hid (ha2.alloc (.cells #[.int .i64 s.most, .slice A2 ws.length c2] 24))
        have HA4 := Lib.hid ((HA.out.later hb3).alloc (.cells #[.int .i64 s.most, .slice A2 ws.length c2] 24))
        have HB4 := Lib.hid ((Blk.later HBg.out hb3).alloc (.cells #[.int .i64 s.most, .slice A2 ws.length c2] 24))
        have HW4 := Lib.hid ((bup HR.out.bel hb3 (by omega)).alloc (by omega) (.cells #[.int .i64 s.most, .slice A2 ws.length c2] 24))
        clear ha2 ha3 hb3 g0 e0
        have g4 := HB4.out.cell
        go_wp2_with (first | (go_at_call 13; refine (same_any ⟨s.most, ws⟩ ⟨s.most, ws⟩ A' A2 c' c2 _ HA4.out HT4.out).mono ?_; rintro e w5 ⟨rfl, hb5⟩; have hs5 := hb5.size; simp only [World.size_alloc] at hs5; have HW5 := Lib.hid (bup HW4.out hb5 (by simp only [World.size_alloc]; omega))) | (go_at_call 11; refine (awake_any _).mono ?_; rintro e w6 ⟨rfl, hb6⟩))
        go_ret
        exact ⟨rfl, bup HW5.out hb6 (by omega)⟩
end Go.Proofs.Ytajkljbcfgegoaa
