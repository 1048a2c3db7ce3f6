/- Walks: New, Place, Next, Join. -/
import Derived.Test.YtajkljbcfgegoaaW5
namespace Go.Proofs.Ytajkljbcfgegoaa
open Go.RowKit

/-- A number and an error. -/
theorem new_any (m : Int) (w : World) {S : Nat → Prop} : Calls Try.prog 19 #[.int .i64 m] w (RSt2 S (new m).1 (.int .i64 (new m).2) w) := by
  have hb := (al1 w (.cells #[.int .i64 0, .slice none 0 0] 24)).2.2
  cases hr : room m
  · have hn : new m = (⟨0, []⟩, 7) := by simp [new, hr]
    rw [hn]
    go_enter Try.func19, Try.ntmps19
    go_wp2_with (go_at_call 38; refine (room_any _ _).mono ?_; rw [hr]; rintro e w' ⟨rfl, rfl⟩)
    refine bodyPost_ret (v := .tuple #[.agg #[.int .i64 0, .slice none 0 0], .int .i64 7]) (by simp [results, Try.results19, go_sem]) rfl ⟨none, 0, rfl, Arr.nil, hb⟩
  · have hn : new m = (⟨m, []⟩, 0) := by simp [new, hr]
    have hb2 : Below w.heap.size w (w.alloc (.cells #[.int .i64 m, .slice none 0 0] 24)) := (al1 w _).2.2
    rw [hn]
    go_enter Try.func19, Try.ntmps19
    go_wp2_with (go_at_call 38; refine (room_any _ _).mono ?_; rw [hr]; rintro e w' ⟨rfl, rfl⟩)
    refine bodyPost_ret (v := .tuple #[.agg #[.int .i64 m, .slice none 0 0], .int .i64 0]) (by simp [results, Try.results19, go_sem]) rfl ⟨none, 0, rfl, Arr.nil, hb2⟩

theorem place_any (s : St) (A : Option Addr) (c : Nat) (n : Int) (w : World) {S : Nat → Prop} (h : Arr w S A c s.ws) :
    Calls Try.prog 18 #[.agg #[.int .i64 s.most, .slice A s.ws.length c], .int .i64 n] w fun e w' => e = .returned (.tuple #[.int .i64 (where_ s n).1, .int .i64 (where_ s n).2]) ∧ Below w.heap.size w w' := by
  have HAL := Lib.hid (al1 w (.cells #[.int .i64 s.most, .slice A s.ws.length c] 24))
  have H := Lib.hid (h.later HAL.out.2.2)
  clear h
  by_cases hc : chk s = 0
  · have hw : where_ s n = if 0 ≤ place s.ws n then (place s.ws n, 0) else (0, 4) := by simp [where_, hc]
    have HW := Lib.hid hw
    have HC := Lib.hid hc
    clear hw hc
    by_cases hp : 0 ≤ place s.ws n
    · go_enter Try.func18, Try.ntmps18
      go_wp2_with (first
        | (go_at_call 22; refine (check_any s A c _ H.out).mono ?_; rw [HC.out]; rintro e w1 ⟨rfl, hb1⟩; have f0 := (Blk.later HAL.out.1 hb1).cell)
        | (go_at_call 36; refine (find_any A c s.ws n _ (H.out.later hb1)).mono ?_; rintro e w2 ⟨rfl, hb2⟩))
      go_ret2
      exact ⟨by rw [HW.out, if_pos hp]; rfl, bup (bup HAL.out.2.2 hb1 (by simp)) hb2 (by have := hb1.size; simp at this; omega)⟩
    · go_enter Try.func18, Try.ntmps18
      go_wp2_with (first
        | (go_at_call 22; refine (check_any s A c _ H.out).mono ?_; rw [HC.out]; rintro e w1 ⟨rfl, hb1⟩; have f0 := (Blk.later HAL.out.1 hb1).cell)
        | (go_at_call 36; refine (find_any A c s.ws n _ (H.out.later hb1)).mono ?_; rintro e w2 ⟨rfl, hb2⟩))
      go_ret2
      exact ⟨by rw [HW.out, if_neg (by omega)]; rfl, bup (bup HAL.out.2.2 hb1 (by simp)) hb2 (by have := hb1.size; simp at this; omega)⟩
  · have hcb : (chk s != 0) = true := by simp [hc]
    have hw : where_ s n = (0, chk s) := by simp [where_, hc]
    have HW := Lib.hid hw
    clear hw hc
    go_enter Try.func18, Try.ntmps18
    go_wp2_with (go_at_call 22; refine (check_any s A c _ H.out).mono ?_; rintro e w1 ⟨rfl, hb1⟩)
    go_ret2
    exact ⟨by rw [HW.out]; rfl, bup HAL.out.2.2 hb1 (by simp)⟩

/-- The least deadline of the first k. -/
def leastTo (ws : List Wt) (k : Nat) : Int := least (ws.take k)
theorem min_flip (a b : Int) : min a b = if b < a then b else a := by rw [Int.min_def]; split <;> split <;> omega
theorem leastTo_succ {ws : List Wt} {k : Nat} {x : Wt} (h : ws[k]? = some x) : leastTo ws (k + 1) = min (leastTo ws k) x.dead := by
  rw [leastTo, List.take_add_one, h]
  simp [least, leastTo, List.foldl_append]

set_option maxHeartbeats 800000 in
theorem next_any (s : St) (A : Option Addr) (c : Nat) (w : World) {S : Nat → Prop} (h : Arr w S A c s.ws) :
    Calls Try.prog 14 #[.agg #[.int .i64 s.most, .slice A s.ws.length c]] w fun e w' => e = .returned (.tuple #[.int .i64 (next s).1, .int .i64 (next s).2]) ∧ Below w.heap.size w w' := by
  have hm := h.max'
  have HAL := Lib.hid (al1 w (.cells #[.int .i64 s.most, .slice A s.ws.length c] 24))
  have H := Lib.hid (h.later HAL.out.2.2)
  clear h
  by_cases hc : chk s = 0
  · have HC := Lib.hid hc
    clear hc
    go_enter Try.func14, Try.ntmps14
    go_wp2_with (go_at_call 22; refine (check_any s A c _ H.out).mono ?_; rw [HC.out]; rintro e w1 ⟨rfl, hb1⟩; have f0 := (Blk.later HAL.out.1 hb1).cell)
    go_loopw [5, 16] (fun m i wr => ∃ k : Nat, k ≤ s.ws.length ∧ i = .int .i64 k ∧ m = .int .i64 (leastTo s.ws k) ∧ Below w1.heap.size w1 wr) (fun _ i _ => s.ws.length - (intOf i).toNat)
    case atStart => exact ⟨0, Nat.zero_le _, rfl, rfl, Below.refl _ _⟩
    case round =>
      obtain ⟨k, hk, rfl, rfl, hb⟩ := hrel
      by_cases hlt : k < s.ws.length
      · obtain ⟨x, hx⟩ := some_lt hlt
        obtain ⟨b, o, rfl, _, h1, h2, h3⟩ := Wt.at_ ((H.out.later hb1).later hb) hx
        have HX := Lib.hid hx
        clear hx
        go_wp2
        go_roundw
        case rel => exact ⟨k + 1, by omega, by go_num, by rw [leastTo_succ HX.out, min_flip], hb.alloc hb.size _⟩
        case measure => simp [intOf]; omega
      · obtain rfl : k = s.ws.length := by omega
        have hw : next s = if leastTo s.ws s.ws.length = 1000000000001 then (0, 4) else (leastTo s.ws s.ws.length, 0) := by simp [next, HC.out, leastTo]
        have hbw : Below w.heap.size w wr := bup (bup HAL.out.2.2 hb1 (by simp)) hb (by have := hb1.size; simp at this; omega)
        have HW := Lib.hid hw
        clear hw
        by_cases hn : leastTo s.ws s.ws.length = 1000000000001
        · have hn' : (leastTo s.ws s.ws.length == 1000000000001) = true := by simp [hn]
          have HN := Lib.hid hn
          clear hn
          go_wp2
          go_ret2
          exact ⟨by rw [HW.out, if_pos HN.out]; rfl, hbw⟩
        · have hn' : (leastTo s.ws s.ws.length == 1000000000001) = false := by simp [hn]
          have HN := Lib.hid hn
          clear hn
          go_wp2
          go_ret2
          exact ⟨by rw [HW.out, if_neg HN.out]; rfl, hbw⟩
  · have hcb : (chk s != 0) = true := by simp [hc]
    have hw : next s = (0, chk s) := by simp [next, hc]
    have HW := Lib.hid hw
    clear hw hc
    go_enter Try.func14, Try.ntmps14
    go_wp2_with (go_at_call 22; refine (check_any s A c _ H.out).mono ?_; rintro e w1 ⟨rfl, hb1⟩)
    go_ret2
    exact ⟨by rw [HW.out]; rfl, bup HAL.out.2.2 hb1 (by simp)⟩

theorem join_err {s : St} {n now dead : Int} (h : rdy s now ≠ 0) : join s n now dead = (s, rdy s now) := by simp [join, h]

set_option maxHeartbeats 1600000 in
theorem join_any (s : St) (A : Option Addr) (c : Nat) (n now dead : Int) (w : World) {S : Nat → Prop} (h : Arr w S A c s.ws) (hS : ∀ b, S b → b < w.heap.size) (hl : s.ws.length < 2147483648) (t : St) (k : Int) (hj : join s n now dead = (t, k)) :
    Calls Try.prog 17 #[.agg #[.int .i64 s.most, .slice A s.ws.length c], .int .i64 n, .int .i64 now, .int .i64 dead] w (RSt2 S t (.int .i64 k) w) := by
  have HAL := Lib.hid (al2 w (.cells #[.int .i64 s.most, .slice A s.ws.length c] 24) (.cells #[.int .i64 0, .slice none 0 0] 24))
  have H := Lib.hid (h.later HAL.out.2.2.2)
  have HS := Lib.hid hS
  have hm := h.max'
  have HJ := Lib.hid hj
  clear h hS hj
  go_enter Try.func17, Try.ntmps17
  go_wp2_with fail
  refine (ready_any s A c w.heap.size now _ H.out (by go_simp) (by go_simp)).mono ?_
  rintro e w1 ⟨rfl, hb1⟩
  have hbw : Below (w.heap.size + 1 + 1) _ w1 := hb1.mono (by rw [HAL.out.2.2.1]; exact Nat.le_refl _)
  have hs1 := hbw.size
  rw [HAL.out.2.2.1] at hs1
  have B0 : Blk w1 w.heap.size 24 _ := (hbw.block _ (by omega)).trans HAL.out.1
  have B1 : Blk w1 (w.heap.size + 1) 24 _ := (hbw.block _ (by omega)).trans HAL.out.2.1
  have f0 := B0.cell
  have f1 := B1.cell
  have z0 := B0.frozen
  have z1 := B1.frozen
  have HW := Lib.hid (HAL.out.2.2.2.trans (hb1.mono (by rw [HAL.out.2.2.1]; omega)))
  have H1 := Lib.hid (H.out.later hb1)
  have HB0 := Lib.hid B0
  have HB1 := Lib.hid B1
  clear B0 B1 hbw hb1
  by_cases hr : rdy s now = 0
  case neg =>
    have hrb : (rdy s now != 0) = true := by simp [hr]
    rw [join_err hr] at HJ
    have hjj := HJ.out
    injection hjj with e1 e2
    subst e1 e2
    clear hr
    go_wp2
    refine bodyPost_ret (v := .tuple #[.agg #[.int .i64 s.most, .slice A s.ws.length c], .int .i64 (rdy s now)]) (by simp [results, Try.results17, go_sem, f1]) rfl ⟨A, c, rfl, ?_, ?_⟩
    · refine Arr.weak (n := w1.heap.size) ?_ (by omega)
      repeat ((with_reducible refine Arr.setAt ?_ ?_ ?_ _); rotate_left; (exact fun h => absurd (HS.out _ h) (by dsimp only; omega)); (dsimp only; omega))
      exact H1.out.start
    · repeat ((with_reducible refine Below.setCell ?_ ?_ _); rotate_left; (dsimp only; omega))
      exact HW.out
  case pos =>
  rw [hr]
  have HR := Lib.hid hr
  clear hr
  have g0 := fun o => (HB0.out.alloc o).cell
  have g1 := fun o => (HB1.out.alloc o).cell
  have u1 := fun o => (HB1.out.alloc o).frozen
  have hjn : join s n now dead = if !(callOk n && (decide (0 ≤ dead) && decide (dead ≤ 1000000000001))) then (s, 7) else if 0 ≤ place s.ws n then (s, 8) else if dead ≤ now then (s, 9) else if s.ws.length = s.most then (s, 5) else (⟨s.most, s.ws ++ [⟨n, now, dead⟩]⟩, 0) := by simp [join, HR.out]
  have HJN := Lib.hid (hjn.symm.trans HJ.out)
  clear hjn
  have hqe : (![callOk n, decide (0 ≤ dead), decide (dead ≤ 1000000000001)].any fun x => !x) = (callOk n && (decide (0 ≤ dead) && decide (dead ≤ 1000000000001))) := by
    cases callOk n <;> cases decide (0 ≤ dead) <;> cases decide (dead ≤ 1000000000001) <;> rfl
  cases hq : (callOk n && (decide (0 ≤ dead) && decide (dead ≤ 1000000000001)))
  · have HQ := Lib.hid (hqe.trans hq)
    have hjj := HJN.out
    rw [hq] at hjj
    injection hjj with e1 e2
    subst e1 e2
    clear hqe hq
    go_wp2_with (first
      | (go_at_call 35; refine (call_any _ _).mono ?_; rintro e w' ⟨rfl, rfl⟩)
      | (go_at_call 34; (with_reducible refine (all_lit [callOk n, decide (0 ≤ dead), decide (dead ≤ 1000000000001)] _ _ _ ?_ ?_ ?_ (lit3 ?_ ?_ ?_)).mono ?_); rfl; omega; simp; simp; simp; simp; rw [HQ.out]; rintro e w' ⟨rfl, rfl⟩))
    refine bodyPost_ret (v := .tuple #[.agg #[.int .i64 s.most, .slice A s.ws.length c], .int .i64 7]) (by simp [results, Try.results17, go_sem, g1]) rfl ⟨A, c, rfl, ?_, ?_⟩
    · refine Arr.weak (n := w1.heap.size) ?_ (by omega)
      repeat ((with_reducible refine Arr.setAt ?_ ?_ ?_ _); rotate_left; (exact fun h => absurd (HS.out _ h) (by dsimp only; omega)); (dsimp only; omega))
      exact (H1.out.alloc _).start
    · repeat ((with_reducible refine Below.setCell ?_ ?_ _); rotate_left; (dsimp only; omega))
      exact HW.out.alloc (by omega) _
  have HQ := Lib.hid (hqe.trans hq)
  have hjj := HJN.out
  rw [hq] at hjj
  have HJJ := Lib.hid hjj
  clear hqe hq hjj HJN
  by_cases hp : 0 ≤ place s.ws n
  · have hjj := HJJ.out
    simp only [Bool.not_true, Bool.false_eq_true, if_false, if_pos hp] at hjj
    injection hjj with e1 e2
    subst e1 e2
    go_wp2_with (first
      | (go_at_call 35; refine (call_any _ _).mono ?_; rintro e w' ⟨rfl, rfl⟩)
      | (go_at_call 34; (with_reducible refine (all_lit [callOk n, decide (0 ≤ dead), decide (dead ≤ 1000000000001)] _ _ _ ?_ ?_ ?_ (lit3 ?_ ?_ ?_)).mono ?_); rfl; omega; simp; simp; simp; simp; rw [HQ.out]; rintro e w' ⟨rfl, rfl⟩)
      | (go_at_call 36; refine (find_any A c s.ws n _ (H1.out.alloc _)).mono ?_; rintro e w2 ⟨rfl, hb2⟩; have e0 := ((HB0.out.alloc _).later hb2).cell; have e1 := ((HB1.out.alloc _).later hb2).cell; have y0 := ((HB0.out.alloc _).later hb2).frozen; have y1 := ((HB1.out.alloc _).later hb2).frozen; have hs2 := hb2.size; simp at hs2))
    refine bodyPost_ret (v := .tuple #[.agg #[.int .i64 s.most, .slice A s.ws.length c], .int .i64 8]) (by simp [results, Try.results17, go_sem, e1]) rfl ⟨A, c, rfl, ?_, ?_⟩
    · refine Arr.weak (n := w1.heap.size) ?_ (by omega)
      repeat ((with_reducible refine Arr.setAt ?_ ?_ ?_ _); rotate_left; (exact fun h => absurd (HS.out _ h) (by dsimp only; omega)); (dsimp only; omega))
      exact ((H1.out.alloc _).later hb2).start
    · repeat ((with_reducible refine Below.setCell ?_ ?_ _); rotate_left; (dsimp only; omega))
      exact bup (HW.out.alloc (by omega) _) hb2 (by simp; omega)
  by_cases hd : dead ≤ now
  · have hjj := HJJ.out
    simp only [Bool.not_true, Bool.false_eq_true, if_false, if_neg hp, if_pos hd] at hjj
    injection hjj with e1 e2
    subst e1 e2
    go_wp2_with (first
      | (go_at_call 35; refine (call_any _ _).mono ?_; rintro e w' ⟨rfl, rfl⟩)
      | (go_at_call 34; (with_reducible refine (all_lit [callOk n, decide (0 ≤ dead), decide (dead ≤ 1000000000001)] _ _ _ ?_ ?_ ?_ (lit3 ?_ ?_ ?_)).mono ?_); rfl; omega; simp; simp; simp; simp; rw [HQ.out]; rintro e w' ⟨rfl, rfl⟩)
      | (go_at_call 36; refine (find_any A c s.ws n _ (H1.out.alloc _)).mono ?_; rintro e w2 ⟨rfl, hb2⟩; have e0 := ((HB0.out.alloc _).later hb2).cell; have e1 := ((HB1.out.alloc _).later hb2).cell; have y0 := ((HB0.out.alloc _).later hb2).frozen; have y1 := ((HB1.out.alloc _).later hb2).frozen; have hs2 := hb2.size; simp at hs2))
    refine bodyPost_ret (v := .tuple #[.agg #[.int .i64 s.most, .slice A s.ws.length c], .int .i64 9]) (by simp [results, Try.results17, go_sem, e1]) rfl ⟨A, c, rfl, ?_, ?_⟩
    · refine Arr.weak (n := w1.heap.size) ?_ (by omega)
      repeat ((with_reducible refine Arr.setAt ?_ ?_ ?_ _); rotate_left; (exact fun h => absurd (HS.out _ h) (by dsimp only; omega)); (dsimp only; omega))
      exact ((H1.out.alloc _).later hb2).start
    · repeat ((with_reducible refine Below.setCell ?_ ?_ _); rotate_left; (dsimp only; omega))
      exact bup (HW.out.alloc (by omega) _) hb2 (by simp; omega)
  by_cases hf : (s.ws.length : Int) = s.most
  · have hjj := HJJ.out
    simp only [Bool.not_true, Bool.false_eq_true, if_false, if_neg hp, if_neg hd, if_pos hf] at hjj
    injection hjj with e1 e2
    subst e1 e2
    have hfb : ((s.ws.length : Int) == s.most) = true := by simp [hf]
    clear hf
    go_wp2_with (first
      | (go_at_call 35; refine (call_any _ _).mono ?_; rintro e w' ⟨rfl, rfl⟩)
      | (go_at_call 34; (with_reducible refine (all_lit [callOk n, decide (0 ≤ dead), decide (dead ≤ 1000000000001)] _ _ _ ?_ ?_ ?_ (lit3 ?_ ?_ ?_)).mono ?_); rfl; omega; simp; simp; simp; simp; rw [HQ.out]; rintro e w' ⟨rfl, rfl⟩)
      | (go_at_call 36; refine (find_any A c s.ws n _ (H1.out.alloc _)).mono ?_; rintro e w2 ⟨rfl, hb2⟩; have e0 := ((HB0.out.alloc _).later hb2).cell; have e1 := ((HB1.out.alloc _).later hb2).cell; have y0 := ((HB0.out.alloc _).later hb2).frozen; have y1 := ((HB1.out.alloc _).later hb2).frozen; have hs2 := hb2.size; simp at hs2))
    refine bodyPost_ret (v := .tuple #[.agg #[.int .i64 s.most, .slice A s.ws.length c], .int .i64 5]) (by simp [results, Try.results17, go_sem, e1]) rfl ⟨A, c, rfl, ?_, ?_⟩
    · refine Arr.weak (n := w1.heap.size) ?_ (by omega)
      repeat ((with_reducible refine Arr.setAt ?_ ?_ ?_ _); rotate_left; (exact fun h => absurd (HS.out _ h) (by dsimp only; omega)); (dsimp only; omega))
      exact ((H1.out.alloc _).later hb2).start
    · repeat ((with_reducible refine Below.setCell ?_ ?_ _); rotate_left; (dsimp only; omega))
      exact bup (HW.out.alloc (by omega) _) hb2 (by simp; omega)
  have hjj := HJJ.out
  simp only [Bool.not_true, Bool.false_eq_true, if_false, if_neg hp, if_neg hd, if_neg hf] at hjj
  injection hjj with e1 e2
  subst e1 e2
  have hfb : ((s.ws.length : Int) == s.most) = false := by simp [hf]
  clear hf
  go_wp2_with (first
    | (go_at_call 35; refine (call_any _ _).mono ?_; rintro e w' ⟨rfl, rfl⟩)
    | (go_at_call 34; (with_reducible refine (all_lit [callOk n, decide (0 ≤ dead), decide (dead ≤ 1000000000001)] _ _ _ ?_ ?_ ?_ (lit3 ?_ ?_ ?_)).mono ?_); rfl; omega; simp; simp; simp; simp; rw [HQ.out]; rintro e w' ⟨rfl, rfl⟩)
    | (go_at_call 36; refine (find_any A c s.ws n _ (H1.out.alloc _)).mono ?_; rintro e w2 ⟨rfl, hb2⟩; have e0 := ((HB0.out.alloc _).later hb2).cell; have e1 := ((HB1.out.alloc _).later hb2).cell; have y0 := ((HB0.out.alloc _).later hb2).frozen; have y1 := ((HB1.out.alloc _).later hb2).frozen; have hs2 := hb2.size; simp at hs2)
    | (go_at_call 37; refine (clone_any A c s.ws _ hl ((H1.out.alloc _).later hb2)).mono ?_; rintro e w3 ⟨v3, rfl, hown3, hb3⟩)
    | (at_builtin; refine wpList_push rfl _ _ elt22 rfl w2.heap.size _ _ ⟨n, now, dead⟩ rfl (hown3.alloc _) ⟨w3.heap.size, 0, none⟩ 1 rfl (wt_new ⟨n, now, dead⟩) ?_ ?_ ?_; omega; (have := hb3.size; simp; omega); intro v4 w4 hown4 hg4 hat4; obtain ⟨A4, c4, rfl, ha4⟩ := hown4.arr; have hb4 : Below w2.heap.size w2 w4 := (hb3.alloc hb3.size _).grown hg4 (by have := hb3.size; simp; omega) (fun g hg => (hown3.lt g hg).1); have d0 := (((HB0.out.alloc _).later hb2).later hb4).cell; have d1 := (((HB1.out.alloc _).later hb2).later hb4).cell; have x0 := (((HB0.out.alloc _).later hb2).later hb4).frozen; have x1 := (((HB1.out.alloc _).later hb2).later hb4).frozen))
  refine bodyPost_ret (v := .tuple #[.agg #[.int .i64 s.most, .slice A4 (s.ws ++ [(⟨n, now, dead⟩ : Wt)]).length c4], .int .i64 0]) (by simp [results, Try.results17, go_sem, d1]) rfl ⟨A4, c4, rfl, ?_, ?_⟩
  · refine (Own.arr' (base := w2.heap.size) (e := 29) (n := (s.ws ++ [(⟨n, now, dead⟩ : Wt)]).length) ?_).mono fun b h => .inr (by omega)
    repeat ((with_reducible refine Own.set_ ?_ ?_ _); rotate_left; (dsimp only; omega))
    exact hown4
  · repeat ((with_reducible refine Below.setCell ?_ ?_ _); rotate_left; (dsimp only; omega))
    exact bup (bup (HW.out.alloc (by omega) _) hb2 (by simp; omega)) hb4 (by omega)
end Go.Proofs.Ytajkljbcfgegoaa
