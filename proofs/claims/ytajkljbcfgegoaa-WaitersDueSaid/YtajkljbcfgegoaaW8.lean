/- Walks: Expire. -/
import Derived.Test.YtajkljbcfgegoaaW7
namespace Go.Proofs.Ytajkljbcfgegoaa
open Go.RowKit

theorem expire_err {s : St} {now : Int} (h : rdy s now ≠ 0) : expire s now = (s, [], rdy s now) := by simp [expire, h]
theorem expire_ok {s : St} {now : Int} (h : rdy s now = 0) : expire s now = (⟨s.most, s.ws.filter fun x => decide (now < x.dead)⟩, s.ws.filter (fun x => !decide (now < x.dead)), 0) := by simp [expire, h]

set_option maxHeartbeats 1600000 in
theorem expire_any (s : St) (A : Option Addr) (c : Nat) (now : Int) (w : World) {S : Nat → Prop} (h : Arr w S A c s.ws) (hS : ∀ b, S b → b < w.heap.size) (hl : s.ws.length < 2147483648) (t : St) (l : List Wt) (k : Int) (he : expire s now = (t, l, k)) :
    Calls Try.prog 15 #[.agg #[.int .i64 s.most, .slice A s.ws.length c], .int .i64 now] w (RStL S t l (.int .i64 k) w) := by
  have HAL := Lib.hid (al3 w (.cells #[.int .i64 s.most, .slice A s.ws.length c] 24) (.cells #[.int .i64 now] 2) (.cells #[.int .i64 0, .slice none 0 0] 24))
  have H := Lib.hid (h.later HAL.out.2.2.2.2)
  have HS := Lib.hid hS
  have HE := Lib.hid he
  clear h hS he
  go_enter Try.func15, Try.ntmps15
  go_wp2_with fail
  refine (ready_any s A c w.heap.size now _ H.out (by go_simp) (by go_simp)).mono ?_
  rintro e w1 ⟨rfl, hb1⟩
  have hbw : Below (w.heap.size + 1 + 1 + 1) _ w1 := hb1.mono (by rw [HAL.out.2.2.2.1]; exact Nat.le_refl _)
  have hs1 := hbw.size
  rw [HAL.out.2.2.2.1] at hs1
  have B0 : Blk w1 w.heap.size 24 _ := (hbw.block _ (by omega)).trans HAL.out.1
  have B1 : Blk w1 (w.heap.size + 1) 2 _ := (hbw.block _ (by omega)).trans HAL.out.2.1
  have B2 : Blk w1 (w.heap.size + 1 + 1) 24 _ := (hbw.block _ (by omega)).trans HAL.out.2.2.1
  have f0 := B0.cell
  have f2 := B2.cell
  have z2 := B2.frozen
  have HW := Lib.hid (HAL.out.2.2.2.2.trans (hb1.mono (by rw [HAL.out.2.2.2.1]; omega)))
  have H1 := Lib.hid (H.out.later hb1)
  have HB0 := Lib.hid B0
  have HB1 := Lib.hid B1
  have HB2 := Lib.hid B2
  clear B0 B1 B2 hbw hb1
  by_cases hr : rdy s now = 0
  case neg =>
    have hrb : (rdy s now != 0) = true := by simp [hr]
    have hee := (expire_err hr).symm.trans HE.out
    injection hee with e1 e2
    injection e2 with e2 e3
    subst e1 e2 e3
    clear hr
    go_wp2
    refine bodyPost_ret (v := .tuple #[.agg #[.int .i64 s.most, .slice A s.ws.length c], .slice none 0 0, .int .i64 (rdy s now)]) (by simp [results, Try.results15, go_sem, f2]) rfl ⟨A, c, none, 0, rfl, ?_, Arr.nil, ?_⟩
    · refine Arr.weak (n := w1.heap.size) ?_ (by omega)
      repeat ((with_reducible refine Arr.setAt ?_ ?_ ?_ _); rotate_left; (exact fun h => absurd (HS.out _ h) (by dsimp only; omega)); (dsimp only; omega))
      exact H1.out.start
    · repeat ((with_reducible refine Below.setCell ?_ ?_ _); rotate_left; (dsimp only; omega))
      exact HW.out
  case pos =>
  have hee := (expire_ok hr).symm.trans HE.out
  injection hee with e1 e2
  injection e2 with e2 e3
  subst e1 e2 e3
  rw [hr]
  clear hr HE
  go_wp2_with fail
  refine (divide_any 33 #[.pointer (some ⟨w.heap.size + 1, 0, none⟩)] (fun _ x => decide (now < x.dead)) (fun _ w' => Below w1.heap.size w1 w') (S := S) A c s.ws _ (enters33 _) hl (Below.refl _ _) (fun _ w' h => H1.out.later h) (fun _ _ _ h _ hb => h.trans hb) ?_).mono ?_
  · intro k x w' hw' _ _
    refine (later_any 33 (.inr rfl) x _ now w' ((hw'.cell (p := ⟨w.heap.size + 1, 0, none⟩) HB1.out.lt).trans (HB1.out.cell 0))).mono ?_
    rintro e w'' ⟨rfl, hb⟩
    exact ⟨rfl, bup hw' hb hw'.size, hb.size, fun g _ hg => hb.block g hg⟩
  rintro e w2 ⟨v1, v2, rfl, hd⟩
  have hb2 := hd.inv
  have o1 := hd.own1
  have o2 := hd.own2
  rw [sel_filter, List.take_length] at o1
  rw [show (fun (i : Nat) (x : Wt) => !(fun _ x => decide (now < x.dead)) i x) = (fun _ => fun x => !decide (now < x.dead)) from rfl, sel_filter, List.take_length] at o2
  obtain ⟨A3, c3, rfl, ha3⟩ := o1.arr
  obtain ⟨A4, c4, rfl, ha4⟩ := o2.arr
  have HO1 := Lib.hid o1
  have HO2 := Lib.hid o2
  have g0 := (HB0.out.later hb2).cell
  have y0 := (HB0.out.later hb2).frozen
  have g2 := (HB2.out.later hb2).cell
  have y2 := (HB2.out.later hb2).frozen
  have hs2 := hb2.size
  have hbb := bup HW.out hb2 (by omega)
  have HBB := Lib.hid hbb
  clear hd o1 o2 ha3 ha4 hb2 f0 f2 z2 hbb
  go_wp2
  refine bodyPost_ret (v := .tuple #[.agg #[.int .i64 s.most, .slice A3 (s.ws.filter fun x => decide (now < x.dead)).length c3], .slice A4 (s.ws.filter fun x => !decide (now < x.dead)).length c4, .int .i64 0]) (by simp [results, Try.results15, go_sem, g2]) rfl ⟨A3, c3, A4, c4, rfl, ?_, ?_, ?_⟩
  · refine (Own.arr' (base := w1.heap.size) (e := 29) (n := (s.ws.filter fun x => decide (now < x.dead)).length) ?_).mono fun b h => .inr (by omega)
    repeat ((with_reducible refine Own.set_ ?_ ?_ _); rotate_left; (dsimp only; omega))
    exact HO1.out
  · refine (Own.arr' (base := w1.heap.size) (e := 29) (n := (s.ws.filter fun x => !decide (now < x.dead)).length) ?_).mono fun b h => .inr (by omega)
    repeat ((with_reducible refine Own.set_ ?_ ?_ _); rotate_left; (dsimp only; omega))
    exact HO2.out
  · repeat ((with_reducible refine Below.setCell ?_ ?_ _); rotate_left; (dsimp only; omega))
    exact HBB.out
end Go.Proofs.Ytajkljbcfgegoaa
