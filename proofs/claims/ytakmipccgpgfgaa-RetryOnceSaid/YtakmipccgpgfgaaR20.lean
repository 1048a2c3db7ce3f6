/- Contract: the statement RetryOnce. No condition. -/
import Derived.Test.YtakmipccgpgfgaaR19
namespace Go.Proofs.Ytakmipccgpgfgaa
open Go.RowKit

theorem prep_view {σ : Sta} {i k n t sz : Nat} {xs : List (List D)} {l : Bool} (h1 : look i σ.slots = some (.rw k n)) (h2 : look k σ.mem = some (.row t sz xs l)) (hk : k < 1000000 ∧ i < σ.n ∧ n ≤ xs.length) :
    Prep.all σ [.view i] = some ⟨σ.n, (i, .d (.sl sz (xs.take n))) :: σ.slots, (k, .row t sz xs true) :: σ.mem⟩ := by
  simp only [Prep.all, Prep.run, h1, h2, if_pos hk]
def calmF (f : Fl) : Fl := { f with idem := false }
def partF (L : List Fl) (k : Nat) : List Fl := (L.take k).map calmF ++ L.drop k
theorem part_zero (L : List Fl) : partF L 0 = L := by simp [partF]
theorem part_all (L : List Fl) : partF L L.length = L.map calmF := by simp [partF]
theorem part_len (L : List Fl) (k : Nat) : (partF L k).length = L.length := by simp [partF]; omega
theorem part_at {L : List Fl} {k : Nat} {x : Fl} (h : L[k]? = some x) : (partF L k)[k]? = some x := by
  have hl := (List.getElem?_eq_some_iff.1 h).1
  unfold partF
  rw [List.getElem?_append_right (by simp; omega), List.length_map, List.length_take, Nat.min_eq_left (by omega), Nat.sub_self, List.getElem?_drop, Nat.add_zero]
  exact h
theorem part_set {L : List Fl} {k : Nat} {x : Fl} (h : L[k]? = some x) : (partF L k).set k (calmF x) = partF L (k + 1) := by
  have hl := (List.getElem?_eq_some_iff.1 h).1
  have hd : L.drop k = x :: L.drop (k + 1) := by
    rw [List.drop_eq_getElem_cons hl]
    rw [List.getElem?_eq_getElem hl] at h
    cases h; rfl
  have ht : L.take (k + 1) = L.take k ++ [x] := by
    rw [List.take_add_one, h]; rfl
  unfold partF
  rw [hd, ht, List.set_append_right _ _ (by simp; omega), List.length_map, List.length_take, Nat.min_eq_left (by omega), Nat.sub_self, List.set_cons_zero, List.map_append, List.append_assoc]
  rfl
theorem sum_take {Ds : List Int} {k : Nat} {d : Int} (h : Ds[k]? = some d) : sumL (Ds.take (k + 1)) = sumL (Ds.take k) + d := by
  rw [List.take_add_one, h, sum_app]; simp [sumL]
theorem sum_rng {Ds : List Int} {t : Int} (h : ∀ x ∈ Ds, 0 ≤ x ∧ x ≤ t) : ∀ k, 0 ≤ sumL (Ds.take k) ∧ sumL (Ds.take k) ≤ sumL Ds := fun k => by
  have h0 : ∀ l : List Int, (∀ x ∈ l, 0 ≤ x) → 0 ≤ sumL l := fun l => by
    induction l with
    | nil => intro _; exact Int.le_refl _
    | cons x r ih => intro hx; have := hx x (by simp); have := ih fun y hy => hx y (by simp [hy]); simp only [sumL]; omega
  have h1 := h0 (Ds.take k) fun x hx => (h x (List.mem_of_mem_take hx)).1
  have h2 := h0 (Ds.drop k) fun x hx => (h x (List.mem_of_mem_drop hx)).1
  have h3 : sumL Ds = sumL (Ds.take k) + sumL (Ds.drop k) := by rw [← sum_app, List.take_append_drop]
  omega
set_option maxRecDepth 20000 in
set_option maxHeartbeats 8000000 in
theorem once_m (L : List Fl) (p : Pl) (now : Int) (js : List Int) (b : Bu) : Meets Try.prog 8 [.agg [.d (fl L), .i p.most, .i p.base, .i p.top, .i p.exp, .i now, .d (il js)], b.pv] [] (Ret (.b true)) := by
  refine meetsH [] tbOk mixed Try.func8 pl8 rfl rfl ?_
  have aw : ∀ {K : Res → Prop}, K ⟨.b true, [], []⟩ → Meets Try.prog 11 [] [] K := fun h => awake_m.mono fun r hr => by rw [hr]; exact h
  by_cases a1 : (110 : Int) < L.length
  · simp [Try.ntmps8, a1]
    refine aw ?_
    simp
    exact vcRet_of [] (by simp) rfl
  by_cases a2 : (110 : Int) < js.length
  · simp [Try.ntmps8, a1, a2]
    refine aw ?_
    simp
    exact vcRet_of [] (by simp) rfl
  simp [Try.ntmps8, a1, a2]
  refine (far_m b).mono ?_
  rintro _ rfl
  cases hf : farB b
  case true =>
    simp
    refine aw ?_
    simp
    exact vcRet_of [] (by simp) rfl
  have hfl := far_len hf
  simp
  refine ⟨by omega, ?_⟩
  refine vc_loop (fun m σ => ∃ k : Nat, m = L.length - k ∧ k ≤ L.length ∧ σ = ⟨164, [(6, .i k), (5, .rw 27 L.length), (2, .ptr 2 0), (3, .ptr 3 0)],
    [(2, .box 60 [.d (fl L), .i p.most, .i p.base, .i p.top, .i p.exp, .i now, .d (il js)]), (3, .box 36 [.i b.ratio, .i b.least, .i b.window, .d (il b.reqs), .d (il b.rets)]), (27, .row 30 5 ((partF L k).map Fl.cs) false)]⟩) ?_ ?_
  · exact ⟨_, _, ⟨0, rfl, Nat.zero_le _, rfl⟩, [], _, rfl, by simp [part_zero]⟩
  rintro m σ ⟨k, rfl, hk, rfl⟩
  by_cases hlt : k < L.length
  · obtain ⟨x, hx, e⟩ := at_lt hlt
    have hp := part_at hx
    have hs := part_set hx
    have hl := part_len L k
    have hpe : (partF L k)[k]'(by rw [hl]; exact hlt) = x := by rw [List.getElem?_eq_getElem (by rw [hl]; exact hlt)] at hp; exact Option.some.inj hp
    have hs' : ((partF L k).map Fl.cs).set k (calmF x).cs = (partF L (k + 1)).map Fl.cs := by rw [← hs, List.map_set]
    have hs' : ((partF L k).map Fl.cs).set k [.v (.int .i64 x.phase), .v (.int .i64 x.status), .v (.int .i64 x.tries), .v (.int .i64 x.sent), .v (.bool false)] = (partF L (k + 1)).map Fl.cs := hs'
    simp [hlt, hl, wrap_succ hlt (show L.length < 4294967296 by omega)]
    refine ⟨_, ?_, _, ⟨k + 1, rfl, hlt, rfl⟩, [], _, rfl, by simp [hpe, hs']⟩
    omega
  obtain rfl : k = L.length := by omega
  rw [part_all]
  have hMl : (L.map calmF).length = L.length := by simp
  have hMi : ∀ (i : Nat) x, (L.map calmF)[i]? = some x → x.idem = false := fun i x hx => by
    rw [List.getElem?_map] at hx
    obtain ⟨y, _, rfl⟩ := Option.map_eq_some_iff.1 hx
    rfl
  have hlen : L.length ≤ 110 := by omega
  generalize L.map calmF = M at hMl hMi ⊢
  rw [← hMl] at hlen ⊢
  have ht : ((M.map Fl.cs).take M.length) = M.map Fl.cs := List.take_of_length_le (by simp)
  simp [ht]
  refine (run_m M p b now js (by omega) (by omega)).mono ?_
  rintro _ (⟨e, he, rfl⟩ | ⟨A, W, N, Ds, B, hR, rfl⟩)
  · simp [he]
    refine aw ?_
    simp
    exact vcRet_of [] (by simp) rfl
  obtain ⟨hY, hMd, rfl, hW⟩ := hR
  have hy : ∀ (i : Nat) x, i < Ds.length → M[i]? = some x → x.tries ≤ p.most ∧ ¬ 0 < x.sent := fun i x hi hx => by
    have h1 := why_one.1 (hMd.yes i x hi hx)
    have h2 := hMi i x hx
    refine ⟨by omega, fun h => h1.2.2.2.1 ⟨h, h2⟩⟩
  have hmo := hY.most
  have hex := hY.exp
  have hDl := hMd.len
  have hnw := hMd.now
  have hNe := hMd.exp
  have hNs := hMd.n
  have hDm : (Ds.length : Int) ≤ p.most := by
    rcases Nat.eq_zero_or_pos Ds.length with h0 | h0
    · omega
    · obtain ⟨x, hx, _⟩ := at_lt (show Ds.length - 1 < M.length by omega)
      have := (hy _ x (by omega) hx).1
      have := hY.tries _ x hx
      omega
  have w1 := IntWalk.i64_in (p.most + 1) (by omega)
  have w2 := IntWalk.i64_in ((M.length : Int) + 1) (by omega)
  have w3 := IntWalk.i64_in (Ds.length : Int) (by omega)
  have f1 : ¬ ((Ds.length : Int) + 1 < 1) := by omega
  have f2 : ¬ (p.most < Ds.length) := by omega
  have f3 : ¬ ((M.length : Int) < Ds.length) := by omega
  have hS := sum_rng hMd.d
  by_cases hw : Ds.length = M.length
  · have hw' : (Ds.length : Int) = M.length := by omega
    have hW1 := hW.2 hw
    subst hW1
    have hw2 : ((Ds.length : Int) = M.length) = True := eq_true hw'
    simp [w1, w2, w3, f1, f2, f3, hw2]
    refine vc_loop (fun m σ => ∃ k : Nat, m = Ds.length - k ∧ k ≤ Ds.length ∧ σ = ⟨164, [(11, .i k), (10, .i (now + sumL (Ds.take k))), (5, .d (fl M)), (2, .ptr 2 0), (7, .ptr 7 0)],
      [(2, .box 60 [.d (fl L), .i p.most, .i p.base, .i p.top, .i p.exp, .i now, .d (il js)]), (7, .box 62 [.i ((Ds.length : Int) + 1), .i 1, .d (il Ds), .i N])]⟩) ?_ ?_
    · exact ⟨_, _, ⟨0, rfl, Nat.zero_le _, rfl⟩, [.view 5], _, prep_view (k := 27) rfl rfl ⟨by decide, by show 5 < 164; decide, by simp⟩, by simp [ht, sumL]⟩
    rintro m σ ⟨k, rfl, hk, rfl⟩
    by_cases hlt : k < Ds.length
    · obtain ⟨d, hd, ed⟩ := at_lt hlt
      obtain ⟨x, hx, ex⟩ := at_lt (show k < M.length by omega)
      have hdr := hMd.d d (List.mem_of_getElem? hd)
      have hsx := (hy k x hlt hx).2
      have g1 : ¬ d < 0 := by omega
      have g2 : ¬ p.top < d := by omega
      have hs1 := hS (k + 1)
      have hst := sum_take hd
      have w5 := IntWalk.i64_in (now + sumL (Ds.take k) + d) (by omega)
      have hlt2 : k < M.length := by omega
      simp [hlt, hlt2, ed, ex, g1, g2, hsx, w5, wrap_succ hlt (show Ds.length < 4294967296 by omega)]
      refine ⟨by kernel_rfl, ?_⟩
      refine ⟨_, ?_, _, ⟨k + 1, rfl, hlt, rfl⟩, [], _, rfl, by simp [hst, Int.add_assoc]⟩
      omega
    obtain rfl : k = Ds.length := by omega
    have hal : now + sumL Ds = N := hNs.symm
    simp [hal, hNe]
    refine aw ?_
    simp
    exact vcRet_of [] (by simp) rfl
  · have hw' : ¬ (Ds.length : Int) = M.length := by omega
    have hW1 : ¬ W = 1 := fun h => hw (hW.1 h)
    simp [w1, w2, w3, f1, f2, f3, hw', hW1]
    refine vc_loop (fun m σ => ∃ k : Nat, m = Ds.length - k ∧ k ≤ Ds.length ∧ σ = ⟨164, [(11, .i k), (10, .i (now + sumL (Ds.take k))), (5, .d (fl M)), (2, .ptr 2 0), (7, .ptr 7 0)],
      [(2, .box 60 [.d (fl L), .i p.most, .i p.base, .i p.top, .i p.exp, .i now, .d (il js)]), (7, .box 62 [.i ((Ds.length : Int) + 1), .i W, .d (il Ds), .i N])]⟩) ?_ ?_
    · exact ⟨_, _, ⟨0, rfl, Nat.zero_le _, rfl⟩, [.view 5], _, prep_view (k := 27) rfl rfl ⟨by decide, by show 5 < 164; decide, by simp⟩, by simp [ht, sumL]⟩
    rintro m σ ⟨k, rfl, hk, rfl⟩
    by_cases hlt : k < Ds.length
    · obtain ⟨d, hd, ed⟩ := at_lt hlt
      obtain ⟨x, hx, ex⟩ := at_lt (show k < M.length by omega)
      have hdr := hMd.d d (List.mem_of_getElem? hd)
      have hsx := (hy k x hlt hx).2
      have g1 : ¬ d < 0 := by omega
      have g2 : ¬ p.top < d := by omega
      have hs1 := hS (k + 1)
      have hst := sum_take hd
      have w5 := IntWalk.i64_in (now + sumL (Ds.take k) + d) (by omega)
      have hlt2 : k < M.length := by omega
      simp [hlt, hlt2, ed, ex, g1, g2, hsx, w5, wrap_succ hlt (show Ds.length < 4294967296 by omega)]
      refine ⟨by kernel_rfl, ?_⟩
      refine ⟨_, ?_, _, ⟨k + 1, rfl, hlt, rfl⟩, [], _, rfl, by simp [hst, Int.add_assoc]⟩
      omega
    obtain rfl : k = Ds.length := by omega
    have hal : now + sumL Ds = N := hNs.symm
    simp [hal, hNe]
    refine aw ?_
    simp
    exact vcRet_of [] (by simp) rfl
end Go.Proofs.Ytakmipccgpgfgaa
