/- Runs and openers. No condition. -/
import Derived.Test.YtajjmhpdiikjhaaGreatN13
import Derived.Test.YtajjmhpdiikjhaaGreatV20
namespace Go.Proofs.YtajjmhpdiikjhaaGreat.Po
set_option maxRecDepth 100000
open Go.RowKit

def largeB (s : Po) : Bool := decide (100 < s.idle.cs.length) || (decide (100 < s.ls.length) || (decide (100 < s.ds.length) || decide (100 < s.wt.ws.length)))
theorem large_m (s : Po) : Meets Tryz.prog 10 [s.pv] [] (Ret (.b (largeB s))) := by
  refine meetsH [] tbOk mixed Tryz.func10 pl10 rfl rfl ?_
  by_cases h1 : (100 : Int) < s.idle.cs.length
  · have : largeB s = true := by simp [largeB]; omega
    simp [Tryz.ntmps10, h1]
    exact vcRet_of [] (by simp [this]) rfl
  by_cases h2 : (100 : Int) < s.ls.length
  · have : largeB s = true := by simp [largeB]; omega
    simp [Tryz.ntmps10, h1, h2]
    exact vcRet_of [] (by simp [this]) rfl
  by_cases h3 : (100 : Int) < s.ds.length
  · have : largeB s = true := by simp [largeB]; omega
    simp [Tryz.ntmps10, h1, h2, h3]
    exact vcRet_of [] (by simp [this]) rfl
  by_cases h4 : (100 : Int) < s.wt.ws.length
  · have : largeB s = true := by simp [largeB]; omega
    simp [Tryz.ntmps10, h1, h2, h3, h4]
    exact vcRet_of [] (by simp [this]) rfl
  · have : largeB s = false := by simp [largeB]; omega
    simp [Tryz.ntmps10, h1, h2, h3, h4]
    exact vcRet_of [] (by simp [this]) rfl
theorem small_held {s : Po} (h : largeB s = false) : Held s := by
  simp [largeB] at h
  exact ⟨by omega, by omega, by omega, by omega⟩
theorem guarded_fine {s : Po} {o : Out} (h : Fine s) (ho : Fine o.1) : Fine (guarded s o).1 := by rw [guarded, if_pos h]; exact ho
theorem do_fine {s : Po} (h : Fine s) (x : Act) : Fine (doA s x).1 := by
  unfold doA
  split
  · exact guarded_fine h (ask_fine h _ _)
  split
  · exact guarded_fine h (dialled_fine h _ _ _)
  split
  · exact guarded_fine h (free_fine h _ _)
  split
  · exact guarded_fine h (cancel_fine h _)
  split
  · exact guarded_fine h (tick_fine h _)
  · exact guarded_fine h (shut_fine h)
theorem do_not {s : Po} (h : ¬ Fine s) (x : Act) : doA s x = bad s 6 := by
  unfold doA ask dialled free cancel tick shut guarded
  simp only [if_neg h]
  repeat' split
  all_goals rfl
theorem do_held {s : Po} (hh : Held s) (x : Act) : Held (doA s x).1 := by
  by_cases h : Fine s
  · exact (do_fine h x).f.held
  · rw [do_not h x]; exact hh
theorem do_err {s : Po} (x : Act) : OkOut s (doA s x) := by
  by_cases h : Fine s
  · unfold doA ask dialled free cancel tick shut guarded
    simp only [if_pos h]
    repeat' split
    · exact ask_ok _ _ _
    · exact dialled_ok _ _ _ _
    · exact free_ok _ _ _
    · exact cancel_ok _ _
    · exact tick_ok _ _
    · exact shut_ok _
  · rw [do_not h x]; exact .bad
/-- The states of a play. -/
def stA (s : Po) (xs : List Act) : Nat → Po
  | 0 => s
  | k + 1 => match xs[k]? with
    | some x => (doA (stA s xs k) x).1
    | none => stA s xs k
theorem st_succ {s : Po} {xs : List Act} {k : Nat} {x : Act} (hx : xs[k]? = some x) : stA s xs (k + 1) = (doA (stA s xs k) x).1 := by simp [stA, hx]
theorem st_held {s : Po} {xs : List Act} (h : Held s) : ∀ k, Held (stA s xs k)
  | 0 => h
  | k + 1 => by
    cases hx : xs[k]? with
    | none => simp [stA, hx]; exact st_held h k
    | some x => rw [st_succ hx]; exact do_held (st_held h k) x
theorem st_fine {s : Po} {xs : List Act} (h : Fine s) : ∀ k, Fine (stA s xs k)
  | 0 => h
  | k + 1 => by
    cases hx : xs[k]? with
    | none => simp [stA, hx]; exact st_fine h k
    | some x => rw [st_succ hx]; exact do_fine (st_fine h k) x
@[simp] def al (xs : List Act) : D := .sl 5 (xs.map Act.ds)
def LenOk (o : Out) : Prop := o.2.2.1.length < 4294967296
theorem LenOk.ite {p : Prop} [Decidable p] {a b : Out} (ha : LenOk a) (hb : LenOk b) : LenOk (if p then a else b) := by split <;> assumption
theorem LenOk.bad {s : Po} {e : Int} : LenOk (bad s e) := by show ([] : List Ef).length < _; simp
theorem giveS_len (t : Po) (c b : Int) (re : Bool) : (giveS t c b re).2.length ≤ 2 := by
  unfold giveS
  have := passS_len t
  split
  · simp; omega
  · split <;> simp
theorem LenOk.pass {t u : Po} {r : Rs} {e : Int} : LenOk (u, r, (passS t).2, e) := by
  have := passS_len t
  show (passS t).2.length < _; omega
theorem LenOk.give {t u : Po} {r : Rs} {e c b : Int} {re : Bool} : LenOk (u, r, (giveS t c b re).2, e) := by
  have := giveS_len t c b re
  show (giveS t c b re).2.length < _; omega
theorem LenOk.nil {u : Po} {r : Rs} {e : Int} : LenOk (u, r, [], e) := by show ([] : List Ef).length < _; simp
theorem LenOk.one {u : Po} {r : Rs} {x : Ef} {e : Int} : LenOk (u, r, [x], e) := by show [x].length < _; simp
theorem LenOk.late {u t : Po} {r : Rs} {k e : Int} {ws : List Wa.Wt} {cs : List Int} (h1 : ws.length ≤ 64) (h2 : cs.length ≤ 64) : LenOk (u, r, lateE t k ws cs, e) := by
  show (lateE t k ws cs).length < _
  rw [lateE, List.length_append, List.length_map, List.length_map]; omega
theorem do_lenOk {s : Po} (x : Act) : LenOk (doA s x) := by
  by_cases h : Fine s
  · have hw := h.f.wlen
    have hi := h.f.ilen
    unfold doA ask dialled free cancel tick shut guarded
    simp only [if_pos h]
    refine .ite ?_ (.ite ?_ (.ite ?_ (.ite ?_ (.ite ?_ ?_))))
    · unfold askK
      repeat' (first | exact .bad | exact .nil | refine .ite ?_ ?_)
    · unfold dialledK dialledT
      repeat' (first | exact .bad | exact .nil | exact .one | exact .pass | exact .give | refine .ite ?_ ?_)
    · unfold freeK
      repeat' (first | exact .bad | exact .give | refine .ite ?_ ?_)
    · unfold cancelK
      repeat' (first | exact .bad | exact .nil | refine .ite ?_ ?_)
    · unfold tickK
      refine .ite .bad (.ite .bad (.late ?_ ?_))
      · have := List.length_filter_le (fun y : Wa.Wt => !decide (x.at_ < y.dead)) s.wt.ws; omega
      · have := List.length_filter_le (fun y => !Id.good s.idle.idle s.idle.age x.at_ y) s.idle.cs
        rw [Id.shut, List.length_map]; omega
    · exact .late hw (by rw [List.length_map]; exact hi)
  · rw [do_not h x]; exact .bad
theorem do_len {s : Po} (x : Act) : (doA s x).2.2.1.length < 4294967296 := do_lenOk x
set_option maxHeartbeats 16000000 in
theorem plays_m (s : Po) (xs : List Act) (hx0 : ∀ x ∈ xs, 0 ≤ x.what) : Meets Tryz.prog 3 [s.pv, .d (al xs)] [] (Ret (.b true)) := by
  refine meetsH [] tbOk mixed Tryz.func3 pl3 rfl rfl ?_
  have hlg := large_m s
  simp at hlg
  simp [Tryz.ntmps3]
  refine hlg.mono ?_
  rintro _ rfl
  cases hb : largeB s
  case true =>
    simp
    refine shown_m.mono ?_
    rintro _ rfl
    simp
    exact vcRet_of [] (by simp) rfl
  have hh := small_held hb
  by_cases h60 : (60 : Int) < xs.length
  · simp [h60]
    refine shown_m.mono ?_
    rintro _ rfl
    simp
    exact vcRet_of [] (by simp) rfl
  simp [h60]
  refine vc_loop (fun n σ => ∃ k : Nat, n = xs.length - k ∧ k ≤ xs.length ∧ σ = ⟨72, [(5, .i k), (2, .ptr 2 0), (1, .d (al xs)), (4, .b false)], [(2, .box 31 (stA s xs k).cells)]⟩) ?_ ?_
  · exact ⟨_, _, ⟨0, rfl, Nat.zero_le _, rfl⟩, [], _, rfl, by simp [stA]⟩
  rintro n σ ⟨k, rfl, hk, rfl⟩
  by_cases hlt : k < xs.length
  · obtain ⟨x, hx, e⟩ := at_lt hlt
    have wk := wrap_succ hlt (by omega)
    have e1 := st_succ (s := s) hx
    have hs := st_held (s := s) (xs := xs) hh k
    have hx00 := hx0 x (List.mem_of_getElem? hx)
    have hd := do_m (stA s xs k) hs x hx00
    have hr := ref_m (stA s xs k) hs x hx00
    have hln := do_len (s := stA s xs k) x
    have hsm := sameP_m (doA (stA s xs k) x).1 (doA (stA s xs k) x).1 (do_held hs x)
    have hse := sameE_m (doA (stA s xs k) x).2.2.1 (doA (stA s xs k) x).2.2.1 hln
    simp at hd hr hsm hse
    simp [hlt, e]
    refine effCall hd ?_
    simp [hlt, e]
    refine ⟨by kernel_rfl, ?_⟩
    refine effCall hr ?_
    simp
    refine ⟨by kernel_rfl, ?_⟩
    refine hsm.mono ?_
    rintro _ rfl
    simp
    refine hse.mono ?_
    rintro _ rfl
    simp [wk]
    refine ⟨_, ?_, _, ⟨k + 1, rfl, hlt, rfl⟩, [], _, rfl, by simp [e1]⟩
    omega
  obtain rfl : k = xs.length := by omega
  simp
  refine shown_m.mono ?_
  rintro _ rfl
  simp
  exact vcRet_of [] (by simp) rfl
theorem known_m : Meets Tryz.prog 7 [] [] (Ret (.b true)) := by
  refine meetsH [] tbOk mixed Tryz.func7 pl7 rfl rfl ?_
  simp [Tryz.ntmps7]
  refine shown_m.mono ?_
  rintro _ rfl
  simp
  exact vcRet_of [] (by simp) rfl
set_option maxHeartbeats 16000000 in
theorem checks_m (b m q i a : Int) (s : Po) : Meets Tryz.prog 9 [.i b, .agg [.i m, .i q, .i i, .i a], s.pv] [] (Ret (.b true)) := by
  refine meetsH [] tbOk mixed Tryz.func9 pl9 rfl rfl ?_
  have hlg := large_m s
  simp at hlg
  simp [Tryz.ntmps9]
  refine hlg.mono ?_
  rintro _ rfl
  cases hb : largeB s
  case true =>
    simp
    refine shown_m.mono ?_
    rintro _ rfl
    simp
    exact vcRet_of [] (by simp) rfl
  have hh := small_held hb
  have hn1 := new_m b m q i a
  have hn2 := refNew_m b m q i a
  have hnh : Held (new b m q i a).1 := by
    unfold new
    split
    · exact ⟨by simp, by simp, by simp, by simp⟩
    · exact ⟨by decide, by decide, by decide, by decide⟩
  have hsm := sameP_m (new b m q i a).1 (new b m q i a).1 hnh
  have hc1 := check_m s hh.i hh.l hh.d hh.w
  have hc2 := refCheck_m s hh
  simp at hn1 hn2 hsm hc1 hc2
  simp
  refine hn1.mono ?_
  rintro _ rfl
  simp
  refine hn2.mono ?_
  rintro _ rfl
  simp
  refine effCall hsm ?_
  simp
  refine effCall hc1 ?_
  simp
  refine effCall hc2 ?_
  simp
  refine ⟨by kernel_rfl, ?_⟩
  refine vc_loop (fun n σ => ∃ k : Nat, n = 8 - k ∧ k ≤ 8 ∧ σ = ⟨142, [(11, .i k), (5, .ptr 5 0), (6, .b false)], [(5, .box 31 s.cells)]⟩) ?_ ?_
  · exact ⟨_, _, ⟨0, rfl, Nat.zero_le _, rfl⟩, [], _, rfl, by simp⟩
  rintro n σ ⟨k, rfl, hk, rfl⟩
  by_cases hlt : k < 8
  · have hlt' : (k : Int) < 8 := by omega
    have wk : IntKind.i64.wrap ((k : Int) + 1) = (k : Int) + 1 := small_wrap (by omega)
    have hw1 := whereP_m s hh k
    have hw2 := refWhere_m s hh k
    simp at hw1 hw2
    simp [hlt']
    refine hw1.mono ?_
    rintro _ rfl
    simp
    refine hw2.mono ?_
    rintro _ rfl
    simp [wk]
    refine ⟨_, ?_, _, ⟨k + 1, rfl, hlt, rfl⟩, [], _, rfl, by simp⟩
    omega
  obtain rfl : k = 8 := by omega
  have hct := count_m s hh
  simp at hct
  simp
  refine hct.mono ?_
  rintro _ rfl
  simp
  refine hc2.mono ?_
  rintro _ rfl
  by_cases hf : Fine s
  · have h0 : chk s = 0 := if_pos hf
    simp [h0, hf]
    refine shown_m.mono ?_
    rintro _ rfl
    simp
    exact vcRet_of [] (by simp) rfl
  · simp [chk_bad hf, hf]
    refine shown_m.mono ?_
    rintro _ rfl
    simp
    exact vcRet_of [] (by simp) rfl
end Go.Proofs.YtajjmhpdiikjhaaGreat.Po
namespace Go.Proofs.YtajjmhpdiikjhaaGreat.Po
open Go.RowKit Go.ChangeShapes Go.WideShapes
set_option maxRecDepth 100000

theorem opens2 : Opens Tryz.prog 2 (fun ds => ∃ x, ds = [x] ∧ ∃ n, x = .v (.int .i64 n)) := (opens_int (k := .i64) Tryz.underlying2 (by kernel_rfl)).mono fun _ ⟨n, e, _⟩ => ⟨_, e, n, rfl⟩
theorem opens3 : Opens Tryz.prog 3 (fun ds => ∃ x, ds = [x] ∧ ∃ n, x = .v (.int .i64 n)) := (opens_int (k := .i64) Tryz.underlying3 (by kernel_rfl)).mono fun _ ⟨n, e, _⟩ => ⟨_, e, n, rfl⟩
theorem opens4 : Opens Tryz.prog 4 (fun ds => ∃ x, ds = [x] ∧ ∃ b, x = .v (.bool b)) := (opens_bool Tryz.underlying4 (by kernel_rfl)).mono fun _ ⟨b, e⟩ => ⟨_, e, b, rfl⟩
theorem opens5 : Opens Tryz.prog 5 (fun ds => ∃ x, ds = [x] ∧ ∃ n, x = .v (.int .u8 n) ∧ 0 ≤ n ∧ n ≤ 255) := (opens_int (k := .u8) Tryz.underlying5 (by kernel_rfl)).mono fun _ ⟨n, e, h1, h2⟩ => ⟨_, e, n, rfl, h1, h2⟩
theorem opens92 : Opens Tryz.prog 92 (fun ds => ∃ x : Id.Cn, ds = x.ds ∧ True) :=
  (opens_struct Tryz.underlying92 (Qs := [_, _, _]) ⟨rfl, opens2, by kernel_rfl, opens2, by kernel_rfl, opens2, by show _ = _; kernel_rfl⟩).mono fun ds h => by
    obtain ⟨_, _, rfl, ⟨_, rfl, a, rfl⟩, _, _, rfl, ⟨_, rfl, b, rfl⟩, _, _, rfl, ⟨_, rfl, c, rfl⟩, rfl⟩ := h
    exact ⟨⟨a, b, c⟩, rfl, trivial⟩
theorem opens130 : Opens Tryz.prog 130 (fun ds => ∃ x : Wa.Wt, ds = x.cs ∧ True) :=
  (opens_struct Tryz.underlying130 (Qs := [_, _, _]) ⟨rfl, opens2, by kernel_rfl, opens2, by kernel_rfl, opens2, by show _ = _; kernel_rfl⟩).mono fun ds h => by
    obtain ⟨_, _, rfl, ⟨_, rfl, a, rfl⟩, _, _, rfl, ⟨_, rfl, b, rfl⟩, _, _, rfl, ⟨_, rfl, c, rfl⟩, rfl⟩ := h
    exact ⟨⟨a, b, c⟩, rfl, trivial⟩
theorem opens71 : Opens Tryz.prog 71 (fun ds => ∃ x : Ls, ds = x.dd ∧ True) :=
  (opens_struct Tryz.underlying71 (Qs := [_, _, _]) ⟨rfl, opens2, by kernel_rfl, opens2, by kernel_rfl, opens2, by show _ = _; kernel_rfl⟩).mono fun ds h => by
    obtain ⟨_, _, rfl, ⟨_, rfl, a, rfl⟩, _, _, rfl, ⟨_, rfl, b, rfl⟩, _, _, rfl, ⟨_, rfl, c, rfl⟩, rfl⟩ := h
    exact ⟨⟨a, b, c⟩, rfl, trivial⟩
theorem opens66 : Opens Tryz.prog 66 (fun ds => ∃ x : Dl, ds = x.dd ∧ True) :=
  (opens_struct Tryz.underlying66 (Qs := [_, _]) ⟨rfl, opens2, by kernel_rfl, opens4, by show _ = _; kernel_rfl⟩).mono fun ds h => by
    obtain ⟨_, _, rfl, ⟨_, rfl, a, rfl⟩, _, _, rfl, ⟨_, rfl, b, rfl⟩, rfl⟩ := h
    exact ⟨⟨a, b⟩, rfl, trivial⟩
theorem opens22 : Opens Tryz.prog 22 (fun ds => ∃ x, ds = [x] ∧ ∃ cs : List Id.Cn, x = Id.cl cs) :=
  (opens_slice Tryz.underlying22 (by kernel_rfl) opens92 (sz := 3) (by kernel_rfl) (by decide)).mono fun ds h => by
    obtain ⟨xs, rfl, h1, _⟩ := h
    obtain ⟨ws, rfl, _⟩ := rows_of h1
    exact ⟨_, rfl, ws, rfl⟩
theorem opens27 : Opens Tryz.prog 27 (fun ds => ∃ x, ds = [x] ∧ ∃ cs : List Wa.Wt, x = Wa.wl cs) :=
  (opens_slice Tryz.underlying27 (by kernel_rfl) opens130 (sz := 3) (by kernel_rfl) (by decide)).mono fun ds h => by
    obtain ⟨xs, rfl, h1, _⟩ := h
    obtain ⟨ws, rfl, _⟩ := rows_of h1
    exact ⟨_, rfl, ws, rfl⟩
theorem opens25 : Opens Tryz.prog 25 (fun ds => ∃ x, ds = [x] ∧ ∃ cs : List Ls, x = ll cs) :=
  (opens_slice Tryz.underlying25 (by kernel_rfl) opens71 (sz := 3) (by kernel_rfl) (by decide)).mono fun ds h => by
    obtain ⟨xs, rfl, h1, _⟩ := h
    obtain ⟨ws, rfl, _⟩ := rows_of h1
    exact ⟨_, rfl, ws, rfl⟩
theorem opens26 : Opens Tryz.prog 26 (fun ds => ∃ x, ds = [x] ∧ ∃ cs : List Dl, x = dl cs) :=
  (opens_slice Tryz.underlying26 (by kernel_rfl) opens66 (sz := 2) (by kernel_rfl) (by decide)).mono fun ds h => by
    obtain ⟨xs, rfl, h1, _⟩ := h
    obtain ⟨ws, rfl, _⟩ := rows_of h1
    exact ⟨_, rfl, ws, rfl⟩
theorem opens24 : Opens Tryz.prog 24 (fun ds => ∃ s : Id.St, ds = [.v (.int .i64 s.most), .v (.int .i64 s.idle), .v (.int .i64 s.age), Id.cl s.cs]) :=
  (opens_struct Tryz.underlying24 (Qs := [_, _, _, _]) ⟨rfl, opens3, by kernel_rfl, opens2, by kernel_rfl, opens2, by kernel_rfl, opens22, by show _ = _; kernel_rfl⟩).mono fun ds h => by
    obtain ⟨_, _, rfl, ⟨_, rfl, a, rfl⟩, _, _, rfl, ⟨_, rfl, b, rfl⟩, _, _, rfl, ⟨_, rfl, c, rfl⟩, _, _, rfl, ⟨_, rfl, d, rfl⟩, rfl⟩ := h
    exact ⟨⟨a, b, c, d⟩, rfl⟩
theorem opens29 : Opens Tryz.prog 29 (fun ds => ∃ s : Wa.St, ds = [.v (.int .i64 s.most), Wa.wl s.ws]) :=
  (opens_struct Tryz.underlying29 (Qs := [_, _]) ⟨rfl, opens3, by kernel_rfl, opens27, by show _ = _; kernel_rfl⟩).mono fun ds h => by
    obtain ⟨_, _, rfl, ⟨_, rfl, a, rfl⟩, _, _, rfl, ⟨_, rfl, d, rfl⟩, rfl⟩ := h
    exact ⟨⟨a, d⟩, rfl⟩
theorem opens31 : Opens Tryz.prog 31 (fun ds => ∃ s : Po, PV.agg (ds.map PV.d) = s.pv) :=
  (opens_struct Tryz.underlying31 (Qs := [_, _, _, _, _, _, _, _]) ⟨rfl, opens3, by kernel_rfl, opens3, by kernel_rfl, opens2, by kernel_rfl, opens4, by kernel_rfl, opens24, by kernel_rfl, opens25, by kernel_rfl, opens26, by kernel_rfl, opens29, by show _ = _; kernel_rfl⟩).mono fun ds h => by
    obtain ⟨_, _, rfl, ⟨_, rfl, a, rfl⟩, _, _, rfl, ⟨_, rfl, b, rfl⟩, _, _, rfl, ⟨_, rfl, c, rfl⟩, _, _, rfl, ⟨_, rfl, d, rfl⟩, _, _, rfl, ⟨e, rfl⟩, _, _, rfl, ⟨_, rfl, f, rfl⟩, _, _, rfl, ⟨_, rfl, g, rfl⟩, _, _, rfl, ⟨i, rfl⟩, rfl⟩ := h
    exact ⟨⟨a, b, c, d, e, f, g, i⟩, rfl⟩
theorem opens42 : Opens Tryz.prog 42 (fun ds => ∃ x : Act, ds = x.ds ∧ 0 ≤ x.what) :=
  (opens_struct Tryz.underlying42 (Qs := [_, _, _, _, _]) ⟨rfl, opens5, by kernel_rfl, opens2, by kernel_rfl, opens2, by kernel_rfl, opens2, by kernel_rfl, opens4, by show _ = _; kernel_rfl⟩).mono fun ds h => by
    obtain ⟨_, _, rfl, ⟨_, rfl, a, rfl, ha, _⟩, _, _, rfl, ⟨_, rfl, b, rfl⟩, _, _, rfl, ⟨_, rfl, c, rfl⟩, _, _, rfl, ⟨_, rfl, d, rfl⟩, _, _, rfl, ⟨_, rfl, e, rfl⟩, rfl⟩ := h
    exact ⟨⟨a, b, c, d, e⟩, rfl, ha⟩
theorem opens32 : Opens Tryz.prog 32 (fun ds => ∃ x, ds = [x] ∧ ∃ l : List Act, x = al l ∧ ∀ c ∈ l, 0 ≤ c.what) :=
  (opens_slice Tryz.underlying32 (by kernel_rfl) opens42 (sz := 5) (by kernel_rfl) (by decide)).mono fun ds h => by
    obtain ⟨xs, rfl, h1, _⟩ := h
    obtain ⟨ws, rfl, hw⟩ := rows_of h1
    exact ⟨_, rfl, ws, rfl, hw⟩
theorem opens47 : Opens Tryz.prog 47 (fun ds => ∃ m q i a : Int, ds.map PV.d = [.i m, .i q, .i i, .i a]) :=
  (opens_struct Tryz.underlying47 (Qs := [_, _, _, _]) ⟨rfl, opens3, by kernel_rfl, opens3, by kernel_rfl, opens2, by kernel_rfl, opens2, by show _ = _; kernel_rfl⟩).mono fun ds h => by
    obtain ⟨_, _, rfl, ⟨_, rfl, a, rfl⟩, _, _, rfl, ⟨_, rfl, b, rfl⟩, _, _, rfl, ⟨_, rfl, c, rfl⟩, _, _, rfl, ⟨_, rfl, d, rfl⟩, rfl⟩ := h
    exact ⟨a, b, c, d, rfl⟩
section
variable {H : Type} {enc : TypeId × Value → H} {w : World} {base : Nat} {spare : Nat → Bool} {held : Bool} {r : Reach} {b0 : Nat} {v : Value} {d : DataW H} {p : List MemPlace} {m : Map}
theorem argPo (hv : Value.okWide Tryz.prog w r b0 31 v) (h : DataW.Trod enc Tryz.prog w base spare held 31 v d p) : ∃ s : Po, Rep m w (allCells w) v s.pv := by
  obtain ⟨ds, ⟨s, hs⟩, hr⟩ := arg_struct (m := m) Tryz.underlying31 opens31 hv h
  rw [hs] at hr
  exact ⟨s, hr⟩
theorem argActs (hv : Value.okWide Tryz.prog w r b0 32 v) (h : DataW.Trod enc Tryz.prog w base spare held 32 v d p) : ∃ l : List Act, (∀ c ∈ l, 0 ≤ c.what) ∧ Rep m w (allCells w) v (.d (al l)) := by
  obtain ⟨A, n, c, rfl⟩ := okWide_slice Tryz.underlying32 hv
  obtain ⟨x, ⟨l, rfl, hl⟩, hr⟩ := arg_one (m := m) opens32 rfl h
  exact ⟨l, hl, hr⟩
theorem argInt (hv : Value.okWide Tryz.prog w r b0 3 v) (h : DataW.Trod enc Tryz.prog w base spare held 3 v d p) : ∃ n : Int, Rep m w (allCells w) v (.i n) := by
  obtain ⟨n, rfl⟩ := okWide_int Tryz.underlying3 hv
  obtain ⟨x, ⟨l, rfl⟩, hr⟩ := arg_one (m := m) opens3 rfl h
  exact ⟨l, hr⟩
theorem argBool (hv : Value.okWide Tryz.prog w r b0 4 v) (h : DataW.Trod enc Tryz.prog w base spare held 4 v d p) : ∃ n : Bool, Rep m w (allCells w) v (.b n) := by
  obtain ⟨n, rfl⟩ := okWide_bool Tryz.underlying4 hv
  obtain ⟨x, ⟨l, rfl⟩, hr⟩ := arg_one (m := m) opens4 rfl h
  exact ⟨l, hr⟩
theorem argLimit (hv : Value.okWide Tryz.prog w r b0 47 v) (h : DataW.Trod enc Tryz.prog w base spare held 47 v d p) : ∃ q : Int × Int × Int × Int, Rep m w (allCells w) v (.agg [.i q.1, .i q.2.1, .i q.2.2.1, .i q.2.2.2]) := by
  obtain ⟨ds, ⟨a, b, c, e, hs⟩, hr⟩ := arg_struct (m := m) Tryz.underlying47 opens47 hv h
  rw [hs] at hr
  exact ⟨(a, b, c, e), hr⟩
end
end Go.Proofs.YtajjmhpdiikjhaaGreat.Po
