/- Contracts: network 13. No condition. -/
import Derived.Test.YtgoklgibhmddoaaN12
import Derived.Test.YtgoklgibhmddoaaV20
namespace Go.Proofs.Ytgoklgibhmddoaa
open Go.RowKit Go.ChangeShapes Go.WideShapes
set_option maxRecDepth 100000

theorem wrap_max {k n : Nat} (h : k < n) (hn : n ≤ maxLen) : IntKind.i64.wrap ((k : Int) + 1) = (k : Int) + 1 := IntWalk.i64_in _ (by unfold maxLen at hn; omega)
def Ac.Ok (x : Ac) : Prop := 0 ≤ x.what ∧ x.b.length ≤ maxLen
def bigL (l : List Ac) : Bool := l.any (fun x => decide (200 < x.b.length)) || decide (80 < l.length)
theorem bigL_false {l : List Ac} (h : bigL l = false) : (∀ x ∈ l, x.b.length ≤ 200) ∧ l.length ≤ 80 := by
  unfold bigL at h
  simp only [Bool.or_eq_false_iff, decide_eq_false_iff_not] at h
  refine ⟨fun x hx => ?_, by omega⟩
  have := List.any_eq_false.1 h.1 x hx
  simpa using this
theorem big_m (l : List Ac) (hl : l.length ≤ maxLen) : Meets Try.prog 18 [.d (acs l)] [] (Ret (.b (bigL l))) := by
  refine meetsH [] tbOk mixed Try.func18 pl18 rfl rfl ?_
  simp [Try.ntmps18]
  refine vc_loop (fun m σ => ∃ k : Nat, m = l.length - k ∧ k ≤ l.length ∧ noneTo (fun x : Ac => decide (200 < x.b.length)) l k ∧ σ = ⟨20, [(3, .i k), (0, .d (acs l))], []⟩) ?_ ?_
  · exact ⟨_, _, ⟨0, rfl, Nat.zero_le _, noneTo_zero _ _, rfl⟩, [], _, rfl, by simp⟩
  rintro m σ ⟨k, rfl, hk, hn, rfl⟩
  by_cases hlt : k < l.length
  · obtain ⟨x, hx, e⟩ := at_lt hlt
    by_cases h : (200 : Int) < x.b.length
    · simp [hlt, e, h]
      refine vcRet_of [] ?_ rfl
      have : l.any (fun x => decide (200 < x.b.length)) = true := any_at hx (by simp; omega)
      simp [bigL, this]
    · simp [hlt, e, h, wrap_max hlt hl]
      exact ⟨_, by omega, _, ⟨k + 1, rfl, hlt, noneTo_succ hn hx (by simp; omega), rfl⟩, [], _, rfl, by simp⟩
  obtain rfl : k = l.length := by omega
  have ha := noneTo_any hn
  simp
  refine vcRet_of [] ?_ rfl
  simp [bigL, ha]
  omega
/-- What has been played: networks after acts. -/
def playS (plans : List Pl) (l : List Ac) : Nw × Bool :=
  if 60 < plans.length ∨ bigL l = true then (noNw, false) else if (newS plans).2 ≠ 0 then ((newS plans).1, false) else (l.foldl doS (newS plans).1, true)
theorem fold_ok {l : List Ac} : ∀ {s : Nw}, NOk s → NOk (l.foldl doS s) := by
  induction l with
  | nil => intro s h; exact h
  | cons x l ih => intro s h; exact ih (nok_do h x)
theorem play_ok {plans : List Pl} {l : List Ac} (h : (playS plans l).2 = true) : NOk (playS plans l).1 ∧ plans.length ≤ 60 ∧ bigL l = false := by
  unfold playS at h ⊢
  split at h
  · cases h
  · rename_i h1
    split at h
    · cases h
    · rename_i h2
      rw [if_neg h1, if_neg h2]
      refine ⟨fold_ok (nok_new (by simpa using h2)), by omega, ?_⟩
      cases hb : bigL l
      · rfl
      · exact absurd (.inr hb) h1
theorem fold_succ {l : List Ac} {k : Nat} {x : Ac} {s : Nw} (h : l[k]? = some x) : (l.take (k + 1)).foldl doS s = doS ((l.take k).foldl doS s) x := by
  rw [List.take_add_one, h, List.foldl_append]; rfl
theorem played_m (plans : List Pl) (l : List Ac) (hp : plans.length ≤ maxLen) (hl : l.length ≤ maxLen) (hw : ∀ x ∈ l, 0 ≤ x.what) : Meets Try.prog 26 [.d (pls plans), .d (acs l)] [] (Ret (.tup [(playS plans l).1.pv, .b (playS plans l).2])) := by
  refine meetsH [] tbOk mixed Try.func26 pl26 rfl rfl ?_
  by_cases h60 : (60 : Int) < plans.length
  · simp [Try.ntmps26, h60]
    refine vcRet_of [] ?_ rfl
    simp [playS, show 60 < plans.length by omega, noNw]
  simp [Try.ntmps26, h60]
  refine (big_m l hl).mono ?_
  rintro _ rfl
  cases hb : bigL l
  case true =>
    simp
    refine vcRet_of [] ?_ rfl
    simp [playS, hb, noNw]
  obtain ⟨hb1, hb2⟩ := bigL_false hb
  simp
  refine (New_m plans (by omega)).mono ?_
  rintro _ rfl
  by_cases hn : (newS plans).2 = 0
  case neg =>
    simp [hn]
    refine vcRet_of [] ?_ rfl
    simp [playS, hb, show ¬ 60 < plans.length by omega, hn]
  simp [hn]
  refine vc_loop (fun m σ => ∃ k : Nat, m = l.length - k ∧ k ≤ l.length ∧ σ = ⟨41, [(8, .i k), (6, .ptr 6 0), (4, .ptr 4 0), (1, .d (acs l))], [(6, ((l.take k).foldl doS (newS plans).1).box), (4, .box 25 [.i 0, .i 0, .d nilv', .d nilv'])]⟩) ?_ ?_
  · exact ⟨_, _, ⟨0, rfl, Nat.zero_le _, rfl⟩, [], _, rfl, by simp⟩
  rintro m σ ⟨k, rfl, hk, rfl⟩
  generalize hs : (l.take k).foldl doS (newS plans).1 = s
  have hck : chk s = 0 := nok_iff.2 (by rw [← hs]; exact fold_ok (nok_new hn))
  by_cases hlt : k < l.length
  · obtain ⟨x, hx, e⟩ := at_lt hlt
    have hxm := List.mem_of_getElem? hx
    have := hb1 x hxm
    simp [hlt, e]
    refine effCall (do_m s hck x (hw x hxm) (by omega)) ?_
    simp [wrap_succ hlt (show l.length < 4294967296 by omega)]
    refine ⟨by kernel_rfl, ?_⟩
    exact ⟨_, by omega, _, ⟨k + 1, rfl, hlt, rfl⟩, [], _, rfl, by simp [fold_succ hx, hs]⟩
  obtain rfl : k = l.length := by omega
  rw [List.take_length] at hs
  simp
  refine vcRet_of [] ?_ rfl
  simp [playS, hb, show ¬ 60 < plans.length by omega, hn, hs]
theorem lawPlays_m (plans : List Pl) (l : List Ac) (hp : plans.length ≤ maxLen) (hl : l.length ≤ maxLen) (hw : ∀ x ∈ l, 0 ≤ x.what) : Meets Try.prog 4 [.d (pls plans), .d (acs l)] [] (Ret (.b true)) := by
  refine meetsH [] tbOk mixed Try.func4 pl4 rfl rfl ?_
  by_cases h60 : (60 : Int) < plans.length
  · simp [Try.ntmps4, h60]
    refine awake_m.mono ?_
    rintro _ rfl
    simp
    exact vcRet_of [] (by simp) rfl
  simp [Try.ntmps4, h60]
  refine (big_m l hl).mono ?_
  rintro _ rfl
  cases hb : bigL l
  case true =>
    simp
    refine awake_m.mono ?_
    rintro _ rfl
    simp
    exact vcRet_of [] (by simp) rfl
  obtain ⟨hb1, hb2⟩ := bigL_false hb
  simp
  refine (New_m plans (by omega)).mono ?_
  rintro _ rfl
  simp
  refine (newR_m plans (by omega)).mono ?_
  rintro _ rfl
  have hfn : Fits (newS plans).1 := by
    unfold newS
    have hz : Fits noNw := ⟨by decide, by decide, fun c hc => nomatch hc⟩
    split
    · exact hz
    · split
      · exact ⟨by show plans.length < 4294967296; omega, by show 0 < 4294967296; decide, fun c hc => nomatch hc⟩
      · exact hz
  simp
  refine (same_m (newS plans).1 hfn).mono ?_
  rintro _ rfl
  by_cases hn : (newS plans).2 = 0
  case neg =>
    simp [hn]
    refine awake_m.mono ?_
    rintro _ rfl
    simp
    exact vcRet_of [] (by simp) rfl
  simp [hn]
  refine vc_loop (fun m σ => ∃ k : Nat, m = l.length - k ∧ k ≤ l.length ∧ ∃ s : Nw, NOk s ∧ σ = ⟨66, [(9, .i k), (5, .ptr 5 0), (1, .d (acs l))], [(5, s.box)]⟩) ?_ ?_
  · exact ⟨_, _, ⟨0, rfl, Nat.zero_le _, _, nok_new hn, rfl⟩, [], _, rfl, by simp⟩
  rintro m σ ⟨k, rfl, hk, s, hs, rfl⟩
  have hck : chk s = 0 := nok_iff.2 hs
  by_cases hlt : k < l.length
  · obtain ⟨x, hx, e⟩ := at_lt hlt
    have hxm := List.mem_of_getElem? hx
    have := hb1 x hxm
    have hck2 : chk (doS s x) = 0 := nok_iff.2 (nok_do hs x)
    simp [hlt, e]
    refine effCall (do_m s hck x (hw x hxm) (by omega)) ?_
    simp
    refine ⟨by kernel_rfl, ?_⟩
    refine (check_m (doS s x) (fits_of hck2)).mono ?_
    rintro _ rfl
    simp [hck2, wrap_succ hlt (show l.length < 4294967296 by omega)]
    exact ⟨_, by omega, _, ⟨k + 1, rfl, hlt, doS s x, nok_do hs x, rfl⟩, [], _, rfl, by simp⟩
  obtain rfl : k = l.length := by omega
  simp
  refine awake_m.mono ?_
  rintro _ rfl
  simp
  exact vcRet_of [] (by simp) rfl
theorem opens2 : Opens Try.prog 2 (fun ds => ∃ x, ds = [x] ∧ ∃ n, x = .v (.int .i64 n)) := (opens_int (k := .i64) Try.underlying2 (by kernel_rfl)).mono fun _ ⟨n, e, _⟩ => ⟨_, e, n, rfl⟩
theorem opens3 : Opens Try.prog 3 (fun ds => ∃ x, ds = [x] ∧ ∃ n, x = .v (.int .i64 n)) := (opens_int (k := .i64) Try.underlying3 (by kernel_rfl)).mono fun _ ⟨n, e, _⟩ => ⟨_, e, n, rfl⟩
theorem opens5 : Opens Try.prog 5 (fun ds => ∃ x, ds = [x] ∧ ∃ n, x = .v (.int .u8 n) ∧ 0 ≤ n ∧ n ≤ 255) := (opens_int (k := .u8) Try.underlying5 (by kernel_rfl)).mono fun _ ⟨n, e, h1, h2⟩ => ⟨_, e, n, rfl, h1, h2⟩
theorem opens31 : Opens Try.prog 31 (fun ds => ∃ x, ds = [x] ∧ ∃ l : List Int, x = bs l ∧ l.length ≤ maxLen ∧ ∀ n ∈ l, 0 ≤ n ∧ n ≤ 255) :=
  (opens_slice Try.underlying31 (by kernel_rfl) (opens5.mono (Q' := fun ds => ∃ n : Int, ds = u8s n ∧ 0 ≤ n ∧ n ≤ 255) fun ds ⟨x, h, n, e, hn⟩ => ⟨n, by rw [h, e]; rfl, hn⟩) (sz := 1) (by kernel_rfl) (by decide)).mono fun ds h => by
    obtain ⟨xs, rfl, h1, h2⟩ := h
    obtain ⟨ws, rfl, hw⟩ := rows_of h1
    exact ⟨_, rfl, ws, rfl, by simpa using h2, hw⟩
theorem opens54 : Opens Try.prog 54 (fun ds => ∃ x : Pl, ds = x.ds ∧ True) :=
  (opens_struct Try.underlying54 (Qs := [_, _, _]) ⟨rfl, opens3, by kernel_rfl, opens2, by kernel_rfl, opens3, by show _ = _; kernel_rfl⟩).mono fun ds h => by
    obtain ⟨_, _, rfl, ⟨_, rfl, a, rfl⟩, _, _, rfl, ⟨_, rfl, b, rfl⟩, _, _, rfl, ⟨_, rfl, c, rfl⟩, rfl⟩ := h
    exact ⟨⟨a, b, c⟩, rfl, trivial⟩
theorem opens22 : Opens Try.prog 22 (fun ds => ∃ x, ds = [x] ∧ ∃ l : List Pl, x = pls l ∧ l.length ≤ maxLen) :=
  (opens_slice Try.underlying22 (by kernel_rfl) opens54 (sz := 3) (by kernel_rfl) (by decide)).mono fun ds h => by
    obtain ⟨xs, rfl, h1, h2⟩ := h
    obtain ⟨ws, rfl, _⟩ := rows_of h1
    exact ⟨_, rfl, ws, rfl, by simpa using h2⟩
theorem opens56 : Opens Try.prog 56 (fun ds => ∃ x : Ac, ds = x.ds ∧ 0 ≤ x.what) :=
  (opens_struct Try.underlying56 (Qs := [_, _, _, _, _]) ⟨rfl, opens5, by kernel_rfl, opens2, by kernel_rfl, opens2, by kernel_rfl, opens31, by kernel_rfl, opens54, by show _ = _; kernel_rfl⟩).mono fun ds h => by
    obtain ⟨_, _, rfl, ⟨_, rfl, a, rfl, ha, _⟩, _, _, rfl, ⟨_, rfl, b, rfl⟩, _, _, rfl, ⟨_, rfl, c, rfl⟩, _, _, rfl, ⟨_, rfl, d, rfl, _, _⟩, _, _, rfl, ⟨p, rfl, _⟩, rfl⟩ := h
    exact ⟨⟨a, b, c, d, p⟩, rfl, ha⟩
theorem opens48 : Opens Try.prog 48 (fun ds => ∃ x, ds = [x] ∧ ∃ l : List Ac, x = acs l ∧ l.length ≤ maxLen ∧ ∀ y ∈ l, 0 ≤ y.what) :=
  (opens_slice Try.underlying48 (by kernel_rfl) opens56 (sz := 7) (by kernel_rfl) (by decide)).mono fun ds h => by
    obtain ⟨xs, rfl, h1, h2⟩ := h
    obtain ⟨ws, rfl, hw⟩ := rows_of h1
    exact ⟨_, rfl, ws, rfl, by simpa using h2, hw⟩
structure Sp where
  plans : List Pl
  acts : List Ac
@[simp] def Sp.pv (x : Sp) : PV := .agg [.d (pls x.plans), .d (acs x.acts)]
def Sp.Ok (x : Sp) : Prop := x.plans.length ≤ maxLen ∧ x.acts.length ≤ maxLen ∧ ∀ y ∈ x.acts, 0 ≤ y.what
theorem opens69 : Opens Try.prog 69 (fun ds => ∃ x : Sp, PV.agg (ds.map PV.d) = x.pv ∧ x.Ok) :=
  (opens_struct Try.underlying69 (Qs := [_, _]) ⟨rfl, opens22, by kernel_rfl, opens48, by show _ = _; kernel_rfl⟩).mono fun ds h => by
    obtain ⟨_, _, rfl, ⟨_, rfl, a, rfl, ha⟩, _, _, rfl, ⟨_, rfl, b, rfl, hb, hw⟩, rfl⟩ := h
    exact ⟨⟨a, b⟩, rfl, ha, hb, hw⟩
section
variable {H : Type} {enc : TypeId × Value → H} {w : World} {base : Nat} {spare : Nat → Bool} {held : Bool} {r : Reach} {b0 : Nat} {v : Value} {d : DataW H} {p : List MemPlace} {m : Map}
theorem argSp (hv : Value.okWide Try.prog w r b0 69 v) (h : DataW.Trod enc Try.prog w base spare held 69 v d p) : ∃ x : Sp, x.Ok ∧ Rep m w (allCells w) v x.pv := by
  obtain ⟨ds, ⟨s, hs, hl⟩, hr⟩ := arg_struct (m := m) Try.underlying69 opens69 hv h
  rw [hs] at hr
  exact ⟨s, hl, hr⟩
theorem argPls (hv : Value.okWide Try.prog w r b0 22 v) (h : DataW.Trod enc Try.prog w base spare held 22 v d p) : ∃ l : List Pl, l.length ≤ maxLen ∧ Rep m w (allCells w) v (.d (pls l)) := by
  obtain ⟨A, n, c, rfl⟩ := okWide_slice Try.underlying22 hv
  obtain ⟨x, ⟨l, rfl, hl⟩, hr⟩ := arg_one (m := m) opens22 rfl h
  exact ⟨l, hl, hr⟩
theorem argAcs (hv : Value.okWide Try.prog w r b0 48 v) (h : DataW.Trod enc Try.prog w base spare held 48 v d p) : ∃ l : List Ac, (l.length ≤ maxLen ∧ ∀ y ∈ l, 0 ≤ y.what) ∧ Rep m w (allCells w) v (.d (acs l)) := by
  obtain ⟨A, n, c, rfl⟩ := okWide_slice Try.underlying48 hv
  obtain ⟨x, ⟨l, rfl, hl⟩, hr⟩ := arg_one (m := m) opens48 rfl h
  exact ⟨l, hl, hr⟩
theorem argBytes (hv : Value.okWide Try.prog w r b0 31 v) (h : DataW.Trod enc Try.prog w base spare held 31 v d p) : ∃ l : List Int, (l.length ≤ maxLen ∧ ∀ n ∈ l, 0 ≤ n ∧ n ≤ 255) ∧ Rep m w (allCells w) v (.d (bs l)) := by
  obtain ⟨A, n, c, rfl⟩ := okWide_slice Try.underlying31 hv
  obtain ⟨x, ⟨l, rfl, hl⟩, hr⟩ := arg_one (m := m) opens31 rfl h
  exact ⟨l, hl, hr⟩
theorem argInt (hv : Value.okWide Try.prog w r b0 2 v) (h : DataW.Trod enc Try.prog w base spare held 2 v d p) : ∃ n : Int, Rep m w (allCells w) v (.i n) := by
  obtain ⟨n, rfl⟩ := okWide_int Try.underlying2 hv
  obtain ⟨x, ⟨l, rfl⟩, hr⟩ := arg_one (m := m) opens2 rfl h
  exact ⟨l, hr⟩
end
end Go.Proofs.Ytgoklgibhmddoaa
