/- Retry's arguments, read out of memory. No condition. -/
import Derived.Test.YtakmipccgpgfgaaR12
import Derived.Test.YtakmipccgpgfgaaV20
namespace Go.Proofs.Ytakmipccgpgfgaa
open Go.RowKit Go.ChangeShapes Go.WideShapes

theorem opens2 : Opens Try.prog 2 (fun ds => ∃ x, ds = [x] ∧ ∃ n, x = .v (.int .i64 n) ∧ -9223372036854775808 ≤ n ∧ n ≤ 9223372036854775807) := (opens_int (k := .i64) Try.underlying2 (by kernel_rfl)).mono fun _ ⟨n, e, h1, h2⟩ => ⟨_, e, n, rfl, h1, h2⟩
theorem opens3 : Opens Try.prog 3 (fun ds => ∃ x, ds = [x] ∧ ∃ n, x = .v (.int .i64 n) ∧ -9223372036854775808 ≤ n ∧ n ≤ 9223372036854775807) := (opens_int (k := .i64) Try.underlying3 (by kernel_rfl)).mono fun _ ⟨n, e, h1, h2⟩ => ⟨_, e, n, rfl, h1, h2⟩
theorem opens4 : Opens Try.prog 4 (fun ds => ∃ x, ds = [x] ∧ ∃ b, x = .v (.bool b)) := (opens_bool Try.underlying4 (by kernel_rfl)).mono fun _ ⟨n, e⟩ => ⟨_, e, n, rfl⟩
structure Wa where
  base : Int
  top : Int
  n : Int
  j : Int
theorem opens23 : Opens Try.prog 23 (fun ds => ∃ x : Wa, ds.map PV.d = [.i x.base, .i x.top, .i x.n, .i x.j] ∧ (-9223372036854775808 ≤ x.n ∧ x.n ≤ 9223372036854775807) ∧ (-9223372036854775808 ≤ x.j ∧ x.j ≤ 9223372036854775807)) :=
  (opens_struct Try.underlying23 (Qs := [_, _, _, _]) ⟨rfl, opens2, by kernel_rfl, opens2, by kernel_rfl, opens3, by kernel_rfl, opens3, by show _ = _; kernel_rfl⟩).mono fun ds h => by
    obtain ⟨_, _, rfl, ⟨_, rfl, a, rfl, _⟩, _, _, rfl, ⟨_, rfl, b, rfl, _⟩, _, _, rfl, ⟨_, rfl, c, rfl, hc⟩, _, _, rfl, ⟨_, rfl, d, rfl, hd⟩, rfl⟩ := h
    exact ⟨⟨a, b, c, d⟩, rfl, hc, hd⟩
theorem opens30 : Opens Try.prog 30 (fun ds => ∃ f : Fl, ds.map PV.d = [.i f.phase, .i f.status, .i f.tries, .i f.sent, .b f.idem]) :=
  (opens_struct Try.underlying30 (Qs := [_, _, _, _, _]) ⟨rfl, opens3, by kernel_rfl, opens3, by kernel_rfl, opens3, by kernel_rfl, opens2, by kernel_rfl, opens4, by show _ = _; kernel_rfl⟩).mono fun ds h => by
    obtain ⟨_, _, rfl, ⟨_, rfl, a, rfl, _⟩, _, _, rfl, ⟨_, rfl, b, rfl, _⟩, _, _, rfl, ⟨_, rfl, c, rfl, _⟩, _, _, rfl, ⟨_, rfl, d, rfl, _⟩, _, _, rfl, ⟨_, rfl, e, rfl⟩, rfl⟩ := h
    exact ⟨⟨a, b, c, d, e⟩, rfl⟩
theorem opens34 : Opens Try.prog 34 (fun ds => ∃ x, ds = [x] ∧ ∃ l : List Int, x = il l ∧ l.length ≤ maxLen) :=
  (opens_slice Try.underlying34 (by kernel_rfl) opens2 (sz := 1) (by kernel_rfl) (by decide)).mono fun ds h => by
    obtain ⟨xs, rfl, h1, h2⟩ := h
    have : ∀ x ∈ xs, ∃ n : Int, x = ics n ∧ True := fun x hx => by
      obtain ⟨_, rfl, n, rfl, _⟩ := h1 x hx
      exact ⟨n, rfl, trivial⟩
    obtain ⟨l, rfl, _⟩ := rows_of this
    exact ⟨_, rfl, l, rfl, by simpa using h2⟩
theorem opens36 : Opens Try.prog 36 (fun ds => ∃ b : Bu, ds.map PV.d = [.i b.ratio, .i b.least, .i b.window, .d (il b.reqs), .d (il b.rets)]) :=
  (opens_struct Try.underlying36 (Qs := [_, _, _, _, _]) ⟨rfl, opens3, by kernel_rfl, opens3, by kernel_rfl, opens2, by kernel_rfl, opens34, by kernel_rfl, opens34, by show _ = _; kernel_rfl⟩).mono fun ds h => by
    obtain ⟨_, _, rfl, ⟨_, rfl, a, rfl, _⟩, _, _, rfl, ⟨_, rfl, b, rfl, _⟩, _, _, rfl, ⟨_, rfl, c, rfl, _⟩, _, _, rfl, ⟨_, rfl, d, rfl, _⟩, _, _, rfl, ⟨_, rfl, e, rfl, _⟩, rfl⟩ := h
    exact ⟨⟨a, b, c, d, e⟩, rfl⟩
section
variable {H : Type} {enc : TypeId × Value → H} {w : World} {base : Nat} {spare : Nat → Bool} {held : Bool} {r : Reach} {b0 : Nat} {v : Value} {d : DataW H} {p : List MemPlace} {m : Map}
theorem argWa (hv : Value.okWide Try.prog w r b0 23 v) (h : DataW.Trod enc Try.prog w base spare held 23 v d p) : ∃ x : Wa, ((-9223372036854775808 ≤ x.n ∧ x.n ≤ 9223372036854775807) ∧ (-9223372036854775808 ≤ x.j ∧ x.j ≤ 9223372036854775807)) ∧ Rep m w (allCells w) v (.agg [.i x.base, .i x.top, .i x.n, .i x.j]) := by
  obtain ⟨ds, ⟨x, hs, hx⟩, hr⟩ := arg_struct (m := m) Try.underlying23 opens23 hv h
  rw [hs] at hr
  exact ⟨x, hx, hr⟩
theorem argFl (hv : Value.okWide Try.prog w r b0 30 v) (h : DataW.Trod enc Try.prog w base spare held 30 v d p) : ∃ f : Fl, Rep m w (allCells w) v f.pv := by
  obtain ⟨ds, ⟨x, hs⟩, hr⟩ := arg_struct (m := m) Try.underlying30 opens30 hv h
  rw [hs] at hr
  exact ⟨x, hr⟩
theorem argBu (hv : Value.okWide Try.prog w r b0 36 v) (h : DataW.Trod enc Try.prog w base spare held 36 v d p) : ∃ b : Bu, Rep m w (allCells w) v b.pv := by
  obtain ⟨ds, ⟨x, hs⟩, hr⟩ := arg_struct (m := m) Try.underlying36 opens36 hv h
  rw [hs] at hr
  exact ⟨x, hr⟩
theorem argInt (hv : Value.okWide Try.prog w r b0 3 v) (h : DataW.Trod enc Try.prog w base spare held 3 v d p) : ∃ n : Int, Rep m w (allCells w) v (.i n) := by
  obtain ⟨n, rfl⟩ := okWide_int Try.underlying3 hv
  obtain ⟨x, ⟨l, rfl, _⟩, hr⟩ := arg_one (m := m) opens3 rfl h
  exact ⟨l, hr⟩
theorem argTime (hv : Value.okWide Try.prog w r b0 2 v) (h : DataW.Trod enc Try.prog w base spare held 2 v d p) : ∃ n : Int, Rep m w (allCells w) v (.i n) := by
  obtain ⟨n, rfl⟩ := okWide_int Try.underlying2 hv
  obtain ⟨x, ⟨l, rfl, _⟩, hr⟩ := arg_one (m := m) opens2 rfl h
  exact ⟨l, hr⟩
end
end Go.Proofs.Ytakmipccgpgfgaa
