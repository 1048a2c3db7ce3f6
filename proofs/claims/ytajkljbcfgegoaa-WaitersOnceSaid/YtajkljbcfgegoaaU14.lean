/- The waiters' arguments, read out of memory. No condition. -/
import Derived.Test.YtajkljbcfgegoaaU13
import Derived.Test.YtajkljbcfgegoaaV20
namespace Go.Proofs.Ytajkljbcfgegoaa
open Go.RowKit Go.ChangeShapes Go.WideShapes

theorem opens2 : Opens Try.prog 2 (fun ds => ∃ x, ds = [x] ∧ ∃ n, x = .v (.int .i64 n)) := (opens_int (k := .i64) Try.underlying2 (by kernel_rfl)).mono fun _ ⟨n, e, _⟩ => ⟨_, e, n, rfl⟩
theorem opens3 : Opens Try.prog 3 (fun ds => ∃ x, ds = [x] ∧ ∃ n, x = .v (.int .i64 n)) := (opens_int (k := .i64) Try.underlying3 (by kernel_rfl)).mono fun _ ⟨n, e, _⟩ => ⟨_, e, n, rfl⟩
theorem opens5 : Opens Try.prog 5 (fun ds => ∃ x, ds = [x] ∧ ∃ n, x = .v (.int .u8 n) ∧ 0 ≤ n ∧ n ≤ 255) := (opens_int (k := .u8) Try.underlying5 (by kernel_rfl)).mono fun _ ⟨n, e, h1, h2⟩ => ⟨_, e, n, rfl, h1, h2⟩
theorem opens29 : Opens Try.prog 29 (fun ds => ∃ x : Wt, ds = x.cs ∧ True) :=
  (opens_struct Try.underlying29 (Qs := [_, _, _]) ⟨rfl, opens2, by kernel_rfl, opens2, by kernel_rfl, opens2, by show _ = _; kernel_rfl⟩).mono fun ds h => by
    obtain ⟨_, _, rfl, ⟨_, rfl, a, rfl⟩, _, _, rfl, ⟨_, rfl, b, rfl⟩, _, _, rfl, ⟨_, rfl, c, rfl⟩, rfl⟩ := h
    exact ⟨⟨a, b, c⟩, rfl, trivial⟩
theorem opens22 : Opens Try.prog 22 (fun ds => ∃ x, ds = [x] ∧ ∃ ws : List Wt, x = wl ws) :=
  (opens_slice Try.underlying22 (by kernel_rfl) opens29 (sz := 3) (by kernel_rfl) (by decide)).mono fun ds h => by
    obtain ⟨xs, rfl, h1, _⟩ := h
    obtain ⟨ws, rfl, _⟩ := rows_of h1
    exact ⟨_, rfl, ws, rfl⟩
theorem opens24 : Opens Try.prog 24 (fun ds => ∃ s : St, ds.map PV.d = [.i s.most, .d (wl s.ws)]) :=
  (opens_struct Try.underlying24 (Qs := [_, _]) ⟨rfl, opens3, by kernel_rfl, opens22, by show _ = _; kernel_rfl⟩).mono fun ds h => by
    obtain ⟨_, _, rfl, ⟨_, rfl, a, rfl⟩, _, _, rfl, ⟨_, rfl, b, rfl⟩, rfl⟩ := h
    exact ⟨⟨a, b⟩, rfl⟩
theorem opens52 : Opens Try.prog 52 (fun ds => ∃ c : Cal, ds = c.cs ∧ 0 ≤ c.what) :=
  (opens_struct Try.underlying52 (Qs := [_, _, _, _]) ⟨rfl, opens5, by kernel_rfl, opens2, by kernel_rfl, opens2, by kernel_rfl, opens2, by show _ = _; kernel_rfl⟩).mono fun ds h => by
    obtain ⟨_, _, rfl, ⟨_, rfl, a, rfl, ha, _⟩, _, _, rfl, ⟨_, rfl, b, rfl⟩, _, _, rfl, ⟨_, rfl, c, rfl⟩, _, _, rfl, ⟨_, rfl, d, rfl⟩, rfl⟩ := h
    exact ⟨⟨a, b, c, d⟩, rfl, ha⟩
theorem opens49 : Opens Try.prog 49 (fun ds => ∃ x, ds = [x] ∧ ∃ l : List Cal, x = cl l ∧ ∀ c ∈ l, 0 ≤ c.what) :=
  (opens_slice Try.underlying49 (by kernel_rfl) opens52 (sz := 4) (by kernel_rfl) (by decide)).mono fun ds h => by
    obtain ⟨xs, rfl, h1, _⟩ := h
    obtain ⟨ws, rfl, hw⟩ := rows_of h1
    exact ⟨_, rfl, ws, rfl, hw⟩
section
variable {H : Type} {enc : TypeId × Value → H} {w : World} {base : Nat} {spare : Nat → Bool} {held : Bool} {r : Reach} {b0 : Nat} {v : Value} {d : DataW H} {p : List MemPlace} {m : Map}
theorem argSt (hv : Value.okWide Try.prog w r b0 24 v) (h : DataW.Trod enc Try.prog w base spare held 24 v d p) : ∃ s : St, Rep m w (allCells w) v s.pv := by
  obtain ⟨ds, ⟨s, hs⟩, hr⟩ := arg_struct (m := m) Try.underlying24 opens24 hv h
  rw [hs] at hr
  exact ⟨s, hr⟩
theorem argCal (hv : Value.okWide Try.prog w r b0 52 v) (h : DataW.Trod enc Try.prog w base spare held 52 v d p) : ∃ c : Cal, 0 ≤ c.what ∧ Rep m w (allCells w) v c.pv := by
  obtain ⟨ds, ⟨c, rfl, hc⟩, hr⟩ := arg_struct (m := m) Try.underlying52 opens52 hv h
  exact ⟨c, hc, hr⟩
theorem argCals (hv : Value.okWide Try.prog w r b0 49 v) (h : DataW.Trod enc Try.prog w base spare held 49 v d p) : ∃ l : List Cal, (∀ c ∈ l, 0 ≤ c.what) ∧ Rep m w (allCells w) v (.d (cl l)) := by
  obtain ⟨A, n, c, rfl⟩ := okWide_slice Try.underlying49 hv
  obtain ⟨x, ⟨l, rfl, hl⟩, hr⟩ := arg_one (m := m) opens49 rfl h
  exact ⟨l, hl, hr⟩
theorem argInt (hv : Value.okWide Try.prog w r b0 3 v) (h : DataW.Trod enc Try.prog w base spare held 3 v d p) : ∃ n : Int, Rep m w (allCells w) v (.i n) := by
  obtain ⟨n, rfl⟩ := okWide_int Try.underlying3 hv
  obtain ⟨x, ⟨l, rfl⟩, hr⟩ := arg_one (m := m) opens3 rfl h
  exact ⟨l, hr⟩
theorem argByte (hv : Value.okWide Try.prog w r b0 5 v) (h : DataW.Trod enc Try.prog w base spare held 5 v d p) : ∃ n : Int, (0 ≤ n ∧ n ≤ 255) ∧ Rep m w (allCells w) v (.d (.v (.int .u8 n))) := by
  obtain ⟨n, rfl⟩ := okWide_int Try.underlying5 hv
  obtain ⟨x, ⟨l, rfl, hl⟩, hr⟩ := arg_one (m := m) opens5 rfl h
  exact ⟨l, hl, hr⟩
end
end Go.Proofs.Ytajkljbcfgegoaa
