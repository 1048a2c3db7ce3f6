/- RetryOnce's arguments, read out of memory. No condition. -/
import Derived.Test.YtakmipccgpgfgaaR20
namespace Go.Proofs.Ytakmipccgpgfgaa
open Go.RowKit Go.ChangeShapes Go.WideShapes

theorem opensFl : Opens Try.prog 30 (fun ds => ∃ f : Fl, ds = f.cs ∧ True) :=
  (opens_struct Try.underlying30 (Qs := [_, _, _, _, _]) ⟨rfl, opens3, by kernel_rfl, opens3, by kernel_rfl, opens3, by kernel_rfl, opens2, by kernel_rfl, opens4, by show _ = _; kernel_rfl⟩).mono fun ds h => by
    obtain ⟨_, _, rfl, ⟨_, rfl, a, rfl, _⟩, _, _, rfl, ⟨_, rfl, b, rfl, _⟩, _, _, rfl, ⟨_, rfl, c, rfl, _⟩, _, _, rfl, ⟨_, rfl, d, rfl, _⟩, _, _, rfl, ⟨_, rfl, e, rfl⟩, rfl⟩ := h
    exact ⟨⟨a, b, c, d, e⟩, rfl, trivial⟩
theorem opens55 : Opens Try.prog 55 (fun ds => ∃ x, ds = [x] ∧ ∃ l : List Fl, x = fl l) :=
  (opens_slice Try.underlying55 (by kernel_rfl) opensFl (sz := 5) (by kernel_rfl) (by decide)).mono fun ds h => by
    obtain ⟨xs, rfl, h1, _⟩ := h
    obtain ⟨l, rfl, _⟩ := rows_of h1
    exact ⟨_, rfl, l, rfl⟩
theorem opens58 : Opens Try.prog 58 (fun ds => ∃ x, ds = [x] ∧ ∃ l : List Int, x = il l) :=
  (opens_slice Try.underlying58 (by kernel_rfl) opens3 (sz := 1) (by kernel_rfl) (by decide)).mono fun ds h => by
    obtain ⟨xs, rfl, h1, h2⟩ := h
    have : ∀ x ∈ xs, ∃ n : Int, x = ics n ∧ True := fun x hx => by
      obtain ⟨_, rfl, n, rfl, _⟩ := h1 x hx
      exact ⟨n, rfl, trivial⟩
    obtain ⟨l, rfl, _⟩ := rows_of this
    exact ⟨_, rfl, l, rfl⟩
theorem opens57 : Opens Try.prog 57 (fun ds => ∃ a b c d : Int, ds = [.v (.int .i64 a), .v (.int .i64 b), .v (.int .i64 c), .v (.int .i64 d)]) :=
  (opens_struct Try.underlying57 (Qs := [_, _, _, _]) ⟨rfl, opens3, by kernel_rfl, opens2, by kernel_rfl, opens2, by kernel_rfl, opens2, by show _ = _; kernel_rfl⟩).mono fun ds h => by
    obtain ⟨_, _, rfl, ⟨_, rfl, a, rfl, _⟩, _, _, rfl, ⟨_, rfl, b, rfl, _⟩, _, _, rfl, ⟨_, rfl, c, rfl, _⟩, _, _, rfl, ⟨_, rfl, d, rfl, _⟩, rfl⟩ := h
    exact ⟨a, b, c, d, rfl⟩
structure Tr where
  l : List Fl
  p : Pl
  now : Int
  js : List Int
theorem opens60 : Opens Try.prog 60 (fun ds => ∃ x : Tr, ds.map PV.d = [.d (fl x.l), .i x.p.most, .i x.p.base, .i x.p.top, .i x.p.exp, .i x.now, .d (il x.js)]) :=
  (opens_struct Try.underlying60 (Qs := [_, _, _, _]) ⟨rfl, opens55, by kernel_rfl, opens57, by kernel_rfl, opens2, by kernel_rfl, opens58, by show _ = _; kernel_rfl⟩).mono fun ds h => by
    obtain ⟨_, _, rfl, ⟨_, rfl, l, rfl⟩, _, _, rfl, ⟨a, b, c, d, rfl⟩, _, _, rfl, ⟨_, rfl, n, rfl, _⟩, _, _, rfl, ⟨_, rfl, js, rfl⟩, rfl⟩ := h
    exact ⟨⟨l, ⟨a, b, c, d⟩, n, js⟩, rfl⟩
section
variable {H : Type} {enc : TypeId × Value → H} {w : World} {base : Nat} {spare : Nat → Bool} {held : Bool} {r : Reach} {b0 : Nat} {v : Value} {d : DataW H} {p : List MemPlace} {m : Map}
theorem argTr (hv : Value.okWide Try.prog w r b0 60 v) (h : DataW.Trod enc Try.prog w base spare held 60 v d p) : ∃ x : Tr, Rep m w (allCells w) v (.agg [.d (fl x.l), .i x.p.most, .i x.p.base, .i x.p.top, .i x.p.exp, .i x.now, .d (il x.js)]) := by
  obtain ⟨ds, ⟨x, hs⟩, hr⟩ := arg_struct (m := m) Try.underlying60 opens60 hv h
  rw [hs] at hr
  exact ⟨x, hr⟩
end
end Go.Proofs.Ytakmipccgpgfgaa
