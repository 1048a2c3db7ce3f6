/- Retry's further arguments, read out of memory. No condition. -/
import Derived.Test.YtakmipccgpgfgaaR16
namespace Go.Proofs.Ytakmipccgpgfgaa
open Go.RowKit Go.ChangeShapes Go.WideShapes

theorem opens46 : Opens Try.prog 46 (fun ds => ∃ x, ds = [x] ∧ ∃ n, x = .v (.int .u16 n) ∧ 0 ≤ n ∧ n ≤ 65535) := (opens_int (k := .u16) Try.underlying46 (by kernel_rfl)).mono fun _ ⟨n, e, h1, h2⟩ => ⟨_, e, n, rfl, h1, h2⟩
theorem opens52 : Opens Try.prog 52 (fun ds => ∃ s : Sp, ds = s.cs ∧ 0 ≤ s.later ∧ s.later ≤ 65535) :=
  (opens_struct Try.underlying52 (Qs := [_, _]) ⟨rfl, opens46, by kernel_rfl, opens4, by show _ = _; kernel_rfl⟩).mono fun ds h => by
    obtain ⟨_, _, rfl, ⟨_, rfl, a, rfl, ha⟩, _, _, rfl, ⟨_, rfl, b, rfl⟩, rfl⟩ := h
    exact ⟨⟨a, b⟩, rfl, ha⟩
theorem opens50 : Opens Try.prog 50 (fun ds => ∃ x, ds = [x] ∧ ∃ l : List Sp, x = .sl 2 (l.map Sp.cs) ∧ ∀ s ∈ l, 0 ≤ s.later ∧ s.later ≤ 65535) :=
  (opens_slice Try.underlying50 (by kernel_rfl) opens52 (sz := 2) (by kernel_rfl) (by decide)).mono fun ds h => by
    obtain ⟨xs, rfl, h1, _⟩ := h
    obtain ⟨l, rfl, hl⟩ := rows_of h1
    exact ⟨_, rfl, l, rfl, hl⟩
structure Ma where
  n : Int
  m : Int
  t : Int
theorem opens48 : Opens Try.prog 48 (fun ds => ∃ x : Ma, ds.map PV.d = [.d (.v (.int .u16 x.n)), .d (.v (.int .u16 x.m)), .i x.t] ∧ (0 ≤ x.n ∧ x.n ≤ 65535) ∧ (0 ≤ x.m ∧ x.m ≤ 65535)) :=
  (opens_struct Try.underlying48 (Qs := [_, _, _]) ⟨rfl, opens46, by kernel_rfl, opens46, by kernel_rfl, opens2, by show _ = _; kernel_rfl⟩).mono fun ds h => by
    obtain ⟨_, _, rfl, ⟨_, rfl, a, rfl, ha⟩, _, _, rfl, ⟨_, rfl, b, rfl, hb⟩, _, _, rfl, ⟨_, rfl, c, rfl, _⟩, rfl⟩ := h
    exact ⟨⟨a, b, c⟩, rfl, ha, hb⟩
section
variable {H : Type} {enc : TypeId × Value → H} {w : World} {base : Nat} {spare : Nat → Bool} {held : Bool} {r : Reach} {b0 : Nat} {v : Value} {d : DataW H} {p : List MemPlace} {m : Map}
theorem argSps (hv : Value.okWide Try.prog w r b0 50 v) (h : DataW.Trod enc Try.prog w base spare held 50 v d p) : ∃ l : List Sp, (∀ s ∈ l, 0 ≤ s.later ∧ s.later ≤ 65535) ∧ Rep m w (allCells w) v (.d (.sl 2 (l.map Sp.cs))) := by
  obtain ⟨A, n, c, rfl⟩ := okWide_slice Try.underlying50 hv
  obtain ⟨x, ⟨l, rfl, hl⟩, hr⟩ := arg_one (m := m) opens50 rfl h
  exact ⟨l, hl, hr⟩
theorem argMa (hv : Value.okWide Try.prog w r b0 48 v) (h : DataW.Trod enc Try.prog w base spare held 48 v d p) : ∃ x : Ma, ((0 ≤ x.n ∧ x.n ≤ 65535) ∧ (0 ≤ x.m ∧ x.m ≤ 65535)) ∧ Rep m w (allCells w) v (.agg [.d (.v (.int .u16 x.n)), .d (.v (.int .u16 x.m)), .i x.t]) := by
  obtain ⟨ds, ⟨x, hs, hx⟩, hr⟩ := arg_struct (m := m) Try.underlying48 opens48 hv h
  rw [hs] at hr
  exact ⟨x, hx, hr⟩
end
end Go.Proofs.Ytakmipccgpgfgaa
