/- The laws' arguments, read out of memory. No condition. -/
import Derived.Test.YtjbpkibhkaagjaaI15
import Derived.Test.YtjbpkibhkaagjaaV20
namespace Go.Proofs.Ytjbpkibhkaagjaa
open Go.RowKit Go.ChangeShapes Go.WideShapes

theorem opens2 : Opens Try.prog 2 (fun ds => ∃ x, ds = [x] ∧ ∃ n, x = .v (.int .i64 n)) := (opens_int (k := .i64) Try.underlying2 (by kernel_rfl)).mono fun _ ⟨n, e, _⟩ => ⟨_, e, n, rfl⟩
theorem opens3 : Opens Try.prog 3 (fun ds => ∃ x, ds = [x] ∧ ∃ n, x = .v (.int .i64 n)) := (opens_int (k := .i64) Try.underlying3 (by kernel_rfl)).mono fun _ ⟨n, e, _⟩ => ⟨_, e, n, rfl⟩
theorem opens5 : Opens Try.prog 5 (fun ds => ∃ x, ds = [x] ∧ ∃ n, x = .v (.int .u8 n) ∧ 0 ≤ n ∧ n ≤ 255) := (opens_int (k := .u8) Try.underlying5 (by kernel_rfl)).mono fun _ ⟨n, e, h1, h2⟩ => ⟨_, e, n, rfl, h1, h2⟩
theorem opens58 : Opens Try.prog 58 (fun ds => ∃ n, ds = [.v (.int .u16 n)] ∧ 0 ≤ n ∧ n ≤ 65535) := (opens_int (k := .u16) Try.underlying58 (by kernel_rfl)).mono fun _ ⟨n, e, h1, h2⟩ => ⟨n, e, h1, h2⟩
theorem opens29 : Opens Try.prog 29 (fun ds => ∃ x : Cn, ds = x.ds ∧ True) :=
  (opens_struct Try.underlying29 (Qs := [_, _, _]) ⟨rfl, opens2, by kernel_rfl, opens2, by kernel_rfl, opens2, by show _ = _; kernel_rfl⟩).mono fun ds h => by
    obtain ⟨_, _, rfl, ⟨_, rfl, a, rfl⟩, _, _, rfl, ⟨_, rfl, b, rfl⟩, _, _, rfl, ⟨_, rfl, c, rfl⟩, rfl⟩ := h
    exact ⟨⟨a, b, c⟩, rfl, trivial⟩
theorem opens22 : Opens Try.prog 22 (fun ds => ∃ x, ds = [x] ∧ ∃ cs : List Cn, x = cl cs) :=
  (opens_slice Try.underlying22 (by kernel_rfl) opens29 (sz := 3) (by kernel_rfl) (by decide)).mono fun ds h => by
    obtain ⟨xs, rfl, h1, _⟩ := h
    obtain ⟨ws, rfl, _⟩ := rows_of h1
    exact ⟨_, rfl, ws, rfl⟩
theorem opens24 : Opens Try.prog 24 (fun ds => ∃ s : St, ds.map PV.d = [.i s.most, .i s.idle, .i s.age, .d (cl s.cs)]) :=
  (opens_struct Try.underlying24 (Qs := [_, _, _, _]) ⟨rfl, opens3, by kernel_rfl, opens2, by kernel_rfl, opens2, by kernel_rfl, opens22, by show _ = _; kernel_rfl⟩).mono fun ds h => by
    obtain ⟨_, _, rfl, ⟨_, rfl, a, rfl⟩, _, _, rfl, ⟨_, rfl, b, rfl⟩, _, _, rfl, ⟨_, rfl, c, rfl⟩, _, _, rfl, ⟨_, rfl, d, rfl⟩, rfl⟩ := h
    exact ⟨⟨a, b, c, d⟩, rfl⟩
theorem opens55 : Opens Try.prog 55 (fun ds => ∃ c : Cal, ds = c.ds ∧ 0 ≤ c.what) :=
  (opens_struct Try.underlying55 (Qs := [_, _, _, _]) ⟨rfl, opens5, by kernel_rfl, opens2, by kernel_rfl, opens2, by kernel_rfl, opens2, by show _ = _; kernel_rfl⟩).mono fun ds h => by
    obtain ⟨_, _, rfl, ⟨_, rfl, a, rfl, ha, _⟩, _, _, rfl, ⟨_, rfl, b, rfl⟩, _, _, rfl, ⟨_, rfl, c, rfl⟩, _, _, rfl, ⟨_, rfl, d, rfl⟩, rfl⟩ := h
    exact ⟨⟨a, b, c, d⟩, rfl, ha⟩
theorem opens52 : Opens Try.prog 52 (fun ds => ∃ x, ds = [x] ∧ ∃ l : List Cal, x = cals l ∧ ∀ c ∈ l, 0 ≤ c.what) :=
  (opens_slice Try.underlying52 (by kernel_rfl) opens55 (sz := 4) (by kernel_rfl) (by decide)).mono fun ds h => by
    obtain ⟨xs, rfl, h1, _⟩ := h
    obtain ⟨ws, rfl, hw⟩ := rows_of h1
    exact ⟨_, rfl, ws, rfl, hw⟩
theorem opens51 : Opens Try.prog 51 (fun ds => ∃ a b c : Int, ds.map PV.d = [.i a, .i b, .i c]) :=
  (opens_struct Try.underlying51 (Qs := [_, _, _]) ⟨rfl, opens3, by kernel_rfl, opens2, by kernel_rfl, opens2, by show _ = _; kernel_rfl⟩).mono fun ds h => by
    obtain ⟨_, _, rfl, ⟨_, rfl, a, rfl⟩, _, _, rfl, ⟨_, rfl, b, rfl⟩, _, _, rfl, ⟨_, rfl, c, rfl⟩, rfl⟩ := h
    exact ⟨a, b, c, rfl⟩
theorem opens59 : Opens Try.prog 59 (fun ds => ∃ a b c : Int, (ds = [.v (.int .u16 a), .v (.int .u16 b), .v (.int .u16 c)]) ∧ (0 ≤ a ∧ a ≤ 65535) ∧ (0 ≤ b ∧ b ≤ 65535) ∧ (0 ≤ c ∧ c ≤ 65535)) :=
  (opens_array Try.underlying59 opens58 (by kernel_rfl)).mono fun ds h => by
    obtain ⟨_, _, rfl, ⟨a, rfl, ha⟩, _, _, rfl, ⟨b, rfl, hb⟩, _, _, rfl, ⟨c, rfl, hc⟩, rfl⟩ := h
    exact ⟨a, b, c, rfl, ha, hb, hc⟩
section
variable {H : Type} {enc : TypeId × Value → H} {w : World} {base : Nat} {spare : Nat → Bool} {held : Bool} {r : Reach} {b0 : Nat} {v : Value} {d : DataW H} {p : List MemPlace} {m : Map}
theorem argSt (hv : Value.okWide Try.prog w r b0 24 v) (h : DataW.Trod enc Try.prog w base spare held 24 v d p) : ∃ s : St, Rep m w (allCells w) v s.pv := by
  obtain ⟨ds, ⟨s, hs⟩, hr⟩ := arg_struct (m := m) Try.underlying24 opens24 hv h
  rw [hs] at hr
  exact ⟨s, hr⟩
theorem argCal (hv : Value.okWide Try.prog w r b0 55 v) (h : DataW.Trod enc Try.prog w base spare held 55 v d p) : ∃ c : Cal, 0 ≤ c.what ∧ Rep m w (allCells w) v c.pv := by
  obtain ⟨ds, ⟨c, rfl, hc⟩, hr⟩ := arg_struct (m := m) Try.underlying55 opens55 hv h
  exact ⟨c, hc, hr⟩
theorem argCals (hv : Value.okWide Try.prog w r b0 52 v) (h : DataW.Trod enc Try.prog w base spare held 52 v d p) : ∃ l : List Cal, (∀ c ∈ l, 0 ≤ c.what) ∧ Rep m w (allCells w) v (.d (cals l)) := by
  obtain ⟨A, n, c, rfl⟩ := okWide_slice Try.underlying52 hv
  obtain ⟨x, ⟨l, rfl, hl⟩, hr⟩ := arg_one (m := m) opens52 rfl h
  exact ⟨l, hl, hr⟩
theorem argTime (hv : Value.okWide Try.prog w r b0 2 v) (h : DataW.Trod enc Try.prog w base spare held 2 v d p) : ∃ n : Int, Rep m w (allCells w) v (.i n) := by
  obtain ⟨n, rfl⟩ := okWide_int Try.underlying2 hv
  obtain ⟨x, ⟨l, rfl⟩, hr⟩ := arg_one (m := m) opens2 rfl h
  exact ⟨l, hr⟩
theorem argByte (hv : Value.okWide Try.prog w r b0 5 v) (h : DataW.Trod enc Try.prog w base spare held 5 v d p) : ∃ n : Int, (0 ≤ n ∧ n ≤ 255) ∧ Rep m w (allCells w) v (.d (.v (.int .u8 n))) := by
  obtain ⟨n, rfl⟩ := okWide_int Try.underlying5 hv
  obtain ⟨x, ⟨l, rfl, hl⟩, hr⟩ := arg_one (m := m) opens5 rfl h
  exact ⟨l, hl, hr⟩
theorem argNums (hv : Value.okWide Try.prog w r b0 51 v) (h : DataW.Trod enc Try.prog w base spare held 51 v d p) : ∃ q : Int × Int × Int, Rep m w (allCells w) v (.agg [.i q.1, .i q.2.1, .i q.2.2]) := by
  obtain ⟨ds, ⟨a, b, c, hs⟩, hr⟩ := arg_struct (m := m) Try.underlying51 opens51 hv h
  rw [hs] at hr
  exact ⟨(a, b, c), hr⟩
theorem argThree (hv : Value.okWide Try.prog w r b0 59 v) (h : DataW.Trod enc Try.prog w base spare held 59 v d p) : ∃ q : Int × Int × Int, ((0 ≤ q.1 ∧ q.1 ≤ 65535) ∧ (0 ≤ q.2.1 ∧ q.2.1 ≤ 65535) ∧ (0 ≤ q.2.2 ∧ q.2.2 ≤ 65535)) ∧ Rep m w (allCells w) v (.agg [.d (.v (.int .u16 q.1)), .d (.v (.int .u16 q.2.1)), .d (.v (.int .u16 q.2.2))]) := by
  obtain ⟨ds, ⟨a, b, c, rfl, h1⟩, hr⟩ := arg_array (m := m) Try.underlying59 opens59 hv h
  exact ⟨(a, b, c), h1, hr⟩
end
end Go.Proofs.Ytjbpkibhkaagjaa
