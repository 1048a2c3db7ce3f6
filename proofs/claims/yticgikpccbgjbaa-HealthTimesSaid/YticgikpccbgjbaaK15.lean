/- The laws arguments, read out of memory. No condition. -/
import Derived.Test.YticgikpccbgjbaaK1
import Derived.Test.YticgikpccbgjbaaV20
namespace Go.Proofs.Yticgikpccbgjbaa
open Go.RowKit Go.ChangeShapes Go.WideShapes

theorem opens2 : Opens Try.prog 2 (fun ds => ∃ x, ds = [x] ∧ ∃ n, x = .v (.int .i64 n)) := (opens_int (k := .i64) Try.underlying2 (by kernel_rfl)).mono fun _ ⟨n, e, _⟩ => ⟨_, e, n, rfl⟩
theorem opens3 : Opens Try.prog 3 (fun ds => ∃ x, ds = [x] ∧ ∃ n, x = .v (.int .i64 n)) := (opens_int (k := .i64) Try.underlying3 (by kernel_rfl)).mono fun _ ⟨n, e, _⟩ => ⟨_, e, n, rfl⟩
theorem opens4 : Opens Try.prog 4 (fun ds => ∃ x, ds = [x] ∧ ∃ b, x = .v (.bool b)) := (opens_bool Try.underlying4 (by kernel_rfl)).mono fun _ ⟨n, e⟩ => ⟨_, e, n, rfl⟩
theorem opens5 : Opens Try.prog 5 (fun ds => ∃ x, ds = [x] ∧ ∃ n, x = .v (.int .u8 n) ∧ 0 ≤ n ∧ n ≤ 255) := (opens_int (k := .u8) Try.underlying5 (by kernel_rfl)).mono fun _ ⟨n, e, h1, h2⟩ => ⟨_, e, n, rfl, h1, h2⟩
theorem opens57 : Opens Try.prog 57 (fun ds => ∃ x, ds = [x] ∧ ∃ n, x = .v (.int .u32 n) ∧ 0 ≤ n ∧ n ≤ 4294967295) := (opens_int (k := .u32) Try.underlying57 (by kernel_rfl)).mono fun _ ⟨n, e, h1, h2⟩ => ⟨_, e, n, rfl, h1, h2⟩
theorem opens23 : Opens Try.prog 23 (fun ds => ∃ c : Cf, ds = [.v (.int .i64 c.n), .v (.int .i64 c.iv), .v (.int .i64 c.tm), .v (.int .i64 c.ri), .v (.int .i64 c.fa)]) :=
  (opens_struct Try.underlying23 (Qs := [_, _, _, _, _]) ⟨rfl, opens3, by kernel_rfl, opens2, by kernel_rfl, opens2, by kernel_rfl, opens3, by kernel_rfl, opens3, by show _ = _; kernel_rfl⟩).mono fun ds h => by
    obtain ⟨_, _, rfl, ⟨_, rfl, a, rfl⟩, _, _, rfl, ⟨_, rfl, b, rfl⟩, _, _, rfl, ⟨_, rfl, c, rfl⟩, _, _, rfl, ⟨_, rfl, d, rfl⟩, _, _, rfl, ⟨_, rfl, e, rfl⟩, rfl⟩ := h
    exact ⟨⟨a, b, c, d, e⟩, rfl⟩
theorem opens42 : Opens Try.prog 42 (fun ds => ∃ x : Bk, ds = x.ds ∧ True) :=
  (opens_struct Try.underlying42 (Qs := [_, _, _, _, _]) ⟨rfl, opens4, by kernel_rfl, opens3, by kernel_rfl, opens2, by kernel_rfl, opens2, by kernel_rfl, opens2, by show _ = _; kernel_rfl⟩).mono fun ds h => by
    obtain ⟨_, _, rfl, ⟨_, rfl, a, rfl⟩, _, _, rfl, ⟨_, rfl, b, rfl⟩, _, _, rfl, ⟨_, rfl, c, rfl⟩, _, _, rfl, ⟨_, rfl, d, rfl⟩, _, _, rfl, ⟨_, rfl, e, rfl⟩, rfl⟩ := h
    exact ⟨⟨a, b, c, d, e⟩, rfl, trivial⟩
theorem opens24 : Opens Try.prog 24 (fun ds => ∃ x, ds = [x] ∧ ∃ cs : List Bk, x = bl cs) :=
  (opens_slice Try.underlying24 (by kernel_rfl) opens42 (sz := 5) (by kernel_rfl) (by decide)).mono fun ds h => by
    obtain ⟨xs, rfl, h1, _⟩ := h
    obtain ⟨ws, rfl, _⟩ := rows_of h1
    exact ⟨_, rfl, ws, rfl⟩
theorem opens26 : Opens Try.prog 26 (fun ds => ∃ s : Hs, ds.map PV.d = s.ps) :=
  (opens_struct Try.underlying26 (Qs := [_, _, _]) ⟨rfl, opens23, by kernel_rfl, opens2, by kernel_rfl, opens24, by show _ = _; kernel_rfl⟩).mono fun ds h => by
    obtain ⟨_, _, rfl, ⟨c, rfl⟩, _, _, rfl, ⟨_, rfl, n, rfl⟩, _, _, rfl, ⟨_, rfl, bs, rfl⟩, rfl⟩ := h
    exact ⟨⟨c, n, bs⟩, rfl⟩
theorem opens37 : Opens Try.prog 37 (fun ds => ∃ x : Ev, ds = x.ds ∧ True) :=
  (opens_struct Try.underlying37 (Qs := [_, _, _, _, _]) ⟨rfl, opens3, by kernel_rfl, opens2, by kernel_rfl, opens3, by kernel_rfl, opens2, by kernel_rfl, opens4, by show _ = _; kernel_rfl⟩).mono fun ds h => by
    obtain ⟨_, _, rfl, ⟨_, rfl, a, rfl⟩, _, _, rfl, ⟨_, rfl, b, rfl⟩, _, _, rfl, ⟨_, rfl, c, rfl⟩, _, _, rfl, ⟨_, rfl, d, rfl⟩, _, _, rfl, ⟨_, rfl, e, rfl⟩, rfl⟩ := h
    exact ⟨⟨a, b, c, d, e⟩, rfl, trivial⟩
theorem opens27 : Opens Try.prog 27 (fun ds => ∃ x, ds = [x] ∧ ∃ l : List Ev, x = .sl 5 (l.map Ev.ds)) :=
  (opens_slice Try.underlying27 (by kernel_rfl) opens37 (sz := 5) (by kernel_rfl) (by decide)).mono fun ds h => by
    obtain ⟨xs, rfl, h1, _⟩ := h
    obtain ⟨ws, rfl, _⟩ := rows_of h1
    exact ⟨_, rfl, ws, rfl⟩
/-- How a check ends. -/
structure Oc where
  good : Bool
  late : Bool
deriving DecidableEq
instance : Inhabited Oc := ⟨⟨false, false⟩⟩
@[simp] def Oc.ds (x : Oc) : List D := [.v (.bool x.good), .v (.bool x.late)]
theorem opens49 : Opens Try.prog 49 (fun ds => ∃ x : Oc, ds = x.ds ∧ True) :=
  (opens_struct Try.underlying49 (Qs := [_, _]) ⟨rfl, opens4, by kernel_rfl, opens4, by show _ = _; kernel_rfl⟩).mono fun ds h => by
    obtain ⟨_, _, rfl, ⟨_, rfl, a, rfl⟩, _, _, rfl, ⟨_, rfl, b, rfl⟩, rfl⟩ := h
    exact ⟨⟨a, b⟩, rfl, trivial⟩
theorem opens45 : Opens Try.prog 45 (fun ds => ∃ x, ds = [x] ∧ ∃ l : List Oc, x = .sl 2 (l.map Oc.ds)) :=
  (opens_slice Try.underlying45 (by kernel_rfl) opens49 (sz := 2) (by kernel_rfl) (by decide)).mono fun ds h => by
    obtain ⟨xs, rfl, h1, _⟩ := h
    obtain ⟨ws, rfl, _⟩ := rows_of h1
    exact ⟨_, rfl, ws, rfl⟩
@[simp] def uds (n : Int) : List D := [.v (.int .u32 n)]
theorem opens55 : Opens Try.prog 55 (fun ds => ∃ x, ds = [x] ∧ ∃ l : List Int, x = .sl 1 (l.map uds) ∧ ∀ n ∈ l, 0 ≤ n ∧ n ≤ 4294967295) :=
  (opens_slice Try.underlying55 (by kernel_rfl) opens57 (sz := 1) (by kernel_rfl) (by decide)).mono fun ds h => by
    obtain ⟨xs, rfl, h1, _⟩ := h
    obtain ⟨ws, rfl, hw⟩ := rows_of (enc := uds) (Q := fun n => 0 ≤ n ∧ n ≤ 4294967295) fun x hx => by
      obtain ⟨_, e, n, rfl, hn⟩ := h1 x hx
      exact ⟨n, e, hn⟩
    exact ⟨_, rfl, ws, rfl, hw⟩
section
variable {H : Type} {enc : TypeId × Value → H} {w : World} {base : Nat} {spare : Nat → Bool} {held : Bool} {r : Reach} {b0 : Nat} {v : Value} {d : DataW H} {p : List MemPlace} {m : Map}
set_option maxRecDepth 100000 in
theorem argHs (hv : Value.okWide Try.prog w r b0 26 v) (h : DataW.Trod enc Try.prog w base spare held 26 v d p) : ∃ s : Hs, Rep m w (allCells w) v s.pv := by
  obtain ⟨ds, ⟨s, hs⟩, hr⟩ := arg_struct (m := m) Try.underlying26 opens26 hv h
  rw [hs] at hr
  exact ⟨s, hr⟩
set_option maxRecDepth 100000 in
theorem argCf (hv : Value.okWide Try.prog w r b0 23 v) (h : DataW.Trod enc Try.prog w base spare held 23 v d p) : ∃ c : Cf, Rep m w (allCells w) v c.pv := by
  obtain ⟨ds, ⟨c, rfl⟩, hr⟩ := arg_struct (m := m) Try.underlying23 opens23 hv h
  exact ⟨c, hr⟩
set_option maxRecDepth 100000 in
theorem argEv (hv : Value.okWide Try.prog w r b0 37 v) (h : DataW.Trod enc Try.prog w base spare held 37 v d p) : ∃ x : Ev, Rep m w (allCells w) v x.pv := by
  obtain ⟨ds, ⟨c, rfl, _⟩, hr⟩ := arg_struct (m := m) Try.underlying37 opens37 hv h
  exact ⟨c, hr⟩
set_option maxRecDepth 100000 in
theorem argEvs (hv : Value.okWide Try.prog w r b0 27 v) (h : DataW.Trod enc Try.prog w base spare held 27 v d p) : ∃ l : List Ev, Rep m w (allCells w) v (.d (.sl 5 (l.map Ev.ds))) := by
  obtain ⟨A, n, c, rfl⟩ := okWide_slice Try.underlying27 hv
  obtain ⟨x, ⟨l, rfl⟩, hr⟩ := arg_one (m := m) opens27 rfl h
  exact ⟨l, hr⟩
set_option maxRecDepth 100000 in
theorem argOcs (hv : Value.okWide Try.prog w r b0 45 v) (h : DataW.Trod enc Try.prog w base spare held 45 v d p) : ∃ l : List Oc, Rep m w (allCells w) v (.d (.sl 2 (l.map Oc.ds))) := by
  obtain ⟨A, n, c, rfl⟩ := okWide_slice Try.underlying45 hv
  obtain ⟨x, ⟨l, rfl⟩, hr⟩ := arg_one (m := m) opens45 rfl h
  exact ⟨l, hr⟩
set_option maxRecDepth 100000 in
theorem argUs (hv : Value.okWide Try.prog w r b0 55 v) (h : DataW.Trod enc Try.prog w base spare held 55 v d p) : ∃ l : List Int, (∀ n ∈ l, 0 ≤ n ∧ n ≤ 4294967295) ∧ Rep m w (allCells w) v (.d (.sl 1 (l.map uds))) := by
  obtain ⟨A, n, c, rfl⟩ := okWide_slice Try.underlying55 hv
  obtain ⟨x, ⟨l, rfl, hl⟩, hr⟩ := arg_one (m := m) opens55 rfl h
  exact ⟨l, hl, hr⟩
set_option maxRecDepth 100000 in
theorem argTime (hv : Value.okWide Try.prog w r b0 2 v) (h : DataW.Trod enc Try.prog w base spare held 2 v d p) : ∃ n : Int, Rep m w (allCells w) v (.i n) := by
  obtain ⟨n, rfl⟩ := okWide_int Try.underlying2 hv
  obtain ⟨x, ⟨l, rfl⟩, hr⟩ := arg_one (m := m) opens2 rfl h
  exact ⟨l, hr⟩
set_option maxRecDepth 100000 in
theorem argByte (hv : Value.okWide Try.prog w r b0 5 v) (h : DataW.Trod enc Try.prog w base spare held 5 v d p) : ∃ n : Int, (0 ≤ n ∧ n ≤ 255) ∧ Rep m w (allCells w) v (.d (.v (.int .u8 n))) := by
  obtain ⟨n, rfl⟩ := okWide_int Try.underlying5 hv
  obtain ⟨x, ⟨l, rfl, hl⟩, hr⟩ := arg_one (m := m) opens5 rfl h
  exact ⟨l, hl, hr⟩
set_option maxRecDepth 100000 in
theorem argBool (hv : Value.okWide Try.prog w r b0 4 v) (h : DataW.Trod enc Try.prog w base spare held 4 v d p) : ∃ b : Bool, Rep m w (allCells w) v (.b b) := by
  obtain ⟨n, rfl⟩ := okWide_bool Try.underlying4 hv
  obtain ⟨x, ⟨l, rfl⟩, hr⟩ := arg_one (m := m) opens4 rfl h
  exact ⟨l, hr⟩
end
end Go.Proofs.Yticgikpccbgjbaa
