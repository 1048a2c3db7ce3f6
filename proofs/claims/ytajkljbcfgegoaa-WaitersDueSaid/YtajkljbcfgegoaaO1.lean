/- An argument that is a state (a number and a slice of waiters), read out of memory: what the walks ask of it. -/
import Derived.Test.YtajkljbcfgegoaaW1
import Derived.ProofKit
import Derived.Lib.SmallJoins
import Derived.Deep.Slices
import Derived.ChangeOld
namespace Go.Proofs.Ytajkljbcfgegoaa
open Go.ChangeShapes Go.WideShapes Go.RowKit Go.Joins

section
variable {H : Type} {enc : TypeId × Value → H} {w : World} {base : Nat} {spare : Nat → Bool} {held : Bool}

theorem cells2 : Try.prog.cellsOf 2 = 1 := by kernel_rfl
theorem cells29 : Try.prog.cellsOf 29 = 3 := by kernel_rfl
theorem cells24 : Try.prog.cellsOf 24 = 2 := by kernel_rfl

theorem open_wt {fuel : Nat} {cs : List Value} {x : DataW H × List MemPlace} (h : DataW.trod enc Try.prog w base spare held fuel 29 cs = some x) :
    ∃ t : Wt, cs = [.int .i64 t.call, .int .i64 t.since, .int .i64 t.dead] := by
  obtain ⟨ys, n', _, _, hlen, hyl, hf⟩ := DataW.trod_struct Try.underlying29 h
  rw [cells29] at hlen
  match cs, hlen with
  | [c0, c1, c2], _ =>
    match ys, hyl with
    | [y0, y1, y2], _ =>
      have h0 : DataW.trod enc Try.prog w base spare held n' 2 (([c0, c1, c2].drop 0).take (Try.prog.cellsOf 2)) = some y0 := hf 0 _ rfl
      have h1 : DataW.trod enc Try.prog w base spare held n' 2 (([c0, c1, c2].drop 1).take (Try.prog.cellsOf 2)) = some y1 := hf 1 _ rfl
      have h2 : DataW.trod enc Try.prog w base spare held n' 2 (([c0, c1, c2].drop 2).take (Try.prog.cellsOf 2)) = some y2 := hf 2 _ rfl
      rw [cells2] at h0 h1 h2
      obtain ⟨a, e0, _, _⟩ := DataW.trod_int Try.underlying2 h0
      obtain ⟨b, e1, _, _⟩ := DataW.trod_int Try.underlying2 h1
      obtain ⟨c, e2, _, _⟩ := DataW.trod_int Try.underlying2 h2
      simp at e0 e1 e2
      exact ⟨⟨a, b, c⟩, by rw [e0, e1, e2]⟩

theorem open_wts {fuel : Nat} {cs : List Value} {x : DataW H × List MemPlace} (h : DataW.trod enc Try.prog w base spare held fuel 22 cs = some x) :
    ∃ (A : Option Addr) (c : Nat) (ws : List Wt), cs = [.slice A ws.length c] ∧ Arr w (· < w.heap.size) A c ws := by
  rcases Go.Deep.open_slice Try.underlying22 h with ⟨rfl, _⟩ | ⟨a, len, cap, m, n, D, Pl, rfl, _, hl, hm, hmm, _, hi⟩
  · exact ⟨none, 0, [], rfl, Arr.nil⟩
  · rw [cells29] at hi
    have hlm : len ≤ m := by rw [hmm]; split <;> omega
    have hx : ∀ i, ∃ t : Wt, i < len → ∀ j u, (flatWt.enc t)[j]? = some u → w.cell? ((a.add (i * 3)).add j) = some u := by
      intro i
      by_cases hi' : i < len
      · obtain ⟨cs', hc, ht⟩ := hi i (by omega)
        obtain ⟨t, rfl⟩ := open_wt ht
        obtain ⟨_, hcl, hat⟩ := World.cells?_some hc
        refine ⟨t, fun _ j u hu => ?_⟩
        have hj : j < 3 := by have := (List.getElem?_eq_some_iff.1 hu).1; exact this
        exact (hat j hj).trans hu
      · exact ⟨default, fun h => absurd h hi'⟩
    obtain ⟨f, hf⟩ := Classical.axiomOfChoice hx
    refine ⟨some a, cap, (List.range len).map f, by simp, by simpa using hl, hm, (fun h => by cases h), fun hn => ?_⟩
    have hn' : 0 < len := by simpa using hn
    have h0 := hf 0 hn' 0 _ rfl
    have hsp := World.cell?_spot h0
    have hlt := World.block_lt_of_cell? w _ h0
    obtain ⟨b, o, sp⟩ := a
    have hsp' : sp = none := by simpa [Addr.add] using hsp
    subst hsp'
    refine ⟨b, o, rfl, by simpa [Addr.add] using hlt, by simpa [Addr.add] using hlt, fun i x hx => ⟨flatWt.enc x, rfl, fun j u hu => ?_⟩⟩
    have hil : i < len := by have := (List.getElem?_eq_some_iff.1 hx).1; simpa using this
    have hxe : f i = x := by
      rw [List.getElem?_map, List.getElem?_range hil] at hx
      simpa using hx
    have := hf i hil j u (by rw [hxe]; exact hu)
    rw [Addr.add_lit, Addr.add_lit] at this
    exact this

/-- A state by value. -/
theorem open_st {r : Reach} {b0 : Nat} {v : Value} {d : DataW H} {p : List MemPlace} (hv : Value.okWide Try.prog w r b0 24 v) (h : DataW.Trod enc Try.prog w base spare held 24 v d p) :
    ∃ (s : St) (A : Option Addr) (c : Nat), v = .agg #[.int .i64 s.most, .slice A s.ws.length c] ∧ Arr w (· < w.heap.size) A c s.ws := by
  obtain ⟨v0, v1, y0, y1, n, rfl, _, _, h0, h1⟩ := open_agg2 Try.underlying24 (by kernel_rfl) cells24 hv h
  obtain ⟨m, e0, _, _⟩ := DataW.trod_int Try.underlying3 h0
  obtain ⟨A, c, ws, e1, ha⟩ := open_wts h1
  simp at e0 e1
  exact ⟨⟨m, ws⟩, A, c, by rw [e0, e1], ha⟩
end
end Go.Proofs.Ytajkljbcfgegoaa
