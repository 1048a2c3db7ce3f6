/- An argument that is a slice of bytes, read out of memory. -/
import Derived.Test.YtajkljbcfgegoaaO1
namespace Go.Proofs.Ytajkljbcfgegoaa
open Go.ChangeShapes Go.WideShapes Go.RowKit Go.Joins

theorem Byteat {w : World} {S : Nat → Prop} {c k : Nat} {A : Option Addr} {xs : List UInt8} {x : UInt8} (h : Arr w S A c xs) (hk : xs[k]? = some x) : ∃ b o : Nat, A = some ⟨b, o, none⟩ ∧ b < w.heap.size ∧
    w.cell? ⟨b, o + k, none⟩ = some (.int .u8 (x.toNat : Int)) := by
  obtain ⟨b, o, e, hb, _, cs, hr, hc⟩ := h.at_ hk
  obtain rfl : cs = _ := hr
  refine ⟨b, o, e, hb, ?_⟩
  have := hc 0 _ rfl
  rw [show o + k * (layOfFlat (α := UInt8)).sz + 0 = o + k from by show o + k * 1 + 0 = _; omega] at this
  exact this

section
variable {H : Type} {enc : TypeId × Value → H} {w : World} {base : Nat} {spare : Nat → Bool} {held : Bool}
theorem cells5 : Try.prog.cellsOf 5 = 1 := by kernel_rfl
theorem open_by {r : Reach} {b0 : Nat} {v : Value} {d : DataW H} {p : List MemPlace} (hv : Value.okWide Try.prog w r b0 34 v) (h : DataW.Trod enc Try.prog w base spare held 34 v d p) :
    ∃ (bs : List UInt8) (A : Option Addr) (c : Nat), v = .slice A bs.length c ∧ Arr w (· < w.heap.size) A c bs := by
  obtain ⟨a1, len, cap, rfl⟩ := okWide_slice Try.underlying34 hv
  obtain ⟨fuel, hf⟩ := h
  rcases open_ints Try.underlying34 Try.underlying5 cells5 hf with ⟨hcs, _⟩ | ⟨a, len', cap', zs, hcs, _, hl, hm, hz, _, hcell, hwz⟩
  · simp [Value.cells] at hcs
    obtain ⟨rfl, rfl, rfl⟩ := hcs
    exact ⟨[], none, 0, rfl, Arr.nil⟩
  · simp [Value.cells] at hcs
    obtain ⟨rfl, rfl, rfl⟩ := hcs
    have hlz : len ≤ zs.length := by rw [hz]; split <;> omega
    have hlen : ((zs.take len).map fun n => UInt8.ofNat n.toNat).length = len := by simp; omega
    refine ⟨(zs.take len).map fun n => UInt8.ofNat n.toNat, some a, cap, by rw [hlen], by omega, hm, (fun h => by cases h), fun hn => ?_⟩
    rw [hlen] at hn
    obtain ⟨b, off, rfl, hat⟩ := ints_at hcell (by omega)
    have hlt := World.block_lt_of_cell? w _ (hat 0 (by omega))
    refine ⟨b, off, rfl, hlt, hlt, fun i x hx => ⟨_, rfl, fun j u hu => ?_⟩⟩
    have hil : i < len := by have := (List.getElem?_eq_some_iff.1 hx).1; rw [hlen] at this; exact this
    obtain rfl : j = 0 := by have := (List.getElem?_eq_some_iff.1 hu).1; have : j < 1 := this; omega
    obtain rfl : Value.int .u8 (x.toNat : Int) = u := Option.some.inj hu
    have hc := hat i (by omega)
    have hb := range_u8 hwz i
    have e : zs.getD i 0 = zs[i]'(by omega) := by simp [List.getD, List.getElem?_eq_getElem (show i < zs.length by omega)]
    rw [List.getElem?_map, List.getElem?_take, if_pos hil, List.getElem?_eq_getElem (by omega)] at hx
    obtain rfl : UInt8.ofNat (zs[i]'(by omega)).toNat = x := Option.some.inj hx
    rw [show off + i * (layOfFlat (α := UInt8)).sz + 0 = off + i from by show off + i * 1 + 0 = _; omega, hc, e]
    rw [← List.getD_eq_getElem?_getD, e] at hb
    have : (UInt8.ofNat (zs[i]'(by omega)).toNat).toNat = (zs[i]'(by omega)).toNat := by simp [UInt8.toNat_ofNat']; omega
    rw [this]
    congr 2
    omega
end
end Go.Proofs.Ytajkljbcfgegoaa
