/- A row of bytes that is converted to its own type: the model marks its block, nobody writes it any more. No condition. -/
import Derived.Test.YtplooifpgmlofaaGreatV10m
namespace Go.Proofs.YtplooifpgmlofaaGreat
open Go.RowKit

section
variable {P : Program} {tb : Tab} {B : Base} {m : Map} {S S' : Cells} {σ : Sta} {a : Act} {w : World}

theorem Sim.addS (h : Sim B m S σ a w) {b n : Nat} (hb : ∀ k, ¬ m.has k b) (hy : B.w.heap.size ≤ b) (hlt : b < w.heap.size) (hm : ∀ x ∈ B.ds, x.1 ≠ b) : Sim B m (fun b' o => S b' o ∨ (b' = b ∧ o < n)) σ a w := by
  refine h.world (m' := m) (S' := fun b' o => S b' o ∨ (b' = b ∧ o < n)) (mem' := σ.mem) (w' := w) ?_ (fun _ _ hs => .inl hs) (fun _ _ _ => rfl) (fun _ _ hl => hl)
  refine { h.toMemOk with objs := fun j q hq => ?_, sold := fun _ _ hs => .inl (h.sold _ _ hs), snew := fun b' o hs hb' => ?_, marks := fun x hx => ⟨(h.marks x hx).1, (h.marks x hx).2.1, fun o hs => hs.elim (fun hs => (h.marks x hx).2.2 o hs) fun e => hm x hx e.1⟩, sin := fun b' o hs => ?_ }
  · refine (h.objs j q hq).keep (fun _ _ hs => .inl hs) (fun _ _ _ => rfl) (fun _ _ _ hl => hl) (fun _ hl => hl) rfl fun b' hb' => ⟨rfl, fun o hs => ?_⟩
    rcases hs with hs | ⟨rfl, _⟩
    · exact hs
    · exact absurd hb' (hb j)
  · rcases hs with hs | ⟨rfl, _⟩
    · exact h.snew _ _ hs hb'
    · omega
  · rcases hs with hs | ⟨rfl, _⟩
    · exact h.sin _ _ hs
    · exact hlt
theorem freeze_block (w : World) (ad : Addr) (n b : Nat) (h : b ≠ ad.block) : (w.freeze ad n).heap[b]? = w.heap[b]? := by
  unfold World.freeze
  split
  · rfl
  · rw [Array.getElem?_modify, if_neg (fun e => h e.symm)]
theorem freeze_size (w : World) (ad : Addr) (n : Nat) : (w.freeze ad n).heap.size = w.heap.size := by
  unfold World.freeze
  split
  · rfl
  · simp
theorem freeze_cell (w : World) (ad : Addr) (n : Nat) (x : Addr) : (w.freeze ad n).cell? x = w.cell? x := by
  unfold World.freeze
  split
  · rfl
  · unfold World.cell?
    rw [Array.getElem?_modify]
    by_cases e : ad.block = x.block
    · rw [if_pos e]
      cases w.heap[x.block]? with
      | none => rfl
      | some o => cases o <;> rfl
    · rw [if_neg e]
theorem freeze_grow (w : World) (ad : Addr) (n : Nat) : Grow (· = ad.block) w (w.freeze ad n) := by
  refine ⟨?_, ?_, ?_, by rw [freeze_size]; exact Nat.le_refl _, fun b _ hb => freeze_block w ad n b hb⟩ <;> (unfold World.freeze; split <;> rfl)
theorem bytes_ok (h : Sim B m S σ a w) {t e k n sz : Nat} {xs : List (List D)} (ht : P.underlying t = some (.slice e)) (he : P.underlying e = some (.int .u8)) (hk : look k σ.mem = some (.row e sz xs false)) (hkk : k < 1000000) (h0 : 0 < xs.length) (hn : n ≤ xs.length)
    {v : Value} (hv : Rep m w S v (.rw k n)) :
    ∃ w' m' S', (convert t t v).run P w = .ok v w' ∧ Sim B m' S' { σ with slots := eraseS k σ.slots, mem := (k, .row e sz [] false) :: eraseM k σ.mem } a w' ∧ Rep m' w' S' v (.d (.sl sz (xs.take n))) := by
  have ho := h.objs _ _ hk
  obtain ⟨z0, z1, lc, h2, h3⟩ := ho
  rcases h3 with ⟨_, rfl⟩ | ⟨b, arr, us, e1, h4, h5, h6, h7, h8, h9, h10, h11, _⟩
  · simp at h0
  have hmk : m k = some ⟨some b, lc.cap⟩ := by rw [h2]; cases lc; cases e1; rfl
  have hlt := h.toMemOk.lt hmk
  have hb0 : B.w.heap.size ≤ b := by
    rcases h.fresh k b _ hmk with h' | h'
    · exact h'
    · omega
  have hnb : ∀ x ∈ B.ds, x.1 ≠ b := fun x hx e => h.toMemOk.noMark (.inl ⟨_, hmk⟩) hx e
  obtain ⟨l, g1, g2⟩ := hv
  rw [h2] at g1; cases g1
  rcases g2 with ⟨g2, _⟩ | ⟨b', gb, rfl, gc⟩
  · rw [g2] at e1; cases e1
  rw [gb] at e1; cases e1
  have hSb : ∀ o, ¬ S b o := fun o hs => by have := (h11 o hs).1; cases this
  have hrun : (convert t t (.slice (some ⟨b, 0, none⟩) n lc.cap)).run P w = .ok (.slice (some ⟨b, 0, none⟩) n lc.cap) (w.freeze ⟨b, arr.size, none⟩ 1) := by
    have hsh : w.shape? b = some (e, arr.size) := by unfold World.shape?; rw [h4]
    simp [convert, run_underlying ht, run_underlying he, markStringish, hsh]
  generalize hw' : w.freeze ⟨b, arr.size, none⟩ 1 = w' at hrun
  have hcell : ∀ x, w'.cell? x = w.cell? x := fun x => by rw [← hw']; exact freeze_cell w _ 1 x
  have hsize : w'.heap.size = w.heap.size := by rw [← hw']; exact freeze_size w _ 1
  have hg : Grow (· = b) w w' := by rw [← hw']; exact freeze_grow w ⟨b, arr.size, none⟩ 1
  have s1 := h.redo (o' := .row e sz [] false) (l' := ⟨none, 0⟩) (S' := S) (w' := w') (.inl hkk) hk rfl ⟨_, h2⟩ (hg.mono fun i _ hi => by subst hi; exact ⟨_, hmk⟩) (fun _ hb => by cases hb) (fun _ _ hs => hs) (fun b' o _ => hcell _) (fun _ _ hs => .inl hs)
    (fun b' o hs => by rw [hsize]; exact h.sin b' o hs) ⟨z0, (fun x hx => by cases hx), ⟨none, 0⟩, upd_same .., .inl ⟨rfl, rfl⟩⟩
  have hno : ∀ j, ¬ (upd m k ⟨none, 0⟩).has j b := fun j hj => by
    rcases upd_has hj with ⟨_, e⟩ | hj'
    · cases e
    · have := h.parts j k b hj' (.inl ⟨_, hmk⟩)
      subst this
      rcases hj with ⟨c, hj⟩ | ⟨i, c, hj⟩
      · rw [upd_same] at hj; cases hj
      · have := h.toMemOk.noSub hk rfl i c
        rw [show (upd m j ⟨none, 0⟩).sub j i c = m.sub j i c from rfl, this] at hj; cases hj
  have s2 := s1.addS (n := xs.length * sz) hno hb0 (by rw [hsize]; exact hlt) hnb
  refine ⟨w', _, _, hrun, s2, ?_⟩
  have hd : RepD w (fun b' o => S b' o ∨ (b' = b ∧ o < xs.length * sz)) (.slice (some ⟨b, 0, none⟩) n lc.cap) (.sl sz (xs.take n)) := by
    refine row_data (m := m) (k := k) (t := e) ⟨z0, z1, lc, h2, .inr ⟨b, arr, us, gb, h4, h5, h6, h7, h8.imp fun _ _ _ hr => hr.keep (fun _ _ hs => .inl hs) fun _ _ _ => rfl, h9, h10, fun o hs => ⟨rfl, ?_⟩, fun _ o ho => .inr ⟨rfl, ho⟩⟩⟩ ⟨lc, h2, .inr ⟨b, gb, rfl, gc⟩⟩ hn
    rcases hs with hs | hs
    · exact absurd hs (hSb o)
    · exact hs.2
  exact RepD.keep (fun _ _ hs => hs) (fun b' o _ => hcell _) hd
theorem rowStr_ok (h : Sim B m S σ a w) {src dst e k n : Nat} {lk : Bool} {xs : List (List D)} {ns : List Int} (ht : P.underlying src = some (.slice e)) (he : P.underlying e = some (.int .u8)) (hd : P.underlying dst = some .string) (hk : look k σ.mem = some (.row e 1 xs lk)) (hn : n ≤ xs.length) (hns : numsOf (xs.take n) = some ns)
    {v : Value} (hv : Rep m w S v (.rw k n)) : (convert src dst v).run P w = .ok (.string (strOfNums ns)) w := by
  obtain ⟨z0, z1, lc, h2, h3⟩ := h.objs _ _ hk
  obtain ⟨l, g1, g2⟩ := hv
  rw [h2] at g1; cases g1
  have hxs := numsOf_at hns
  have hle : n = ns.length := by
    have := congrArg List.length hxs
    rw [List.length_take, List.length_map, Nat.min_eq_left hn] at this
    exact this
  rcases g2 with ⟨_, rfl, g3⟩ | ⟨b', gb, rfl, gc⟩
  · have h0 : n = 0 := g3
    have : ns = [] := List.length_eq_zero_iff.1 (by omega)
    subst this
    rw [run_convert_bytes_nil w src e ht he _ _ dst hd]; rfl
  · rcases h3 with ⟨h3, _⟩ | ⟨b, arr, us, e1, h4, h5, h6, h7, h8, h9, h10, h11, _⟩
    · rw [gb] at h3; cases h3
    rw [gb] at e1; cases e1
    refine run_convert_bytes_arg w src e ht he b' 0 n lc.cap ns hle.symm (fun i hi => ?_) dst hd
    have hin : i < ns.length := by omega
    have hx : (xs.take n)[i]? = some [D.v (.int .u8 (ns.getD i 0))] := by
      rw [hxs, List.getElem?_map, List.getD_eq_getElem?_getD, List.getElem?_eq_getElem hin]; rfl
    have hx2 : xs[i]? = some [D.v (.int .u8 (ns.getD i 0))] := by
      rw [List.getElem?_take, if_pos hi] at hx; exact hx
    have hfl : xs.flatten[i]? = some (D.v (.int .u8 (ns.getD i 0))) := by
      obtain ⟨x, p, f1, f2, f3, _⟩ := flatten_at 1 z1 (q := i) (by have := (List.getElem?_eq_some_iff.1 hx2).1; omega)
      rw [Nat.div_one] at f1
      rw [hx2] at f1
      cases f1
      rw [Nat.mod_one] at f2
      cases f2
      exact f3
    obtain ⟨u, hu1, hu2⟩ := h8.get hfl
    cases hu2
    have := h10 i _ hu1
    simp [World.cell?, h4, this]
end
end Go.Proofs.YtplooifpgmlofaaGreat
