/- Objects held together under the first one's pointer: what a method does to them, said of the whole. No condition. -/
import Derived.Test.YtplooifpgmlofaaGreatV22
namespace Go.Proofs.YtplooifpgmlofaaGreat
open Go.RowKit

structure Held (objs : List MObj) (b : Nat) (sub : Nat → Nat → Option Nat) (w : World) (S : Cells) (m0 : Map) : Prop where
  none : ∀ k i c, m0.sub k i c = none
  head : ∃ c, m0 1000000 = some ⟨some b, c⟩
  rest : ∀ i c, sub i c = if c = 0 then (m0 (1000001 + i)).bind Loc.blk else Option.none
  dom : ∀ k l, m0 k = some l → 1000000 ≤ k ∧ k < 1000000 + objs.length
  objs : ∀ i o, objs[i]? = some o → ObjOk m0 w S (1000000 + i) o
  parts : ∀ k k' b', m0.has k b' → m0.has k' b' → k = k'
theorem Held.has {objs : List MObj} {b : Nat} {sub : Nat → Nat → Option Nat} {w : World} {S : Cells} {m0 : Map} (h : Held objs b sub w S m0) {b' : Nat} : ofSys b sub b' ↔ ∃ k, m0.has k b' := by
  constructor
  · rintro (rfl | ⟨i, c, hb⟩)
    · obtain ⟨c, hc⟩ := h.head
      exact ⟨1000000, .inl ⟨c, hc⟩⟩
    · rw [h.rest] at hb
      split at hb
      · cases hm : m0 (1000001 + i) with
        | none => rw [hm] at hb; cases hb
        | some l =>
          rw [hm] at hb
          have hb : l.blk = some b' := hb
          exact ⟨1000001 + i, .inl ⟨l.cap, by rw [hm]; cases l; cases hb; rfl⟩⟩
      · cases hb
  · rintro ⟨k, ⟨c, hk⟩ | ⟨i, c, hk⟩⟩
    · obtain ⟨h1, h2⟩ := h.dom k _ hk
      by_cases h3 : k = 1000000
      · subst h3
        obtain ⟨c', hc⟩ := h.head
        rw [hk] at hc
        cases hc
        exact .inl rfl
      · refine .inr ⟨k - 1000001, 0, ?_⟩
        rw [h.rest, if_pos rfl, show 1000001 + (k - 1000001) = k by omega, hk]
        rfl
    · rw [h.none] at hk; cases hk
def holdH (objs : List MObj) : Hid where
  R := fun b sub w S => ∃ m0, Held objs b sub w S m0
  keep := fun hS hc hb ⟨m0, h⟩ => ⟨m0, { none := h.none, head := h.head, rest := h.rest, dom := h.dom, parts := h.parts, objs := fun i o ho => (h.objs i o ho).keep hS hc (fun _ _ _ hl => hl) (fun _ hl => hl) rfl fun b' hb' => hb b' (h.has.2 ⟨_, hb'⟩) }⟩
  held := fun ⟨m0, h⟩ b' hb' => by
    obtain ⟨k, ⟨c, hk⟩ | ⟨i, c, hk⟩⟩ := h.has.1 hb'
    · obtain ⟨h1, h2⟩ := h.dom k _ hk
      obtain ⟨o, ho⟩ : ∃ o, objs[k - 1000000]? = some o := ⟨_, List.getElem?_eq_getElem (by omega)⟩
      have := h.objs _ o ho
      rw [show 1000000 + (k - 1000000) = k by omega] at this
      exact this.cells hk
    · rw [h.none] at hk; cases hk

def flatO (o : MObj) : Bool := !isNest o
def resObj (r : Res) (k : Nat) : Option MObj := look k (extMem 1000000 r.ext ++ extMem 2000000 r.new)
def liftObjs (r : Res) (ks : List Nat) : List MObj := ks.map fun k => (back1 ((resObj r k).getD default)).ren (toE ks)
def liftOk (r : Res) (ks : List Nat) : Bool :=
  nodupB ks && decide (ks.head? = some 1000000) && decide (ks.length < 1000) && r.val.keys.isEmpty && (match r.ext[0]? with | some o => !isGrown o | none => false) &&
    ks.all fun k => match resObj r k with
      | some o => flatO o && o.keys.all fun j => ks.contains j
      | none => false

section
variable {P : Program}
theorem Rep.noKeys {m m' : Map} {w w' : World} {S S' : Cells} {v : Value} {p : PV} (hp : p.keys = []) (hS : ∀ b o, S b o → S' b o) (hc : ∀ b o, S b o → w'.cell? ⟨b, o, none⟩ = w.cell? ⟨b, o, none⟩) (h : Rep m w S v p) : Rep m' w' S' v p :=
  h.keep hS hc fun k hk => by rw [hp] at hk; cases hk

theorem Meets.lift {f : Nat} {args : List PV} {objs : List MObj} {Q : Res → Prop} (ha : ∀ p ∈ args, p.keys = []) (hl : objs.length < 1000)
    (h : Meets P f (.ptr 1000000 0 :: args) objs fun r => ∃ ks, liftOk r ks = true ∧ Q ⟨r.val, [.sys (holdH (liftObjs r ks))], []⟩) : Meets P f (.ptr 1000000 0 :: args) [.sys (holdH objs)] Q := by
  refine ⟨h.1, fun w S m T vs hv hM => ?_⟩
  obtain ⟨b, c, hmb, m0, H⟩ := hM.objs 1000000 _ rfl
  obtain ⟨c0, hm0⟩ := H.head
  have hT : ∀ q, (∃ k, m0.has k q) → m.has 1000000 q := fun q hq => (H.has.2 hq).elim (fun e => .inl ⟨c, by rw [e]; exact hmb⟩) .inr
  have hM0 : MemOk ⟨w, fun q => ∃ k, m0.has k q, S, m0, [], [], fun _ => none, w⟩ m0 S (extMem 1000000 objs) w := by
    refine { dom := fun k l hk => ?_, objs := fun k o ho => ?_, subs := fun k i c b hk => (by rw [H.none] at hk; cases hk), subx := fun k _ _ i c b hk => (by rw [H.none] at hk; cases hk), parts := H.parts, young := fun k b hk => ?_, grow := Grow.refl _ _, sold := fun _ _ hs => hs, snew := fun _ _ hs _ => hs, sin := hM.sin, scell := fun _ _ _ => rfl, ext := fun _ _ _ _ hl => .inl hl, marks := fun _ hx => nomatch hx }
    · obtain ⟨h1, h2⟩ := H.dom k l hk
      rw [look_ext, if_pos h1, List.getElem?_eq_getElem (by omega)]; rfl
    · rw [look_ext] at ho
      split at ho
      · rename_i h1
        have := H.objs _ o ho
        rwa [show 1000000 + (k - 1000000) = k by omega] at this
      · cases ho
    · rcases hk with ⟨c', hk⟩ | ⟨i, c', hk⟩
      · obtain ⟨h1, h2⟩ := H.dom k _ hk
        exact .inr ⟨⟨k, .inl ⟨c', hk⟩⟩, h1, by omega⟩
      · rw [H.none] at hk; cases hk
  have hv0 : All2 (Rep m0 w S) vs.toList (.ptr 1000000 0 :: args) := by
    revert hv
    cases vs.toList with
    | nil => exact id
    | cons v vs =>
      rintro ⟨⟨b', c', h1, h2⟩, h3⟩
      rw [hmb] at h1
      cases h1
      exact ⟨⟨b, c0, hm0, h2⟩, h3.imp fun _ p hp hr => hr.noKeys (ha p hp) (fun _ _ hs => hs) fun _ _ _ => rfl⟩
  refine (h.2 w S m0 _ vs hv0 hM0).mono ?_
  rintro e w' ⟨r, v, m1, S1, ⟨ks, hok, hq⟩, rfl, hr, hM1, ⟨hk1, hk2⟩, hle, hln⟩
  unfold liftOk at hok
  simp only [Bool.and_eq_true, decide_eq_true_eq, List.all_eq_true, List.isEmpty_iff] at hok
  obtain ⟨⟨⟨⟨⟨o1, o2⟩, o3⟩, o4⟩, o5⟩, o6⟩ := hok
  have hnd := nodup_of o1
  have hks0 : ks[0]? = some 1000000 := by rw [← List.head?_eq_getElem?]; exact o2
  have hm1 : m1 1000000 = some ⟨some b, c0⟩ := by
    obtain ⟨l', h1, h2⟩ := hk1 _ _ hm0
    rcases h2 with rfl | ⟨h2, _⟩
    · exact h1
    · exfalso
      unfold grownAt at h2
      rw [Nat.sub_self] at h2
      split at o5
      · rename_i o ho
        rw [ho] at h2
        simp at h2 o5
        rw [o5] at h2; cases h2
      · cases o5
  have hobj : ∀ k ∈ ks, ∃ o, resObj r k = some o ∧ flatO o = true ∧ ∀ j ∈ o.keys, j ∈ ks := fun k hk => by
    have := o6 k hk
    split at this
    · rename_i o ho
      simp only [Bool.and_eq_true, List.all_eq_true, List.contains_eq_mem, decide_eq_true_eq] at this
      exact ⟨o, ho, this.1, this.2⟩
    · cases this
  have hidx : ∀ k ∈ ks, ks[ks.idxOf k]? = some k := fun k hk => by
    have hlt := List.idxOf_lt_length_of_mem hk
    rw [List.getElem?_eq_getElem hlt, List.getElem_idxOf hlt]
  let n0 : Map := ⟨fun k => if 1000000 ≤ k then (ks[k - 1000000]?).bind m1 else none, fun _ _ _ => none⟩
  have hn0 : ∀ k, 1000000 ≤ k → n0 k = (ks[k - 1000000]?).bind m1 := fun k hk => if_pos hk
  have hnt : ∀ k ∈ ks, n0 (toE ks k) = m1 k := fun k hk => by
    rw [hn0 _ (by unfold toE; omega)]
    unfold toE
    rw [Nat.add_sub_cancel_left, hidx k hk]; rfl
  let m2 : Map := ⟨fun k => if k = 1000000 then some ⟨some b, c⟩ else none, fun k i c => if k = 1000000 ∧ c = 0 then (n0 (1000001 + i)).bind Loc.blk else none⟩
  have hnh : ∀ k q, n0.has k q → ∃ j ∈ ks, m1.has j q ∧ 1000000 ≤ k ∧ ks[k - 1000000]? = some j := fun k q hk => by
    rcases hk with ⟨c', hk⟩ | ⟨i, c', hk⟩
    · have hk : (if 1000000 ≤ k then (ks[k - 1000000]?).bind m1 else none) = some ⟨some q, c'⟩ := hk
      split at hk
      · rename_i h1
        cases hj : ks[k - 1000000]? with
        | none => rw [hj] at hk; cases hk
        | some j => rw [hj] at hk; exact ⟨j, List.mem_of_getElem? hj, .inl ⟨c', hk⟩, h1, rfl⟩
      · cases hk
    · cases hk
  have hHeld : Held (liftObjs r ks) b (m2.sub 1000000) w' S1 n0 := by
    refine { none := fun _ _ _ => rfl, head := ⟨c0, ?_⟩, rest := fun i c => ?_, dom := fun k l hk => ?_, objs := fun i o ho => ?_, parts := fun k k' q hk hk' => ?_ }
    · rw [hn0 _ (Nat.le_refl _), Nat.sub_self, hks0]; exact hm1
    · show (if 1000000 = 1000000 ∧ c = 0 then _ else _) = _
      simp
    · have hk : (if 1000000 ≤ k then (ks[k - 1000000]?).bind m1 else none) = some l := hk
      split at hk
      · rename_i h1
        refine ⟨h1, ?_⟩
        cases hj : ks[k - 1000000]? with
        | none => rw [hj] at hk; cases hk
        | some j =>
          have := (List.getElem?_eq_some_iff.1 hj).1
          unfold liftObjs
          rw [List.length_map]
          omega
      · cases hk
    · unfold liftObjs at ho
      rw [List.getElem?_map] at ho
      obtain ⟨k, hk, rfl⟩ := Option.map_eq_some_iff.1 ho
      have hkm := List.mem_of_getElem? hk
      obtain ⟨o, g1, g2, g3⟩ := hobj k hkm
      rw [g1, Option.getD_some]
      have hob := (hM1.objs k o g1).back1
      have e1 : toE ks k = 1000000 + i := by
        have hi := hidx k hkm
        have := (List.getElem?_inj (List.getElem?_eq_some_iff.1 hk).1 hnd).1 (hk.trans hi.symm)
        unfold toE
        omega
      refine hob.ren (fun j hj l hl => ?_) (fun l hl => ?_) ?_
      · have hj' : j ∈ ks := g3 j (by cases o <;> exact hj)
        rw [hnt j hj']; exact hl
      · rw [← e1, hnt k hkm]; exact hl
      · funext i' c'
        cases e2 : m1.sub k i' c' with
        | none => rfl
        | some q =>
          obtain ⟨o', g4, g5⟩ := hM1.subs k i' c' q e2
          rw [show look k (extMem 1000000 r.ext ++ extMem 2000000 r.new) = some o from g1] at g4
          cases g4
          unfold flatO at g2
          rw [g5] at g2; cases g2
    · obtain ⟨j, g1, g2, g3, g4⟩ := hnh k q hk
      obtain ⟨j', g1', g2', g3', g4'⟩ := hnh k' q hk'
      have := hM1.parts j j' q g2 g2'
      subst this
      have := (List.getElem?_inj (List.getElem?_eq_some_iff.1 g4).1 hnd).1 (g4.trans g4'.symm)
      omega
  have hyoung : ∀ q, ofSys b (m2.sub 1000000) q → w.heap.size ≤ q ∨ m.has 1000000 q := fun q hq => by
    obtain ⟨k, hk⟩ := hHeld.has.1 hq
    obtain ⟨j, g1, g2, _⟩ := hnh k q hk
    rcases hM1.young j q g2 with g | ⟨g, _⟩
    · exact .inl g
    · exact .inr (hT q g)
  have hhas : ∀ k q, m2.has k q → k = 1000000 ∧ ofSys b (m2.sub 1000000) q := fun k q hk => by
    rcases hk with ⟨c', hk⟩ | ⟨i, c', hk⟩
    · have hk : (if k = 1000000 then some ⟨some b, c⟩ else none) = some (⟨some q, c'⟩ : Loc) := hk
      split at hk
      · rename_i h1
        cases hk
        exact ⟨h1, .inl rfl⟩
      · cases hk
    · by_cases h1 : k = 1000000
      · subst h1; exact ⟨rfl, .inr ⟨i, c', hk⟩⟩
      · have hk : (if k = 1000000 ∧ c' = 0 then (n0 (1000001 + i)).bind Loc.blk else none) = some q := hk
        rw [if_neg (fun e => h1 e.1)] at hk; cases hk
  have hTT : ∀ i, i < w.heap.size → (∃ k, m0.has k i) → T i := fun i hi hq => by
    rcases hM.young 1000000 i (hT i hq) with g | ⟨g, _⟩
    · exact absurd hi (Nat.not_lt.2 g)
    · exact g
  refine ⟨⟨r.val, [.sys (holdH (liftObjs r ks))], []⟩, v, m2, S1, hq, rfl, hr.noKeys o4 (fun _ _ hs => hs) (fun _ _ _ => rfl), { dom := fun k l hk => ?_, objs := fun k o ho => ?_, subs := fun k i c b' hk => ?_, subx := fun k _ _ i c b' hk => .inr (.inr ⟨i, c, hk⟩), parts := fun k k' q hk hk' => ((hhas k q hk).1).trans (hhas k' q hk').1.symm, young := fun k q hk => ?_, grow := hM1.grow.mono hTT, sold := hM1.sold, snew := hM1.snew, sin := hM1.sin, scell := hM1.scell, ext := fun _ _ _ _ hl => .inl hl, marks := fun _ hx => nomatch hx }, ⟨fun k l hk => ⟨l, ?_, .inl rfl⟩, fun k q1 q2 i c' q hk => ?_⟩, rfl, by simp⟩
  · have hk : (if k = 1000000 then some ⟨some b, c⟩ else none) = some l := hk
    split at hk
    · rename_i h1; subst h1; rfl
    · cases hk
  · rcases look_cons ho with ⟨rfl, rfl⟩ | ⟨_, ho⟩
    · exact ⟨b, c, show (if 1000000 = 1000000 then some (⟨some b, c⟩ : Loc) else none) = _ from if_pos rfl, n0, hHeld⟩
    · cases ho
  · obtain ⟨rfl, _⟩ := hhas k b' (.inr ⟨i, c, hk⟩)
    exact ⟨_, rfl, rfl⟩
  · obtain ⟨rfl, hq'⟩ := hhas k q hk
    rcases hyoung q hq' with g | g
    · exact .inl g
    · exact hM.young _ q g
  · have h1 := hM.dom k l hk
    rw [look_ext] at h1
    have h2 : k = 1000000 := by
      split at h1
      · rename_i h2
        by_cases h3 : k = 1000000
        · exact h3
        · rw [show k - 1000000 = (k - 1000001) + 1 by omega] at h1
          simp at h1
      · cases h1
    subst h2
    show (if 1000000 = 1000000 then some ⟨some b, c⟩ else none) = some l
    rw [if_pos rfl, ← hk, hmb]
  · obtain ⟨rfl, hq'⟩ := hhas k q (.inr ⟨i, c', hk⟩)
    exact hyoung q hq'
theorem Meets.hide {f t : Nat} {args : List PV} {cells : List PV} {ext : List MObj} {Q : Res → Prop} (hc : ∀ p ∈ cells, p.keys1 = []) (h : Meets P f args (.sys (holdH [.box t cells]) :: ext) Q) : Meets P f args (.box t cells :: ext) Q := by
  refine ⟨h.1, fun w S m T vs hv hM => ?_⟩
  obtain ⟨b, c, arr, h1, h2, h3, h4⟩ := hM.objs 1000000 (.box t cells) rfl
  have hns := hM.noSub (k := 1000000) (o := .box t cells) rfl rfl
  let n0 : Map := ⟨fun k => if k = 1000000 then some ⟨some b, c⟩ else none, fun _ _ _ => none⟩
  have hn : ∀ k q, n0.has k q → k = 1000000 ∧ q = b := fun k q hk => by
    rcases hk with ⟨c', hk⟩ | ⟨i, c', hk⟩
    · have hk : (if k = 1000000 then some ⟨some b, c⟩ else none) = some (⟨some q, c'⟩ : Loc) := hk
      split at hk
      · rename_i h1; cases hk; exact ⟨h1, rfl⟩
      · cases hk
    · cases hk
  have hheld : Held [.box t cells] b (m.sub 1000000) w S n0 := by
    refine { none := fun _ _ _ => rfl, head := ⟨c, show (if 1000000 = 1000000 then some (⟨some b, c⟩ : Loc) else none) = _ from if_pos rfl⟩, rest := fun i c' => ?_, dom := fun k l hk => ?_, objs := fun i o ho => ?_, parts := fun k k' q hk hk' => (hn k q hk).1.trans (hn k' q hk').1.symm }
    · rw [hns]
      have : n0 (1000001 + i) = none := if_neg (by omega)
      rw [this]
      split <;> rfl
    · have hk : (if k = 1000000 then some ⟨some b, c⟩ else none) = some l := hk
      split at hk
      · rename_i e; subst e; simp
      · cases hk
    · cases i with
      | zero =>
        cases ho
        exact ⟨b, c, arr, show (if 1000000 = 1000000 then some (⟨some b, c⟩ : Loc) else none) = _ from if_pos rfl, h2, h3.imp fun _ p hp hr => Rep1.keep (fun _ _ hs => hs) (fun _ _ _ => rfl) (fun k hk => by rw [hc p hp] at hk; cases hk) hr, h4⟩
      | succ i => simp at ho
  have hlk : ∀ k o, look k (extMem 1000000 (MObj.sys (holdH [.box t cells]) :: ext)) = some o → (k = 1000000 ∧ o = .sys (holdH [.box t cells])) ∨ (k ≠ 1000000 ∧ look k (extMem 1000000 (MObj.box t cells :: ext)) = some o) := fun k o ho => by
    rcases look_cons ho with ⟨e1, e2⟩ | ⟨e1, e2⟩
    · exact .inl ⟨e1, e2.symm⟩
    · refine .inr ⟨e1, ?_⟩
      show (if k = 1000000 then some _ else look k (extMem 1000001 ext)) = _
      rw [if_neg e1]; exact e2
  have hlk2 : ∀ k, (look k (extMem 1000000 (MObj.box t cells :: ext))).isSome = true → (look k (extMem 1000000 (MObj.sys (holdH [.box t cells]) :: ext))).isSome = true := fun k hk => by
    show (if k = 1000000 then some _ else look k (extMem 1000001 ext)).isSome = true
    have hk : (if k = 1000000 then some (MObj.box t cells) else look k (extMem 1000001 ext)).isSome = true := hk
    split at hk
    · rename_i e; rw [if_pos e]; rfl
    · rename_i e; rw [if_neg e]; exact hk
  have hobjs : ∀ k o, look k (extMem 1000000 (MObj.sys (holdH [.box t cells]) :: ext)) = some o → ObjOk m w S k o := fun k o ho => by
    rcases hlk k o ho with ⟨rfl, rfl⟩ | ⟨_, e⟩
    · exact ⟨b, c, h1, n0, hheld⟩
    · exact hM.objs k o e
  have hsubs : ∀ k i c b, m.sub k i c = some b → ∃ o, look k (extMem 1000000 (MObj.sys (holdH [.box t cells]) :: ext)) = some o ∧ isNest o = true := fun k i c' q hk => by
    obtain ⟨o, g1, g2⟩ := hM.subs k i c' q hk
    have hne : k ≠ 1000000 := fun e => by rw [e, hns] at hk; cases hk
    refine ⟨o, ?_, g2⟩
    show (if k = 1000000 then some _ else look k (extMem 1000001 ext)) = _
    have g1 : (if k = 1000000 then some (MObj.box t cells) else look k (extMem 1000001 ext)) = some o := g1
    rw [if_neg hne] at g1 ⊢
    exact g1
  exact h.2 w S m T vs hv { hM with dom := fun k l hk => hlk2 k (hM.dom k l hk), ext := fun k l q1 q2 hk => .inl hk, objs := hobjs, subs := hsubs }
end
end Go.Proofs.YtplooifpgmlofaaGreat
