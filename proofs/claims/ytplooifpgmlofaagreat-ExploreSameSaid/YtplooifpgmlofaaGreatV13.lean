/- What is to be shown of code, and of a function; and that it is enough. No condition. -/
import Derived.Test.YtplooifpgmlofaaGreatV12n
namespace Go.Proofs.YtplooifpgmlofaaGreat
open Go.RowKit

def Le0 : PV → PV → Prop
  | .d (.v (.slice none 0 0)), .d (.sl sz xs) => 0 < sz ∧ xs = []
  | _, .any => True
  | p, q => p = q
def Le2 : PV → PV → Prop
  | .agg cs, .agg ds => All2 Le0 cs ds
  | p, q => Le0 p q
def Le : PV → PV → Prop
  | .tup cs, .tup ds => All2 Le2 cs ds
  | p, q => Le2 p q
def LeF : Option (Nat × List PV) → Option (Nat × List PV) → Prop
  | some (i, cs), some (j, ds) => i = j ∧ All2 Le0 cs ds
  | none, none => True
  | _, _ => False
def LeO : MObj → MObj → Prop
  | .box t cs, .box t' ds => t = t' ∧ All2 Le0 cs ds
  | .row t sz xs l, .grown t' sz' xs' => l = false ∧ t = t' ∧ sz = sz' ∧ xs = xs'
  | .nest t sz xs pr cs foc, .nest t' sz' xs' pr' cs' foc' => t = t' ∧ sz = sz' ∧ xs = xs' ∧ (∀ a, pr a = pr' a) ∧ cs = cs' ∧ LeF foc foc'
  | o, o' => o = o'
section
variable {m : Map} {w : World} {S : Cells}
theorem nil_data {v : Value} {sz : Nat} (h : RepD w S v (.v (.slice none 0 0))) (h0 : 0 < sz) : RepD w S v (.sl sz []) := by
  cases h
  exact RepD.sl none 0 0 sz [] (fun _ _ => .bool false) rfl (Nat.le_refl _) (Nat.zero_le _) (fun _ => rfl) h0 (fun x hx => by cases hx) (fun h => by simp at h) (fun i j hi => by simp at hi) (fun i x j p hx => by simp at hx)
theorem le0_cases {p q : PV} (h : Le0 p q) : p = q ∨ q = .any ∨ (p = .d (.v (.slice none 0 0)) ∧ ∃ sz, 0 < sz ∧ q = .d (.sl sz [])) := by
  unfold Le0 at h
  split at h
  · rename_i sz xs
    obtain ⟨h0, rfl⟩ := h
    exact .inr (.inr ⟨rfl, sz, h0, rfl⟩)
  · exact .inr (.inl rfl)
  · exact .inl h
theorem Rep1.le {v : Value} {p q : PV} (h : Rep1 m w S v p) (hl : Le0 p q) : Rep1 m w S v q := by
  rcases le0_cases hl with rfl | rfl | ⟨rfl, sz, h0, rfl⟩
  · exact h
  · trivial
  · exact nil_data h h0
theorem Rep2.le {v : Value} {p q : PV} (h : Rep2 m w S v p) (hl : Le2 p q) : Rep2 m w S v q := by
  have go : Le0 p q → Rep2 m w S v q := fun hl => by
    rcases le0_cases hl with rfl | rfl | ⟨rfl, sz, h0, rfl⟩
    · exact h
    · trivial
    · exact nil_data h h0
  unfold Le2 at hl
  split at hl
  · rename_i cs ds
    obtain ⟨vs, rfl, ha⟩ := h
    refine ⟨vs, rfl, ?_⟩
    clear go
    induction vs generalizing cs ds with
    | nil => cases cs with
      | nil => cases ds with
        | nil => trivial
        | cons _ _ => exact hl.elim
      | cons _ _ => exact ha.elim
    | cons v vs ih => cases cs with
      | nil => exact ha.elim
      | cons c cs => cases ds with
        | nil => exact hl.elim
        | cons d ds => exact ⟨ha.1.le hl.1, ih _ _ hl.2 ha.2⟩
  · exact go hl
theorem all2_le {vs : List Value} {cs ds : List PV} (ha : All2 (Rep2 m w S) vs cs) (hl : All2 Le2 cs ds) : All2 (Rep2 m w S) vs ds := by
  induction vs generalizing cs ds with
  | nil => cases cs with
    | nil => cases ds with
      | nil => trivial
      | cons _ _ => exact hl.elim
    | cons _ _ => exact ha.elim
  | cons v vs ih => cases cs with
    | nil => exact ha.elim
    | cons c cs => cases ds with
      | nil => exact hl.elim
      | cons d ds => exact ⟨ha.1.le hl.1, ih ha.2 hl.2⟩
theorem all1_le {vs : List Value} {cs ds : List PV} (ha : All2 (Rep1 m w S) vs cs) (hl : All2 Le0 cs ds) : All2 (Rep1 m w S) vs ds := by
  induction vs generalizing cs ds with
  | nil => cases cs with
    | nil => cases ds with
      | nil => trivial
      | cons _ _ => exact hl.elim
    | cons _ _ => exact ha.elim
  | cons v vs ih => cases cs with
    | nil => exact ha.elim
    | cons c cs => cases ds with
      | nil => exact hl.elim
      | cons d ds => exact ⟨ha.1.le hl.1, ih ha.2 hl.2⟩
theorem Rep.le {v : Value} {p q : PV} (h : Rep m w S v p) (hl : Le p q) : Rep m w S v q := by
  have go : Le2 p q → Rep m w S v q := fun hl => by
    have via : Rep2 m w S v p → Rep m w S v q := fun h2 => Rep.of2 (h2.le hl)
    cases p with
    | tup cs =>
      have hl : Le0 (.tup cs) q := hl
      rcases le0_cases hl with rfl | rfl | ⟨h1, _⟩
      · exact h
      · trivial
      · cases h1
    | agg cs => exact via h
    | d x => exact via h
    | rw k n => exact via h
    | ptr k o => exact via h
    | rp k s i o => exact via h
    | rs k s o n fl => exact via h
    | ep r o => exact via h
    | mp k => exact via h
    | ifc t k => exact via h
    | fd sz xs => exact via h
    | clo f cs => exact via h
    | any => exact via h
  unfold Le at hl
  split at hl
  · obtain ⟨vs, rfl, ha⟩ := h
    exact ⟨vs, rfl, all2_le ha hl⟩
  · exact go hl
theorem All2.get' {α β : Type} {R : α → β → Prop} : ∀ {as : List α} {bs : List β} {i : Nat} {a : α}, All2 R as bs → as[i]? = some a → ∃ b, bs[i]? = some b ∧ R a b
  | a :: _, b :: _, 0, _, ⟨h1, _⟩, hb => by simp at hb; subst hb; exact ⟨b, rfl, h1⟩
  | _ :: _, _ :: _, _ + 1, _, ⟨_, h2⟩, hb => by simpa using h2.get' (by simpa using hb)
  | [], [], _, _, _, hb => by simp at hb
  | [], _ :: _, _, _, h, _ => h.elim
  | _ :: _, [], _, _, h, _ => h.elim
theorem leO_nest {o o' : MObj} (hl : LeO o o') (hn : isNest o = true) : isNest o' = true := by
  cases o with
  | nest t sz xs pr cs foc =>
    cases o' with
    | nest => rfl
    | _ => have hl : MObj.nest t sz xs pr cs foc = _ := hl
           cases hl
  | sys H =>
    have hl : MObj.sys H = o' := by cases o' <;> exact hl
    rw [← hl]; rfl
  | _ => cases hn
theorem ObjOk.le {k : Nat} {o o' : MObj} (h : ObjOk m w S k o) (hl : LeO o o') : ObjOk m w S k o' := by
  unfold LeO at hl
  split at hl
  · obtain ⟨rfl, ha⟩ := hl
    obtain ⟨b, c, arr, h1, h2, h3, h4⟩ := h
    exact ⟨b, c, arr, h1, h2, all1_le h3 ha, h4⟩
  · obtain ⟨rfl, rfl, rfl, rfl⟩ := hl; exact h
  · obtain ⟨rfl, rfl, rfl, hp, rfl, hf⟩ := hl
    obtain rfl := funext hp
    obtain ⟨h0, h1, l, h2, h3⟩ := h
    refine ⟨h0, h1, l, h2, h3.keep (fun _ _ hs => hs) (fun _ _ _ => rfl) rfl (fun _ _ => ⟨rfl, fun _ hs => hs⟩) (fun _ _ _ _ => ⟨rfl, fun _ hs => hs⟩) fun i => ?_⟩
    unfold LeF at hf
    split at hf
    · rename_i i' cs' j' ds
      obtain ⟨rfl, ha⟩ := hf
      by_cases hi : i = i'
      · subst hi
        rw [focAt_self, focAt_self]
        refine ⟨ds, rfl, ha.len.symm, fun c q u h4 h5 => ?_⟩
        obtain ⟨q', h6, h7⟩ := ha.get' h4
        exact ⟨q', h6, h5.le h7⟩
      · rw [focAt_ne hi, focAt_ne hi]
    · rfl
    · exact hf.elim
  · subst hl; exact h
end
inductive Prep where
  | row (i e sz : Nat)
  | data (i sz : Nat)
  | leak (k : Nat)
  | view (i : Nat)
  | cell (k i j e sz : Nat)
  | seen (k i : Nat)
  | mark (k : Nat)
  | trim (k n : Nat)
  | nest (k : Nat) (cs : List (Nat × Nat))
  | focus (k j : Nat) (fs : List (Nat × Nat))
  | shut (k : Nat)
  | close (k : Nat)
  | seenN (k i : Nat)
  | unnest (k : Nat)
  | soft (k c sz : Nat)
  | cellN (k i j e sz : Nat)
  | part (k i : Nat)
  | room (k j : Nat)
  | rename (k j : Nat)
  | only (is ks : List Nat)
@[simp] def softD (sz : Nat) : D → D
  | .v (.slice none 0 0) => .sl sz []
  | d => d
@[simp] def softR : Nat → Nat → List D → List D
  | _, _, [] => []
  | 0, sz, d :: r => softD sz d :: r
  | c + 1, sz, d :: r => d :: softR c sz r
def swapK (k j : Nat) : Nat → Nat := fun i => if i = k then j else i
def renS (f : Nat → Nat) : Slots → Slots
  | [] => []
  | (i, p) :: r => (i, p.ren f) :: renS f r
def renM (f : Nat → Nat) : Mem → Mem
  | [] => []
  | (i, o) :: r => (f i, o.ren f) :: renM f r
@[simp] def pickS : List Nat → Slots → Slots
  | [], _ => []
  | i :: r, l => match look i l with
    | some p => (i, p) :: pickS r l
    | none => pickS r l
@[simp] def pickM : List Nat → Mem → Mem
  | [], _ => []
  | i :: r, l => match look i l with
    | some p => (i, p) :: pickM r l
    | none => pickM r l
def keysIn (σ : Sta) : Bool := σ.slots.all (fun e => e.2.keys.all fun k => (look k σ.mem).isSome) && σ.mem.all (fun e => e.2.keys.all fun k => (look k σ.mem).isSome)
def marksIn (σ σ' : Sta) : Bool := σ.mem.all fun e => decide (e.1 < 4000000) || (look e.1 σ'.mem).isSome
def Prep.run (σ : Sta) : Prep → Option Sta
  | .row i e sz => match look i σ.slots, look i σ.mem with
    | some (.d (.v (.slice none 0 0))), none => if 0 < sz ∧ σ.has (some i) = true then some ⟨σ.n, (i, .rw i 0) :: σ.slots, (i, .row e sz [] false) :: σ.mem⟩ else none
    | _, _ => none
  | .data i sz => match look i σ.slots with
    | some (.d (.v (.slice none 0 0))) => if 0 < sz ∧ σ.has (some i) = true then some ⟨σ.n, (i, .d (.sl sz [])) :: σ.slots, σ.mem⟩ else none
    | _ => none
  | .leak k => match look k σ.mem with
    | some (.row t sz xs _) => if k < 1000000 then some ⟨σ.n, σ.slots, (k, .row t sz xs true) :: σ.mem⟩ else none
    | _ => none
  | .view i => match look i σ.slots with
    | some (.rw k n) => match look k σ.mem with
      | some (.row t sz xs _) => if k < 1000000 ∧ σ.has (some i) = true ∧ n ≤ xs.length then some ⟨σ.n, (i, .d (.sl sz (xs.take n))) :: σ.slots, (k, .row t sz xs true) :: σ.mem⟩ else none
      | _ => none
    | _ => none
  | .cell k i j e sz => match look k σ.mem, look j σ.mem with
    | some (.box t cells), none => match cells[i]? with
      | some (.d (.v (.slice none 0 0))) => if 0 < sz ∧ j < 1000000 then some ⟨σ.n, σ.slots, (k, .box t (cells.set i (.rw j 0))) :: (j, .row e sz [] false) :: σ.mem⟩ else none
      | _ => none
    | _, _ => none
  | .seen k i => match look k σ.mem with
    | some (.box t cells) => match cells[i]? with
      | some (.rw j n) => match look j σ.mem with
        | some (.row e sz xs _) => if j < 1000000 ∧ j ≠ k ∧ n ≤ xs.length then some ⟨σ.n, σ.slots, (k, .box t (cells.set i (.d (.sl sz (xs.take n))))) :: (j, .row e sz xs true) :: σ.mem⟩ else none
        | _ => none
      | _ => none
    | _ => none
  | .mark k => some ⟨σ.n, σ.slots, markM k σ.mem⟩
  | .trim k n => match look k σ.mem with
    | some (.row t sz xs false) => if n ≤ xs.length then some ⟨σ.n, σ.slots, (k, .row t sz (xs.take n) false) :: σ.mem⟩ else none
    | _ => none
  | .nest k cs => match look k σ.mem with
    | some (.row t sz xs false) => some ⟨σ.n, σ.slots, (k, .nest t sz xs (fun _ => false) cs none) :: σ.mem⟩
    | _ => none
  | .focus k j fs => match look k σ.mem, look j σ.slots with
    | some (.nest t sz xs pr cs none), some (.d (.v (.int _ n))) => if k < 1000000 ∧ n.toNat < xs.length then (bif pr n.toNat then (match focC cs fs 0 (xs.getD n.toNat []) with
        | some ps => if keysFree σ.mem fs = true then some ⟨σ.n, σ.slots, (k, .nest t sz xs pr cs (some (n.toNat, ps))) :: (focM cs fs 0 (xs.getD n.toNat []) ++ σ.mem)⟩ else none
        | none => none) else some ⟨σ.n, σ.slots, (k, .nest t sz xs pr cs (some (n.toNat, (xs.getD n.toNat []).map .d))) :: σ.mem⟩) else none
    | _, _ => none
  | .shut k => match look k σ.mem with
    | some (.nest t sz xs pr cs (some (j, ps))) => match shutC cs σ.mem 0 ps with
      | some l => if k < 1000000 ∧ nodupB (l.2.map (·.2)) = true then some ⟨σ.n, eraseSs (l.2.map (·.2)) σ.slots, (k, .nest t sz (xs.set j l.1) (fun a => pr a || decide (a = j)) cs none) :: (deadM (l.2.map (·.2)) ++ eraseMs (l.2.map (·.2)) σ.mem)⟩ else none
      | none => none
    | _ => none
  | .close k => match look k σ.mem with
    | some (.nest t sz xs pr cs (some (j, ps))) => match unD ps with
      | some ds => some ⟨σ.n, σ.slots, (k, .nest t sz (xs.set j ds) (fun a => pr a && !decide (a = j)) cs none) :: σ.mem⟩
      | none => none
    | _ => none
  | .seenN k i => match look k σ.mem with
    | some (.nest t sz xs pr cs (some (j, ps))) => match ps[i]? with
      | some (.rw q n) => match look q σ.mem with
        | some (.row e esz rows _) => if q < 1000000 ∧ n ≤ rows.length then some ⟨σ.n, σ.slots, (k, .nest t sz xs pr cs (some (j, ps.set i (.d (.sl esz (rows.take n)))))) :: (q, .row e esz rows true) :: σ.mem⟩ else none
        | _ => none
      | _ => none
    | _ => none
  | .unnest k => match look k σ.mem with
    | some (.nest t sz xs _ _ none) => if k < 1000000 then some ⟨σ.n, σ.slots, (k, .row t sz xs true) :: σ.mem⟩ else none
    | _ => none
  | .soft k c s => match look k σ.mem with
    | some (.row t sz xs lk) => if 0 < s then some ⟨σ.n, σ.slots, (k, .row t sz (xs.map (softR c s)) lk) :: σ.mem⟩ else none
    | _ => none
  | .cellN k i j e s => match look k σ.mem, look j σ.mem with
    | some (.nest t sz xs pr cs (some (q, ps))), none => match ps[i]? with
      | some (.d (.v (.slice none 0 0))) => if 0 < s ∧ j < 1000000 then some ⟨σ.n, σ.slots, (k, .nest t sz xs pr cs (some (q, ps.set i (.rw j 0)))) :: (j, .row e s [] false) :: σ.mem⟩ else none
      | _ => none
    | _, _ => none
  | .part k i => match look k σ.mem with
    | some (.box t cells) => match cells[i]? with
      | some (.rw j n) => match look j σ.mem with
        | some (.row _ sz _ _) => some ⟨σ.n, σ.slots, (k, .box t (cells.set i (.rs j sz 0 n 0))) :: σ.mem⟩
        | _ => none
      | some (.rs j sz off n _) => some ⟨σ.n, σ.slots, (k, .box t (cells.set i (.rs j sz off n 0))) :: σ.mem⟩
      | _ => none
    | _ => none
  | .room _ _ => none
  | .rename k j => match look k σ.mem, look j σ.mem with
    | some (.row ..), none => if k < 1000000 ∧ j < 1000000 ∧ k ≠ j then some ⟨σ.n, renS (swapK k j) σ.slots, renM (swapK k j) σ.mem⟩ else none
    | _, _ => none
  | .only is ks => if keysIn ⟨σ.n, pickS is σ.slots, pickM ks σ.mem⟩ = true ∧ marksIn σ ⟨σ.n, pickS is σ.slots, pickM ks σ.mem⟩ = true then some ⟨σ.n, pickS is σ.slots, pickM ks σ.mem⟩ else none
def roomOf (σ : Sta) (k j : Nat) : Option (Sta × Sta) := match look k σ.mem, look j σ.slots with
  | some (.box t cells), some (.d (.v (.int _ i))) => match cells[i.toNat]? with
    | some (.rs q sz off n _) => some (⟨σ.n, σ.slots, (k, .box t (cells.set i.toNat (.rs q sz off n 1))) :: σ.mem⟩, ⟨σ.n, σ.slots, (k, .box t (cells.set i.toNat (.rs q sz off n 2))) :: σ.mem⟩)
    | _ => none
  | _, _ => none
def Prep.all (σ : Sta) : List Prep → Option Sta
  | [] => some σ
  | p :: r => match p.run σ with
    | some σ' => Prep.all σ' r
    | none => none
def slotsIn (σ : Sta) : Slots → Prop
  | [] => True
  | (i, p) :: r => (match look i σ.slots with | some q => Le q p | none => False) ∧ slotsIn σ r
def memIn (σ : Sta) : Mem → Prop
  | [] => True
  | (k, o) :: r => (match look k σ.mem with | some q => LeO q o | none => False) ∧ memIn σ r
def Weak (σ σ' : Sta) : Prop := σ'.n = σ.n ∧ slotsIn σ σ'.slots ∧ memIn σ σ'.mem ∧ keysIn σ' = true ∧ (σ.mem.all fun e => decide (e.1 < 4000000) || (look e.1 σ'.mem).isSome) = true
def Later (σ σ' : Sta) : Prop := ∃ pr σ1, Prep.all σ pr = some σ1 ∧ Weak σ1 σ'

section
variable (P : Program) (tb : Tab)
def vcOps (ops : Array Oper) : List Oper → (Sta → Prop) → Sta → Prop
  | [], K, σ => K σ
  | o :: r, K, σ => match o.guard with
    | none => vcOp P tb o σ (vcOps ops r K)
    | some (j, want) => match (ops[j]?).bind (·.dst) with
      | some d => match look d σ.slots with
        | some (.d (.v (.bool b))) => (b = want → vcOp P tb o (σ.put (some d) (.b want)) (vcOps ops r K)) ∧ (b = !want → σ.has o.dst = true ∧ vcOps ops r K ((σ.put (some d) (.b !want)).put o.dst idleV))
        | some (.d (.v (.tuple _))) => σ.has o.dst = true ∧ vcOps ops r K (σ.put o.dst idleV)
        | _ => False
      | none => False
end

section
variable {P : Program} {tb : Tab} {B : Base} {m : Map} {S : Cells} {σ σ' : Sta} {a : Act} {w : World}
theorem put_self (a : Act) (d : Nat) (v : Value) (h : a.tmps[d]? = some v) : a.put (some d) v = a := by
  obtain ⟨t, f⟩ := a
  simp only [Act.put]
  congr 1
  have hlt := (Array.getElem?_eq_some_iff.1 h).1
  have he : t[d] = v := (Array.getElem?_eq_some_iff.1 h).2
  apply Array.ext
  · simp
  · intro i h1 h2
    rw [Array.getElem_setIfInBounds (by simpa using h1)]
    split
    · rename_i e; subst e; exact he.symm
    · rfl
theorem Sim.say (h : Sim B m S σ a w) {d : Nat} {p q : PV} (hl : look d σ.slots = some p) (hq : ∀ v, Rep m w S v p → Rep m w S v q) : Sim B m S (σ.put (some d) q) a w := by
  obtain ⟨v, h1, h2⟩ := h.slots d p hl
  refine { h.toMemOk with defers := h.defers, size := h.size, frozen := h.frozen, slots := fun i r hr => ?_ }
  rcases look_cons hr with ⟨rfl, rfl⟩ | ⟨_, hr⟩
  · exact ⟨v, h1, hq v h2⟩
  · exact h.slots i r hr

theorem vcOps_ok (hT : TabOk P tb) {ops : Array Oper} {K : Sta → Prop} {Q : Exit → Act → World → Prop} (hK : ∀ m S σ a w, Sim B m S σ a w → K σ → Q .normal a w) : ∀ (l : List Oper) {m : Map} {S : Cells} {σ : Sta} {a : Act} {w : World}, Sim B m S σ a w → vcOps P tb ops l K σ → wpList P ops Q l a w
  | [], m, S, σ, a, w, h, hv => hK _ _ _ _ _ h hv
  | o :: r, m, S, σ, a, w, h, hv => by
    have ih := fun m' S' σ' a' w' (h' : Sim B m' S' σ' a' w') (hv' : vcOps P tb ops r K σ') => vcOps_ok hT hK r h' hv'
    unfold vcOps at hv
    unfold wpList
    split at hv
    · rename_i hg
      rw [if_pos (by simp [Region.wanted, hg])]
      exact .inl (vcOp_ok hT h hv ih)
    · rename_i j want hg
      split at hv
      · rename_i d hd
        split at hv
        · rename_i b hb
          obtain ⟨v, h1, h2⟩ := h.slots d _ hb
          have h2' : RepD w S v (.v (.bool b)) := h2
          cases h2'
          have hy : yielded ops a.tmps j = some b := by simp only [yielded, hd, Option.bind_some, h1]
          by_cases hbw : b = want
          · subst hbw
            rw [if_pos (by simp [Region.wanted, hg, hy])]
            exact .inl (vcOp_ok hT (h.say hb fun _ hr => hr) (hv.1 rfl) ih)
          · have hbn : b = !want := by cases b <;> cases want <;> simp_all
            subst hbn
            rw [if_neg (by simp [Region.wanted, hg, hy])]
            obtain ⟨c1, c2⟩ := hv.2 rfl
            exact ih _ _ _ _ _ ((h.say hb fun _ hr => hr).put (p := idleV) (v := undef) (RepD.v undef) o.dst (by exact c1)) c2
        · rename_i us hb
          obtain ⟨v, h1, h2⟩ := h.slots d _ hb
          have h2' : RepD w S v (.v (.tuple us)) := h2
          cases h2'
          have hy : yielded ops a.tmps j = none := by simp only [yielded, hd, Option.bind_some, h1]
          rw [if_neg (by simp [Region.wanted, hg, hy])]
          exact ih _ _ _ _ _ (h.put (p := idleV) (v := undef) (RepD.v undef) o.dst (by exact hv.1)) hv.2
        · exact hv.elim
      · exact hv.elim

theorem softR_len : ∀ (c s : Nat) (x : List D), (softR c s x).length = x.length
  | 0, _, [] => rfl
  | _ + 1, _, [] => rfl
  | 0, _, _ :: _ => rfl
  | c + 1, s, _ :: r => congrArg (· + 1) (softR_len c s r)
theorem softD_rep {s : Nat} (h0 : 0 < s) {d : D} {u : Value} (h : RepD w S u d) : RepD w S u (softD s d) := by
  unfold softD
  split
  · exact nil_data h h0
  · exact h
theorem softR_rep {s : Nat} (h0 : 0 < s) : ∀ (c : Nat) (x : List D) (us : List Value), All2 (RepD w S) us x → All2 (RepD w S) us (softR c s x)
  | 0, [], _, h => h
  | _ + 1, [], _, h => h
  | 0, _ :: _, [], h => h.elim
  | 0, _ :: _, _ :: _, ⟨h1, h2⟩ => ⟨softD_rep h0 h1, h2⟩
  | _ + 1, _ :: _, [], h => h.elim
  | c + 1, _ :: r, _ :: us, ⟨h1, h2⟩ => ⟨h1, softR_rep h0 c r us h2⟩
theorem All2.split {α β : Type} {R : α → β → Prop} : ∀ {us : List α} (x : List β) {ys : List β}, All2 R us (x ++ ys) → ∃ a b, us = a ++ b ∧ All2 R a x ∧ All2 R b ys
  | us, [], _, h => ⟨[], us, rfl, trivial, h⟩
  | [], _ :: _, _, h => h.elim
  | u :: us, y :: x, ys, ⟨h1, h2⟩ => by
    obtain ⟨a, b, rfl, h3, h4⟩ := All2.split x h2
    exact ⟨u :: a, b, rfl, ⟨h1, h3⟩, h4⟩
theorem soft_flat {s c : Nat} (h0 : 0 < s) : ∀ (xs : List (List D)) (us : List Value), All2 (RepD w S) us xs.flatten → All2 (RepD w S) us (xs.map (softR c s)).flatten
  | [], us, h => h
  | x :: xs, us, h => by
    rw [List.flatten_cons] at h
    obtain ⟨a, b, rfl, h3, h4⟩ := All2.split x h
    rw [List.map_cons, List.flatten_cons]
    exact (softR_rep h0 c x a h3).app (soft_flat h0 xs b h4)
theorem soft_ok (h : Sim B m S σ a w) {k t sz c s : Nat} {xs : List (List D)} {lk : Bool} (hk : look k σ.mem = some (.row t sz xs lk)) (h0 : 0 < s) : Sim B m S { σ with mem := (k, .row t sz (xs.map (softR c s)) lk) :: σ.mem } a w := by
  obtain ⟨h1, h2, l, h3, h4⟩ := h.objs _ _ hk
  refine h.world (h.toMemOk.again hk (.inl rfl) ⟨h1, fun x hx => ?_, l, h3, ?_⟩) (fun _ _ hs => hs) (fun _ _ _ => rfl) fun _ _ hl => hl
  · obtain ⟨y, hy, rfl⟩ := List.mem_map.1 hx
    rw [softR_len]; exact h2 y hy
  · rcases h4 with ⟨h4, rfl⟩ | ⟨b, arr, us, e, g1, g2, g3, g4, g5, g5', g6, g7, g8⟩
    · exact .inl ⟨h4, rfl⟩
    · exact .inr ⟨b, arr, us, e, g1, by rw [List.length_map]; exact g2, g3, g4, soft_flat h0 xs us g5, g5', g6, by rw [List.length_map]; exact g7, by rw [List.length_map]; exact g8⟩
theorem box_at (h : Sim B m S σ a w) {k t i b c : Nat} {cells : List PV} {q : PV} {arr : Array Value} {u : Value} (hk : look k σ.mem = some (.box t cells)) (g1 : m k = some ⟨some b, c⟩) (g2 : w.heap[b]? = some (.cells arr t (0, 0))) (g3 : All2 (Rep1 m w S) arr.toList cells) (g4 : ∀ o, ¬ S b o) (k1 : arr.toList[i]? = some u) (hv : Rep1 m w S u q) :
    Sim B m S ⟨σ.n, σ.slots, (k, .box t (cells.set i q)) :: σ.mem⟩ a w := by
  have k3 := All2.set (i := i) (R := Rep1 m w S) hv g3
  have k4 : arr.toList.set i u = arr.toList := by
    apply List.ext_getElem?
    intro q
    rw [List.getElem?_set]
    split
    · rename_i hq
      subst hq
      rw [if_pos (List.getElem?_eq_some_iff.1 k1).1, k1]
    · rfl
  rw [k4] at k3
  refine { dom := fun q l hq => ?_, objs := fun q o hq => ?_, subs := h.toMemOk.againS hk (.inl rfl), subx := h.toMemOk.againX hk, parts := h.parts, young := h.young, grow := h.grow, sold := h.sold, snew := h.snew, sin := h.sin, scell := h.scell, ext := fun q l h1 h2 h3 => (h.ext q l h1 h2 h3).imp id fun ⟨g1, g2⟩ => ⟨look_more g1, g2⟩, marks := h.marks, defers := h.defers, size := h.size, frozen := h.frozen, slots := h.slots }
  · show (look q ((k, _) :: σ.mem)).isSome = true
    have hd := h.dom q l hq
    unfold look
    split
    · rfl
    · exact hd
  · rcases look_cons hq with ⟨rfl, rfl⟩ | ⟨_, hq⟩
    · exact ⟨b, c, arr, g1, g2, k3, g4⟩
    · exact h.objs q o hq
theorem box_as (h : Sim B m S σ a w) {k t i : Nat} {cells : List PV} {p q : PV} (hk : look k σ.mem = some (.box t cells)) (hi : cells[i]? = some p) (hv : ∀ v, Rep1 m w S v p → Rep1 m w S v q) :
    Sim B m S ⟨σ.n, σ.slots, (k, .box t (cells.set i q)) :: σ.mem⟩ a w := by
  obtain ⟨b, c, arr, g1, g2, g3, g4⟩ := h.objs k _ hk
  obtain ⟨u, k1, k2⟩ := g3.get hi
  exact box_at h hk g1 g2 g3 g4 k1 (hv u k2)
theorem look_renS {f : Nat → Nat} {i : Nat} : ∀ {l : Slots}, look i (renS f l) = (look i l).map (PV.ren f)
  | [] => rfl
  | (j, p) :: r => by
    unfold renS look
    split
    · rfl
    · exact look_renS
theorem look_renM {k j i : Nat} (hkj : k ≠ j) : ∀ {l : Mem}, look j l = none → look i (renM (swapK k j) l) = if i = k then none else (look (if i = j then k else i) l).map (MObj.ren (swapK k j))
  | [], _ => by
    unfold renM look
    split <;> rfl
  | (q, o) :: r, hn => by
    have hq : ¬ j = q ∧ look j r = none := by
      unfold look at hn
      split at hn
      · cases hn
      · rename_i hne; exact ⟨hne, hn⟩
    unfold renM
    have ih := look_renM (i := i) hkj hq.2
    show (if i = swapK k j q then some (o.ren (swapK k j)) else look i (renM (swapK k j) r)) = _
    rw [ih]
    unfold swapK
    show _ = if i = k then none else (if (if i = j then k else i) = q then some o else look (if i = j then k else i) r).map _
    by_cases hqk : q = k
    · subst hqk
      rw [if_pos rfl]
      by_cases hij : i = j
      · subst hij
        rw [if_pos rfl, if_neg (fun e => hkj e.symm), if_pos rfl, if_pos rfl]; rfl
      · rw [if_neg hij, if_neg hij]
        by_cases hik : i = q
        · rw [if_pos hik, if_pos hik]
        · rw [if_neg hik, if_neg hik, if_neg hik]
    · rw [if_neg hqk]
      by_cases hik : i = k
      · subst hik
        rw [if_neg (fun e => hqk e.symm), if_pos rfl, if_pos rfl]
      · rw [if_neg hik, if_neg hik]
        by_cases hij : i = j
        · subst hij
          rw [if_neg hq.1, if_pos rfl, if_neg (fun e => hqk e.symm)]
        · rw [if_neg hij]
          by_cases hiq : i = q
          · rw [if_pos hiq, if_pos hiq]; rfl
          · rw [if_neg hiq, if_neg hiq]
theorem isNest_ren {f : Nat → Nat} {o : MObj} : isNest (o.ren f) = isNest o := by cases o <;> rfl
theorem rename_ok (h : Sim B m S σ a w) {k j t sz : Nat} {xs : List (List D)} {lk : Bool} (hk : look k σ.mem = some (.row t sz xs lk)) (hj : look j σ.mem = none) (hk0 : k < 1000000) (hj0 : j < 1000000) (hkj : k ≠ j) :
    ∃ m', Sim B m' S ⟨σ.n, renS (swapK k j) σ.slots, renM (swapK k j) σ.mem⟩ a w := by
  have hmj : m j = none := by
    cases hm : m j with
    | none => rfl
    | some l => have := h.dom j l hm; rw [hj] at this; cases this
  have hsj : ∀ i c, m.sub j i c = none := fun i c => by
    cases hs : m.sub j i c with
    | none => rfl
    | some b => obtain ⟨o, ho, _⟩ := h.subs j i c b hs; rw [hj] at ho; cases ho
  have hsk : ∀ i c, m.sub k i c = none := h.toMemOk.noSub hk rfl
  let m1 : Map := ⟨fun i => if i = j then m k else if i = k then none else m i, m.sub⟩
  have e1 : ∀ i, m1 i = if i = j then m k else if i = k then none else m i := fun _ => rfl
  have hf : ∀ i l, m i = some l → m1 (swapK k j i) = some l := fun i l hl => by
    rw [e1]
    unfold swapK
    by_cases hik : i = k
    · subst hik; rw [if_pos rfl, if_pos rfl]; exact hl
    · rw [if_neg hik]
      have hij : ¬ i = j := fun e => by rw [e, hmj] at hl; cases hl
      rw [if_neg hij, if_neg hik]; exact hl
  have hback : ∀ {i b}, m1.has i b → i ≠ k ∧ m.has (if i = j then k else i) b := fun {i b} hi => by
    rcases hi with ⟨c, hi⟩ | ⟨q, c, hi⟩
    · rw [e1] at hi
      by_cases hij : i = j
      · rw [if_pos hij] at hi ⊢
        exact ⟨fun e => hkj (e.symm.trans hij), .inl ⟨c, hi⟩⟩
      · rw [if_neg hij] at hi ⊢
        by_cases hik : i = k
        · rw [if_pos hik] at hi; cases hi
        · rw [if_neg hik] at hi; exact ⟨hik, .inl ⟨c, hi⟩⟩
    · have hi : m.sub i q c = some b := hi
      have hij : ¬ i = j := fun e => by rw [e, hsj] at hi; cases hi
      have hik : ¬ i = k := fun e => by rw [e, hsk] at hi; cases hi
      rw [if_neg hij]
      exact ⟨hik, .inr ⟨q, c, hi⟩⟩
  have more : ∀ {i : Nat}, 1000000 ≤ i → (look i (renM (swapK k j) σ.mem)).isSome = (look i σ.mem).isSome := fun {i} hi => by
    rw [look_renM hkj hj, if_neg (by omega), if_neg (by omega), Option.isSome_map]
  refine ⟨m1, { dom := fun i l hi => ?_, objs := fun i o hi => ?_, subs := fun i q c b hi => ?_, subx := fun i h1 h2 q c b hi => h.subx i h1 h2 q c b hi, parts := fun i i' b hi hi' => ?_, young := fun i b hi => ?_, grow := h.grow, sold := h.sold, snew := h.snew, sin := h.sin, scell := h.scell, ext := fun i l h1 h2 hi => ?_, marks := h.marks, defers := h.defers, size := h.size, frozen := h.frozen, slots := fun i p hp => ?_ }⟩
  · rw [e1] at hi
    rw [look_renM hkj hj]
    by_cases hij : i = j
    · subst hij
      rw [if_neg (fun e => hkj e.symm), if_pos rfl, hk]; rfl
    · rw [if_neg hij] at hi ⊢
      by_cases hik : i = k
      · rw [if_pos hik] at hi; cases hi
      · rw [if_neg hik] at hi ⊢
        rw [Option.isSome_map]; exact h.dom i l hi
  · rw [look_renM hkj hj] at hi
    by_cases hik : i = k
    · rw [if_pos hik] at hi; cases hi
    rw [if_neg hik] at hi
    obtain ⟨o', ho', rfl⟩ := Option.map_eq_some_iff.1 hi
    refine ObjOk.ren (fun q _ l hl => hf q l hl) (fun l hl => ?_) ?_ (h.objs _ _ ho')
    · rw [e1]
      by_cases hij : i = j
      · rw [if_pos hij] at hl ⊢; exact hl
      · rw [if_neg hij] at hl ⊢; rw [if_neg hik]; exact hl
    · show m.sub i = m.sub (if i = j then k else i)
      by_cases hij : i = j
      · rw [if_pos hij, hij]
        funext q c
        rw [hsj, hsk]
      · rw [if_neg hij]
  · have hi : m.sub i q c = some b := hi
    obtain ⟨o, ho, hn⟩ := h.subs i q c b hi
    have hij : ¬ i = j := fun e => by rw [e, hsj] at hi; cases hi
    have hik : ¬ i = k := fun e => by rw [e, hsk] at hi; cases hi
    exact ⟨o.ren (swapK k j), by rw [look_renM hkj hj, if_neg hik, if_neg hij, ho]; rfl, by rw [isNest_ren]; exact hn⟩
  · obtain ⟨n1, g1⟩ := hback hi
    obtain ⟨n2, g2⟩ := hback hi'
    have := h.parts _ _ b g1 g2
    by_cases a1 : i = j <;> by_cases a2 : i' = j
    · rw [a1, a2]
    · rw [if_pos a1, if_neg a2] at this; exact absurd this.symm n2
    · rw [if_neg a1, if_pos a2] at this; exact absurd this n1
    · rw [if_neg a1, if_neg a2] at this; exact this
  · obtain ⟨n1, g1⟩ := hback hi
    by_cases a1 : i = j
    · rw [if_pos a1] at g1
      rcases h.young k b g1 with g2 | g2
      · exact .inl g2
      · omega
    · rw [if_neg a1] at g1; exact h.young i b g1
  · rw [e1, if_neg (by omega), if_neg (by omega)] at hi
    exact (h.ext i l h1 h2 hi).imp id fun ⟨g1, g2⟩ => ⟨by rw [more (by omega)]; exact g1, g2⟩
  · rw [look_renS] at hp
    obtain ⟨q, hq, rfl⟩ := Option.map_eq_some_iff.1 hp
    obtain ⟨v, h1, h2⟩ := h.slots i q hq
    exact ⟨v, h1, h2.ren fun i _ l hl => hf i l hl⟩
theorem room_ok (h : Sim B m S σ a w) {k j : Nat} {σ1 σ2 : Sta} (hp : roomOf σ k j = some (σ1, σ2)) : Sim B m S σ1 a w ∨ Sim B m S σ2 a w := by
  unfold roomOf at hp
  split at hp
  · rename_i t cells q i hk hj
    split at hp
    · rename_i q sz off n fl hi
      cases hp
      obtain ⟨b, c, arr, g1, g2, g3, g4⟩ := h.objs k _ hk
      obtain ⟨u, k1, l, k2, k3⟩ := g3.get hi
      rcases k3 with ⟨e1, e2, e3, e4⟩ | ⟨b', ad, cp, e1, e2, e3, e4, e5, e6⟩
      · exact .inl (box_at h hk g1 g2 g3 g4 k1 ⟨l, k2, .inl ⟨e1, e2, e3, by decide⟩⟩)
      · rcases Nat.lt_or_ge n cp with hlt | hge
        · exact .inr (box_at h hk g1 g2 g3 g4 k1 ⟨l, k2, .inr ⟨b', ad, cp, e1, e2, e3, e4, e5, nofun, fun _ => hlt⟩⟩)
        · exact .inl (box_at h hk g1 g2 g3 g4 k1 ⟨l, k2, .inr ⟨b', ad, cp, e1, e2, e3, e4, e5, fun _ => by omega, nofun⟩⟩)
    · cases hp
  · cases hp
theorem weak_ok0 (h : Sim B m S σ a w) (h1 : σ'.n = σ.n) (h2 : ∀ i p, look i σ'.slots = some p → ∃ q, look i σ.slots = some q ∧ ∀ v, Rep m w S v q → Rep m w S v p)
    (h3 : ∀ k o, look k σ'.mem = some o → ∃ q, look k σ.mem = some q ∧ (ObjOk m w S k q → ObjOk m w S k o) ∧ (isNest q = true → isNest o = true)) (h4 : keysIn σ' = true) (h5 : (σ.mem.all fun e => decide (e.1 < 4000000) || (look e.1 σ'.mem).isSome) = true) : ∃ m', Sim B m' S σ' a w := by
  simp only [keysIn, Bool.and_eq_true, List.all_eq_true] at h4
  have hm : ∀ k l, (if (look k σ'.mem).isSome then m k else none) = some l → m k = some l ∧ (look k σ'.mem).isSome = true := fun k l hk => by
    split at hk
    · rename_i hs; exact ⟨hk, hs⟩
    · cases hk
  have hmk : ∀ k, 1000000 ≤ k → (look (k + 3000000) σ.mem).isSome = true → (look (k + 3000000) σ'.mem).isSome = true := fun k hk g1 => by
    obtain ⟨o, ho⟩ := Option.isSome_iff_exists.1 g1
    have := List.all_eq_true.1 h5 _ (look_mem ho)
    simp only [Bool.or_eq_true, decide_eq_true_eq] at this
    rcases this with h6 | h6
    · omega
    · exact h6
  have hh : ∀ k b, (Map.mk (fun k => if (look k σ'.mem).isSome then m k else none) fun k => if (look k σ'.mem).isSome then m.sub k else fun _ _ => none).has k b → m.has k b := fun k b hk => by
    rcases hk with ⟨c, hk⟩ | ⟨i, c, hk⟩
    · exact .inl ⟨c, (hm _ _ hk).1⟩
    · have hk : (if (look k σ'.mem).isSome then m.sub k else fun _ _ => none) i c = some b := hk
      split at hk
      · exact .inr ⟨i, c, hk⟩
      · cases hk
  refine ⟨⟨fun k => if (look k σ'.mem).isSome then m k else none, fun k => if (look k σ'.mem).isSome then m.sub k else fun _ _ => none⟩, { dom := fun k l hk => (hm k l hk).2, objs := fun k o ho => ?_, subs := fun k i c b hk => ?_, subx := fun k hk1 hk2 i c b hk => ?_, parts := fun k k' b hk hk' => h.parts k k' b (hh _ _ hk) (hh _ _ hk'), young := fun k b hk => h.young k b (hh _ _ hk), grow := h.grow, sold := h.sold, snew := h.snew, sin := h.sin, scell := h.scell, ext := fun k l hk1 hk2 hk => (h.ext k l hk1 hk2 (hm _ _ hk).1).imp id fun ⟨g1, g2⟩ => ⟨hmk k hk1 g1, g2⟩, marks := h.marks, defers := h.defers, size := h.size.trans (by rw [h1]), frozen := by rw [h1]; exact h.frozen, slots := fun i p hp => ?_ }⟩
  · obtain ⟨q, hq, hql, _⟩ := h3 k o ho
    refine (hql (h.objs k q hq)).keep (fun _ _ hs => hs) (fun _ _ _ => rfl) (fun j hj l hl => ?_) (fun l hl => ?_) ?_ fun _ _ => ⟨rfl, fun _ hs => hs⟩
    · show (if (look j σ'.mem).isSome then m j else none) = some l
      rw [if_pos (h4.2 _ (look_mem ho) j hj)]; exact hl
    · show (if (look k σ'.mem).isSome then m k else none) = some l
      rw [if_pos (by rw [ho]; rfl)]; exact hl
    · show (if (look k σ'.mem).isSome then m.sub k else fun _ _ => none) = _
      rw [if_pos (by rw [ho]; rfl)]
  · have hk : (if (look k σ'.mem).isSome then m.sub k else fun _ _ => none) i c = some b := hk
    split at hk
    · rename_i hs
      obtain ⟨o, ho⟩ := Option.isSome_iff_exists.1 hs
      obtain ⟨q, hq, _, hqn⟩ := h3 k o ho
      obtain ⟨o1, g1, g2⟩ := h.subs k i c b hk
      rw [hq] at g1; cases g1
      exact ⟨o, ho, hqn g2⟩
    · cases hk
  · have hk : (if (look k σ'.mem).isSome then m.sub k else fun _ _ => none) i c = some b := hk
    split at hk
    · exact h.subx k hk1 hk2 i c b hk
    · cases hk
  · obtain ⟨q, hq, hql⟩ := h2 i p hp
    obtain ⟨v, g1, g2⟩ := h.slots i q hq
    refine ⟨v, g1, (hql v g2).keep (fun _ _ hs => hs) (fun _ _ _ => rfl) fun k hk l hl => ?_⟩
    show (if (look k σ'.mem).isSome then m k else none) = some l
    rw [if_pos (h4.1 _ (look_mem hp) k hk)]; exact hl
theorem pickS_look {l : Slots} : ∀ {is : List Nat} {i : Nat} {p : PV}, look i (pickS is l) = some p → look i l = some p
  | [], _, _, h => by cases h
  | j :: r, i, p, h => by
    unfold pickS at h
    split at h
    · rename_i q hq
      rcases look_cons h with ⟨rfl, rfl⟩ | ⟨_, h⟩
      · exact hq
      · exact pickS_look h
    · exact pickS_look h
theorem pickM_look {l : Mem} : ∀ {is : List Nat} {i : Nat} {p : MObj}, look i (pickM is l) = some p → look i l = some p
  | [], _, _, h => by cases h
  | j :: r, i, p, h => by
    unfold pickM at h
    split at h
    · rename_i q hq
      rcases look_cons h with ⟨rfl, rfl⟩ | ⟨_, h⟩
      · exact hq
      · exact pickM_look h
    · exact pickM_look h
theorem prep_ok (h : Sim B m S σ a w) {p : Prep} (hp : p.run σ = some σ') : ∃ m' S', Sim B m' S' σ' a w := by
  unfold Prep.run at hp
  split at hp
  · rename_i i e sz
    split at hp
    · rename_i h1 h2
      split at hp
      · rename_i hc
        cases hp
        obtain ⟨m', s1, s2, _⟩ := nil_ok (e := e) h (Nat.lt_trans (Sta.has_small hc.2) (by omega)) h2 hc.1
        refine ⟨m', S, ?_⟩
        obtain ⟨v, g1, g2⟩ := s1.slots i _ h1
        have g2' : RepD w S v (.v (.slice none 0 0)) := g2
        cases g2'
        have := s1.put s2 (some i) hc.2
        rw [put_self a i _ g1] at this
        exact this
      · cases hp
    · cases hp
  · rename_i i sz
    split at hp
    · rename_i h1
      split at hp
      · rename_i hc
        cases hp
        refine ⟨m, S, h.say h1 fun v hr => ?_⟩
        have hr : RepD w S v (.v (.slice none 0 0)) := hr
        cases hr
        exact RepD.sl none 0 0 sz [] (fun _ _ => .bool false) rfl (Nat.le_refl _) (Nat.zero_le _) (fun _ => rfl) hc.1 (fun x hx => by cases hx) (fun h => by simp at h) (fun i j hi => by simp at hi) (fun i x j p hx => by simp at hx)
      · cases hp
    · cases hp
  · rename_i k
    split at hp
    · rename_i t sz xs l hk
      split at hp
      · rename_i hc
        cases hp
        obtain ⟨S', g1, _⟩ := leak_ok h hk hc
        exact ⟨m, S', g1⟩
      · cases hp
    · cases hp
  · rename_i i
    split at hp
    · rename_i k n hi
      split at hp
      · rename_i t sz xs l hk
        split at hp
        · rename_i hc
          cases hp
          obtain ⟨S', g1, _⟩ := leak_ok h hk hc.1
          exact ⟨m, S', g1.say hi fun v hr => row_data (t := t) (g1.objs k _ (by simp [look])) hr hc.2.2⟩
        · cases hp
      · cases hp
    · cases hp
  · rename_i k i j e sz
    split at hp
    · rename_i t cells h1 h2
      split at hp
      · rename_i hi
        split at hp
        · rename_i hc
          cases hp
          have hkj : k ≠ j := fun e => by rw [e, h2] at h1; cases h1
          obtain ⟨m', s1, s2, _⟩ := nil_ok (e := e) h hc.2 h2 hc.1
          obtain ⟨b, c, arr, g1, g2, g3, g4⟩ := s1.objs k (.box t cells) (by show look k ((j, _) :: σ.mem) = _; unfold look; rw [if_neg hkj]; exact h1)
          obtain ⟨v, k1, k2⟩ := g3.get hi
          have k2 : RepD w S v (.v (.slice none 0 0)) := k2
          cases k2
          have k3 := All2.set (i := i) (R := Rep1 m' w S) (b := .rw j 0) s2 g3
          have k4 : arr.toList.set i (.slice none 0 0) = arr.toList := by
            apply List.ext_getElem?
            intro q
            rw [List.getElem?_set]
            split
            · rename_i hq
              subst hq
              rw [if_pos (List.getElem?_eq_some_iff.1 k1).1, k1]
            · rfl
          rw [k4] at k3
          refine ⟨m', S, { dom := fun q l hq => ?_, objs := fun q o hq => ?_, subs := s1.toMemOk.againS (show look k ((j, _) :: σ.mem) = _ by unfold look; rw [if_neg hkj]; exact h1) (.inl rfl), subx := s1.toMemOk.againX (show look k ((j, _) :: σ.mem) = _ by unfold look; rw [if_neg hkj]; exact h1), parts := s1.parts, young := s1.young, grow := s1.grow, sold := s1.sold, snew := s1.snew, sin := s1.sin, scell := s1.scell, ext := fun q l h1 h2 h3 => (s1.ext q l h1 h2 h3).imp id fun ⟨g1, g2⟩ => ⟨look_more g1, g2⟩, marks := s1.marks, defers := s1.defers, size := s1.size, frozen := s1.frozen, slots := s1.slots }⟩
          · show (look q ((k, _) :: (j, MObj.row e sz [] false) :: σ.mem)).isSome = true
            have hd := s1.dom q l hq
            unfold look
            split
            · rfl
            · exact hd
          · rcases look_cons hq with ⟨rfl, rfl⟩ | ⟨_, hq⟩
            · exact ⟨b, c, arr, g1, g2, k3, g4⟩
            · exact s1.objs q o hq
        · cases hp
      · cases hp
    · cases hp
  · rename_i k i
    split at hp
    · rename_i t cells h1
      split at hp
      · rename_i j n hi
        split at hp
        · rename_i e sz xs l hj
          split at hp
          · rename_i hc
            cases hp
            obtain ⟨S', s1, s2⟩ := leak_ok h hj hc.1
            obtain ⟨b, c, arr, g1, g2, g3, g4⟩ := s1.objs k (.box t cells) (by show look k ((j, _) :: σ.mem) = _; unfold look; rw [if_neg (fun e => hc.2.1 e.symm)]; exact h1)
            obtain ⟨v, k1, k2⟩ := g3.get hi
            have k3 : Rep1 m w S' v (.d (.sl sz (xs.take n))) := row_data (t := e) (s1.objs j _ (by simp [look])) (Rep.of2 (Rep2.of1 k2)) hc.2.2
            have k4 := All2.set (i := i) (R := Rep1 m w S') k3 g3
            have k5 : arr.toList.set i v = arr.toList := by
              apply List.ext_getElem?
              intro q
              rw [List.getElem?_set]
              split
              · rename_i hq
                subst hq
                rw [if_pos (List.getElem?_eq_some_iff.1 k1).1, k1]
              · rfl
            rw [k5] at k4
            refine ⟨m, S', { dom := fun q l hq => ?_, objs := fun q o hq => ?_, subs := s1.toMemOk.againS (show look k ((j, _) :: σ.mem) = _ by unfold look; rw [if_neg (fun e => hc.2.1 e.symm)]; exact h1) (.inl rfl), subx := s1.toMemOk.againX (show look k ((j, _) :: σ.mem) = _ by unfold look; rw [if_neg (fun e => hc.2.1 e.symm)]; exact h1), parts := s1.parts, young := s1.young, grow := s1.grow, sold := s1.sold, snew := s1.snew, sin := s1.sin, scell := s1.scell, ext := fun q l h1 h2 h3 => (s1.ext q l h1 h2 h3).imp id fun ⟨g1, g2⟩ => ⟨look_more g1, g2⟩, marks := s1.marks, defers := s1.defers, size := s1.size, frozen := s1.frozen, slots := s1.slots }⟩
            · show (look q ((k, _) :: (j, MObj.row e sz xs true) :: σ.mem)).isSome = true
              have hd := s1.dom q l hq
              unfold look
              split
              · rfl
              · exact hd
            · rcases look_cons hq with ⟨rfl, rfl⟩ | ⟨_, hq⟩
              · exact ⟨b, c, arr, g1, g2, k4, g4⟩
              · exact s1.objs q o hq
          · cases hp
        · cases hp
      · cases hp
    · cases hp
  · rename_i k
    cases hp
    obtain ⟨m', h1, _, _⟩ := h.markM k
    exact ⟨m', S, h1⟩
  · rename_i k n
    split at hp
    · rename_i t sz xs hk
      split at hp
      · rename_i hn
        cases hp
        obtain ⟨h0, h1, l, h2, h3⟩ := h.objs _ _ hk
        refine ⟨m, S, h.world (h.toMemOk.again hk (.inl rfl) ⟨h0, fun x hx => h1 x (List.mem_of_mem_take hx), l, h2, ?_⟩) (fun _ _ hs => hs) (fun _ _ _ => rfl) fun _ _ hl => hl⟩
        rcases h3 with ⟨h3, rfl⟩ | ⟨b, arr, us, e, g1, g2, g3, g4, g5, g5', g6, g7, g8⟩
        · exact .inl ⟨h3, by simp⟩
        · refine .inr ⟨b, arr, us.take (n * sz), e, g1, Nat.le_trans (by rw [List.length_take]; omega) g2, g3, g4, ?_, fun u hu => g5' u (List.mem_of_mem_take hu), fun j v hv => ?_, fun o ho => (by have := (g7 o ho).1; cases this), fun h => by cases h⟩
          · rw [flatten_take sz xs h1 n hn]
            exact g5.take _
          · rw [List.getElem?_take] at hv
            split at hv
            · exact g6 j v hv
            · cases hv
      · cases hp
    · cases hp
  · rename_i k cs
    split at hp
    · rename_i t sz xs hk
      cases hp
      exact ⟨m, S, nest_ok h hk⟩
    · cases hp
  · rename_i k j fs
    split at hp
    · rename_i t sz xs pr cs kk n hk hs
      split at hp
      · rename_i hc
        cases hpr : pr n.toNat <;> rw [hpr] at hp <;> dsimp only [cond] at hp
        · cases hp
          exact ⟨m, S, focus0_ok h hk hc.2 hpr⟩
        · split at hp
          · rename_i ps hps
            split at hp
            · rename_i hf
              cases hp
              obtain ⟨m', g⟩ := focus_ok h hk hc.1 hc.2 hpr hps hf
              exact ⟨m', S, g⟩
            · cases hp
          · cases hp
      · cases hp
    · cases hp
  · rename_i k
    split at hp
    · rename_i t sz xs pr cs j ps hk
      split at hp
      · rename_i l hl
        split at hp
        · rename_i hc
          cases hp
          obtain ⟨m', g⟩ := shut_ok (ds := l.1) (ks := l.2) h hk hc.1 hl hc.2
          exact ⟨m', S, g⟩
        · cases hp
      · cases hp
    · cases hp
  · rename_i k
    split at hp
    · rename_i t sz xs pr cs j ps hk
      split at hp
      · rename_i ds hd
        cases hp
        exact ⟨m, S, shut0_ok h hk hd⟩
      · cases hp
    · cases hp
  · rename_i k i
    split at hp
    · rename_i t sz xs pr cs j ps hk
      split at hp
      · rename_i q n hi
        split at hp
        · rename_i e esz rows lk hq
          split at hp
          · rename_i hc
            cases hp
            obtain ⟨S', g⟩ := seenN_ok h hk hi hq hc.1 hc.2
            exact ⟨m, S', g⟩
          · cases hp
        · cases hp
      · cases hp
    · cases hp
  · rename_i k
    split at hp
    · rename_i t sz xs pr cs hk
      split at hp
      · rename_i hc
        cases hp
        exact unnest_ok h hk hc
      · cases hp
    · cases hp
  · rename_i k c s
    split at hp
    · rename_i t sz xs lk hk
      split at hp
      · rename_i hc
        cases hp
        exact ⟨m, S, soft_ok h hk hc⟩
      · cases hp
    · cases hp
  · rename_i k i j e s
    split at hp
    · rename_i t sz xs pr cs q ps hk hj
      split at hp
      · rename_i hi
        split at hp
        · rename_i hc
          cases hp
          obtain ⟨m', g⟩ := cellN_ok (e := e) h hk hi hj hc.2 hc.1
          exact ⟨m', S, g⟩
        · cases hp
      · cases hp
    · cases hp
  · rename_i k i
    split at hp
    · rename_i t cells hk
      split at hp
      · rename_i j n hi
        split at hp
        · rename_i e sz xs l hj
          cases hp
          refine ⟨m, S, box_as h hk hi fun v hv => ?_⟩
          obtain ⟨l, f1, ⟨f2, f3, f4⟩ | ⟨b, f2, f3, f4⟩⟩ := hv
          · exact ⟨l, f1, .inl ⟨f2, f3, f4, by decide⟩⟩
          · exact ⟨l, f1, .inr ⟨b, _, _, f2, f3, ⟨f4, Nat.le_refl _⟩, by omega, fun _ => by simp, nofun, nofun⟩⟩
        · cases hp
      · rename_i j sz off n fl hi
        cases hp
        refine ⟨m, S, box_as h hk hi fun v hv => ?_⟩
        obtain ⟨l, f1, ⟨f2, f3, f4, _⟩ | ⟨b, ad, cp, f2, f3, f4, f5, f6, _⟩⟩ := hv
        · exact ⟨l, f1, .inl ⟨f2, f3, f4, by decide⟩⟩
        · exact ⟨l, f1, .inr ⟨b, ad, cp, f2, f3, f4, f5, f6, nofun, nofun⟩⟩
      · cases hp
    · cases hp
  · cases hp
  · rename_i k j
    split at hp
    · rename_i hk hj
      split at hp
      · rename_i hc
        cases hp
        obtain ⟨m', g⟩ := rename_ok h hk hj hc.1 hc.2.1 hc.2.2
        exact ⟨m', S, g⟩
      · cases hp
    · cases hp
  · rename_i is ks
    split at hp
    · rename_i hc
      cases hp
      obtain ⟨m', g⟩ := weak_ok0 (σ' := ⟨σ.n, pickS is σ.slots, pickM ks σ.mem⟩) h rfl (fun i p hp => ⟨p, pickS_look hp, fun _ hv => hv⟩) (fun k o ho => ⟨o, pickM_look ho, fun x => x, fun x => x⟩) hc.1 hc.2
      exact ⟨m', S, g⟩
    · cases hp
theorem preps_ok : ∀ {pr : List Prep} {m : Map} {S : Cells} {σ : Sta}, Sim B m S σ a w → Prep.all σ pr = some σ' → ∃ m' S', Sim B m' S' σ' a w
  | [], m, S, σ, h, hp => by cases hp; exact ⟨m, S, h⟩
  | p :: r, m, S, σ, h, hp => by
    unfold Prep.all at hp
    split at hp
    · rename_i σ1 h1
      obtain ⟨m1, S1, g⟩ := prep_ok h h1
      exact preps_ok g hp
    · cases hp

theorem slotsIn_look : ∀ {l : Slots}, slotsIn σ l → ∀ i p, look i l = some p → ∃ q, look i σ.slots = some q ∧ Le q p
  | (j, q) :: r, h, i, p, hl => by
    rcases look_cons hl with ⟨rfl, rfl⟩ | ⟨_, hl⟩
    · have h1 := h.1
      split at h1
      · rename_i q' hq; exact ⟨q', hq, h1⟩
      · exact h1.elim
    · exact slotsIn_look h.2 i p hl
theorem memIn_look : ∀ {l : Mem}, memIn σ l → ∀ i p, look i l = some p → ∃ q, look i σ.mem = some q ∧ LeO q p
  | (j, q) :: r, h, i, p, hl => by
    rcases look_cons hl with ⟨rfl, rfl⟩ | ⟨_, hl⟩
    · have h1 := h.1
      split at h1
      · rename_i q' hq; exact ⟨q', hq, h1⟩
      · exact h1.elim
    · exact memIn_look h.2 i p hl
theorem weak_ok (h : Sim B m S σ a w) (hw : Weak σ σ') : ∃ m', Sim B m' S σ' a w := by
  obtain ⟨h1, h2, h3, h4, h5⟩ := hw
  refine weak_ok0 h h1 (fun i p hp => ?_) (fun k o ho => ?_) h4 h5
  · obtain ⟨q, hq, hql⟩ := slotsIn_look h2 i p hp
    exact ⟨q, hq, fun v hv => hv.le hql⟩
  · obtain ⟨q, hq, hql⟩ := memIn_look h3 k o ho
    exact ⟨q, hq, fun ho => ho.le hql, leO_nest hql⟩
theorem later_ok (h : Sim B m S σ a w) (hw : Later σ σ') : ∃ m' S', Sim B m' S' σ' a w := by
  obtain ⟨pr, σ1, h1, h2⟩ := hw
  obtain ⟨m1, S1, g1⟩ := preps_ok h h1
  obtain ⟨m2, g2⟩ := weak_ok g1 h2
  exact ⟨m2, S1, g2⟩
end
end Go.Proofs.YtplooifpgmlofaaGreat
