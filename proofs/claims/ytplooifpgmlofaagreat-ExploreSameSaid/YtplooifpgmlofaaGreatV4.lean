/- More operations that leave the world alone: an element's place, a part of a slice, a struct's making, lengths; and all of them in one. No condition. -/
import Derived.Test.YtplooifpgmlofaaGreatV3
namespace Go.Proofs.YtplooifpgmlofaaGreat
open Go.RowKit

section
variable {P : Program} {tb : Tab} {B : Base} {m : Map} {S : Cells} {σ : Sta} {a : Act} {w : World}

def esz (tb : Tab) (t : Nat) : Option Nat :=
  match (look t tb).map TI.desc with
  | some (TypeDesc.slice e) => (look e tb).map TI.size
  | _ => none
theorem esz_ok (hT : TabOk P tb) {t n : Nat} (h : esz tb t = some n) : ∃ e, P.underlying t = some (.slice e) ∧ ∀ w : World, (sizeOf e).run P w = .ok n w := by
  unfold esz at h
  split at h
  · rename_i e he
    obtain ⟨i, hi, hd⟩ := Option.map_eq_some_iff.1 he
    obtain ⟨j, hj, hn⟩ := Option.map_eq_some_iff.1 h
    have e1 := (hT.get hi).under
    rw [hd] at e1
    exact ⟨e, e1, fun w => by rw [(hT.get hj).sizeOf, hn]⟩
  · cases h

theorem RepD.row_at {sz : Nat} {xs : List (List D)} {i : Nat} {u : Value} (h : RepD w S u (.sl sz xs)) (hi : i < xs.length) : ∃ b o c, u = .slice (some ⟨b, o, none⟩) xs.length c ∧ RowAt w S b (o + i * sz) (xs.getD i []) := by
  cases h with
  | sl A n c sz xs f hn hlen hmax hnil hsz hrow hat hone hrep =>
    subst hn
    obtain ⟨b, o, rfl, hc⟩ := hat (by omega)
    have hx : xs[i]? = some (xs.getD i []) := by rw [List.getD_eq_getElem?_getD, List.getElem?_eq_getElem hi]; rfl
    have hl := hrow _ (List.mem_of_getElem? hx)
    refine ⟨b, o, c, rfl, (List.range sz).map (f i), ?_, fun j v hj => ?_⟩
    · have : ∀ (row : List D) (k : Nat), (∀ j p, row[j]? = some p → RepD w S (f i (k + j)) p) → All2 (RepD w S) ((List.range' k row.length).map (f i)) row := by
        intro row
        induction row with
        | nil => intro _ _; trivial
        | cons r row ih =>
          intro k hk
          refine ⟨by simpa using hk 0 r rfl, ih (k + 1) fun j p hp => ?_⟩
          have := hk (j + 1) p (by simpa using hp)
          rwa [show k + 1 + j = k + (j + 1) from by omega]
      have h2 := this (xs.getD i []) 0 fun j p hp => by rw [Nat.zero_add]; exact hrep i _ j p hx hp
      rw [hl] at h2
      rw [List.range_eq_range']
      exact h2
    · rw [List.getElem?_map] at hj
      simp only [Option.map_eq_some_iff] at hj
      obtain ⟨j', hj', rfl⟩ := hj
      obtain ⟨hlt, rfl⟩ := List.getElem?_eq_some_iff.1 hj'
      rw [List.length_range] at hlt
      rw [List.getElem_range]
      exact hc i j hi hlt

def vIndexAddr (tb : Tab) (_σ : Sta) (t : Nat) (x ix : PV) : Option (Prop × PV) :=
  match ix with
  | .d (.v (.int _ i)) => match x with
    | .d (.sl sz xs) => if esz tb t = some sz then some (0 ≤ i ∧ i < xs.length, .ep (xs.getD i.toNat []) 0) else none
    | .rw k n => match esz tb t with
      | some sz => some (0 ≤ i ∧ i < n, .rp k sz i.toNat 0)
      | none => none
    | .rs k sz' off n _ => match esz tb t with
      | some sz => if sz' = sz then some (0 ≤ i ∧ i < n, .rp k sz (off + i.toNat) 0) else none
      | none => none
    | x => match (look t tb).map TI.desc with
      | some (TypeDesc.array len e) => match look e tb, x.shift 0 with
        | some ei, some _ => (x.shift (i.toNat * ei.size)).map fun p => (0 ≤ i ∧ i < len, p)
        | _, _ => none
      | _ => none
  | _ => none
theorem vIndexAddr_ok (hT : TabOk P tb) {t : Nat} {x ix : PV} {c : Prop} {p : PV} (hv : vIndexAddr tb σ t x ix = some (c, p)) (hc : c) {u v : Value} (hu : Rep m w S u x) (hw : Rep m w S v ix) :
    ∃ r, (Instr.indexAt t u v).run P w = .ok r w ∧ Rep m w S r p := by
  unfold vIndexAddr at hv
  split at hv
  · rename_i k i
    have hw : RepD w S v (.v (.int k i)) := hw
    cases hw
    split at hv
    · rename_i sz xs
      split at hv
      · rename_i he
        cases hv
        obtain ⟨e, h1, h2⟩ := esz_ok hT he
        obtain ⟨b, o, cp, rfl, hr⟩ := RepD.row_at (i := i.toNat) hu (by omega)
        refine ⟨_, ?_, b, o + i.toNat * sz, rfl, hr⟩
        simp only [Instr.indexAt, asIntOf, Sem.run_bind, Sem.run_pure, Result.andThen_ok, run_underlying h1, Bool.and_false, hc, and_self, if_true, h2, Addr.add_lit, Nat.add_zero]
      · cases hv
    · rename_i k' n
      split at hv
      · rename_i sz he
        cases hv
        obtain ⟨e, h1, h2⟩ := esz_ok hT he
        obtain ⟨l', h3, h4⟩ := hu
        rcases h4 with ⟨_, _, h4⟩ | ⟨b, h4, rfl, _⟩
        · subst h4; have : i < 0 := hc.2; omega
        refine ⟨_, ?_, b, l'.cap, by rw [h3]; cases l'; cases h4; rfl, rfl⟩
        simp only [Instr.indexAt, asIntOf, Sem.run_bind, Sem.run_pure, Result.andThen_ok, run_underlying h1, Bool.and_false, hc, and_self, if_true, h2, Addr.add_lit, Nat.add_zero, Nat.zero_add]
      · cases hv
    · rename_i k' sz' off n fl
      split at hv
      · rename_i sz he
        split at hv
        · rename_i hsz
          subst hsz
          cases hv
          obtain ⟨e, h1, h2⟩ := esz_ok hT he
          obtain ⟨l', h3, h4⟩ := hu
          rcases h4 with ⟨_, _, h4, _⟩ | ⟨b, ad, cp, h4, rfl, ⟨h5, _⟩, _, h6, _⟩
          · subst h4; have : i < 0 := hc.2; omega
          obtain rfl := h6 (by omega)
          refine ⟨_, ?_, b, l'.cap, by rw [h3]; cases l'; cases h4; rfl, rfl⟩
          simp only [Instr.indexAt, asIntOf, Sem.run_bind, Sem.run_pure, Result.andThen_ok, run_underlying h1, Bool.and_false, hc, and_self, if_true, h2, Addr.add_lit, Nat.add_zero, Nat.add_mul]
        · cases hv
      · cases hv
    · split at hv
      · rename_i len e hd
        obtain ⟨i0, hi0, hd0⟩ := Option.map_eq_some_iff.1 hd
        have e1 := (hT.get hi0).under
        rw [hd0] at e1
        split at hv
        · rename_i ei q h1 h2
          simp only [Option.map_eq_some_iff] at hv
          obtain ⟨p', hp', he⟩ := hv
          cases he
          obtain ⟨ad, hsp, rfl, hr⟩ := shift_ok hp' hu
          refine ⟨_, ?_, hr⟩
          simp only [Instr.indexAt, asIntOf, Sem.run_bind, Sem.run_pure, Result.andThen_ok, run_underlying e1, Instr.sureAddr, hc, and_self, if_true, (hT.get h1).sizeOf]
        · cases hv
      · cases hv
  · cases hv

def evs (σ : Sta) : List Operand → Option (List PV)
  | [] => some []
  | x :: r => match σ.ev x, evs σ r with
    | some p, some l => some (p :: l)
    | _, _ => none
theorem evs_ok (h : Sim B m S σ a w) : ∀ {xs : List Operand} {l : List PV}, evs σ xs = some l → All2 (Rep m w S) (xs.map a.eval) l
  | [], l, hl => by cases hl; trivial
  | x :: r, l, hl => by
    unfold evs at hl
    split at hl
    · rename_i p l' h1 h2
      cases hl
      exact ⟨ev_ok h h1, evs_ok h h2⟩
    · cases hl

def vBound (σ : Sta) : Option Operand → Option (Option Int)
  | none => some none
  | some x => match σ.ev x with
    | some (.d (.v (.int _ i))) => some (some i)
    | _ => none
theorem vBound_ok (h : Sim B m S σ a w) {o : Option Operand} {r : Option Int} (hb : vBound σ o = some r) : (r = none ∧ o.map a.eval = none) ∨ ∃ i k, r = some i ∧ o.map a.eval = some (.int k i) := by
  unfold vBound at hb
  split at hb
  · cases hb; exact .inl ⟨rfl, rfl⟩
  · rename_i x
    split at hb
    · rename_i k i hx
      cases hb
      exact .inr ⟨i, k, rfl, by simp [ev_v h hx]⟩
    · cases hb
theorem bounds_ok {len cap : Nat} {lo hi mx : Option Int} {lv hv mv : Option Value} (hl : (lo = none ∧ lv = none) ∨ ∃ i k, lo = some i ∧ lv = some (.int k i)) (hh : (hi = none ∧ hv = none) ∨ ∃ i k, hi = some i ∧ hv = some (.int k i))
    (hm : (mx = none ∧ mv = none) ∨ ∃ i k, mx = some i ∧ mv = some (.int k i)) (hnm : mx ≠ none → hi ≠ none) (h1 : 0 ≤ lo.getD 0) (h2 : lo.getD 0 ≤ hi.getD len) (h3 : hi.getD len ≤ mx.getD cap) (h4 : mx.getD cap ≤ cap) :
    (Instr.sliceBounds true len cap lv hv mv).run P w = .ok ((lo.getD 0).toNat, (hi.getD len).toNat, (mx.getD cap).toNat) w := by
  have key : ∀ (k : IntKind) (i : Int) (y : Nat) (code : BoundsCode), 0 ≤ i → i ≤ y → (Instr.sliceBound (.int k i) y code).run P w = .ok i.toNat w := fun k i y code h0 h1 => run_sliceBound w k i y code h0 h1
  rcases hm with ⟨rfl, rfl⟩ | ⟨im, km, rfl, rfl⟩ <;> rcases hh with ⟨rfl, rfl⟩ | ⟨ih, kh, rfl, rfl⟩ <;> rcases hl with ⟨rfl, rfl⟩ | ⟨il, kl, rfl, rfl⟩ <;> simp only [Option.getD_none, Option.getD_some] at h1 h2 h3 h4 ⊢
  all_goals first
    | (exfalso; refine hnm ?_ rfl; intro h; cases h; done)
    | (simp only [Instr.sliceBounds, Sem.run_bind, Sem.run_pure, Result.andThen_ok]
       try rw [key _ _ _ _ (by omega) (by omega)]
       try simp only [Result.andThen_ok]
       try rw [key _ _ _ _ (by omega) (by omega)]
       try simp only [Result.andThen_ok]
       try rw [key _ _ _ _ (by omega) (by omega)]
       simp)
theorem RepD.len {sz : Nat} {xs : List (List D)} {u : Value} (h : RepD w S u (.sl sz xs)) : ∃ A c, u = .slice A xs.length c ∧ xs.length ≤ c ∧ (A = none → c = 0) ∧ c ≤ maxLen := by
  cases h with
  | sl A n c sz xs f hn hlen hmax hnil hsz hrow hat hone hrep => subst hn; exact ⟨A, c, rfl, hlen, hnil, hmax⟩
theorem RepD.cut {sz : Nat} {xs : List (List D)} {A : Option Addr} {n c l h mx : Nat} (hr : RepD w S (.slice A n c) (.sl sz xs)) (h1 : l ≤ h) (h2 : h ≤ xs.length) (h3 : h ≤ mx) (h4 : mx ≤ c) :
    RepD w S (.slice (if mx = l then A else A.map (·.add (l * sz))) (h - l) (mx - l)) (.sl sz ((xs.take h).drop l)) := by
  cases hr with
  | sl A n c sz xs f hn hlen hmax hnil hsz hrow hat hone hrep =>
    subst hn
    have hl : ((xs.take h).drop l).length = h - l := by rw [List.length_drop, List.length_take]; omega
    have hg : ∀ i, i < h - l → ((xs.take h).drop l)[i]? = xs[l + i]? := fun i hi => by rw [List.getElem?_drop, List.getElem?_take, if_pos (by omega)]
    refine .sl _ _ _ sz _ (fun i j => f (l + i) j) hl.symm (by omega) (by omega) (fun hn => ?_) hsz (fun x hx => hrow x (List.mem_of_mem_take (List.mem_of_mem_drop hx))) (fun h0 => ?_) (fun i j hi hj => hone _ _ (by rw [hl] at hi; omega) hj) (fun i x j p hx hp => ?_)
    · split at hn
      · have := hnil hn; omega
      · have := hnil (by simpa using hn); omega
    · rw [hl] at h0
      obtain ⟨b, o, rfl, hc⟩ := hat (by omega)
      refine ⟨b, o + l * sz, ?_, fun i j hi hj => ?_⟩
      · rw [if_neg (by omega)]
        simp only [Option.map_some, Addr.add_lit]
      · rw [hl] at hi
        have := hc (l + i) j (by omega) hj
        rw [show o + l * sz + i * sz + j = o + (l + i) * sz + j from by rw [Nat.add_mul]; omega]
        exact this
    · have hi := (List.getElem?_eq_some_iff.1 hx).1
      rw [hl] at hi
      rw [hg i hi] at hx
      exact hrep _ _ _ _ hx hp

def rlen (mem : Mem) : PV → Nat
  | .rw k _ => match look k mem with
    | some (.row _ _ xs _) => xs.length
    | _ => 0
  | _ => 0
def vSlice (tb : Tab) (t rl : Nat) (x : PV) (lo hi mx : Option Int) : Option (Prop × PV) :=
  match x with
  | .d (.sl sz xs) => if esz tb t = some sz then (if mx ≠ none ∧ hi = none then none else
      some (0 ≤ lo.getD 0 ∧ lo.getD 0 ≤ hi.getD xs.length ∧ hi.getD xs.length ≤ xs.length ∧ (mx = none ∨ (hi.getD xs.length ≤ mx.getD 0 ∧ mx.getD 0 ≤ xs.length)),
        if lo = none ∧ mx = hi ∧ hi ≠ none then .fd sz (xs.take (hi.getD xs.length).toNat) else .d (.sl sz ((xs.take (hi.getD xs.length).toNat).drop (lo.getD 0).toNat)))) else none
  | .rw k n => match esz tb t with
    | some sz => if lo = none ∧ mx = none then some (0 ≤ hi.getD n ∧ (hi.getD n ≤ n ∨ hi.getD n ≤ rl), .rw k (hi.getD n).toNat)
      else if mx ≠ none ∧ hi = none then none
      else some (0 ≤ lo.getD 0 ∧ lo.getD 0 ≤ hi.getD n ∧ (hi.getD n ≤ n ∨ hi.getD n ≤ rl) ∧ (mx = none ∨ (hi.getD n ≤ mx.getD 0 ∧ (mx.getD 0 ≤ n ∨ mx.getD 0 ≤ rl))), .rs k sz (lo.getD 0).toNat ((hi.getD n).toNat - (lo.getD 0).toNat) 0)
    | none => none
  | .rs k sz' off n _ => match esz tb t with
    | some sz => if sz' = sz ∧ mx = none then some (0 ≤ lo.getD 0 ∧ lo.getD 0 ≤ hi.getD n ∧ hi.getD n ≤ n, .rs k sz (off + (lo.getD 0).toNat) ((hi.getD n).toNat - (lo.getD 0).toNat) 0) else none
    | none => none
  | .d (.v (.string s)) => match (look t tb).map TI.desc, lo, hi, mx with
    | some TypeDesc.string, none, some h, none => some (0 ≤ h ∧ h ≤ s.size, .d (.v (.string (s.extract 0 h.toNat))))
    | _, _, _, _ => none
  | _ => none
theorem vSlice_ok (hT : TabOk P tb) {t rl : Nat} {x : PV} {lo hi mx : Option Int} {c : Prop} {p : PV} (hv : vSlice tb t rl x lo hi mx = some (c, p)) (hrl : ∀ k n l, x = .rw k n → m k = some l → (l.blk = none → rl = 0) ∧ (∀ b, l.blk = some b → rl ≤ l.cap)) (hc : c) {u : Value} {lv hv' mv : Option Value} (hu : Rep m w S u x)
    (hl : (lo = none ∧ lv = none) ∨ ∃ i k, lo = some i ∧ lv = some (.int k i)) (hh : (hi = none ∧ hv' = none) ∨ ∃ i k, hi = some i ∧ hv' = some (.int k i)) (hm : (mx = none ∧ mv = none) ∨ ∃ i k, mx = some i ∧ mv = some (.int k i)) :
    ∃ r, (Instr.sliceAt t u lv hv' mv).run P w = .ok r w ∧ Rep m w S r p := by
  unfold vSlice at hv
  split at hv
  · rename_i sz xs
    split at hv
    · rename_i he
      split at hv
      · cases hv
      rename_i hnm
      cases hv
      obtain ⟨e, h1, h2⟩ := esz_ok hT he
      obtain ⟨A, cp, rfl, g1, g2, g3⟩ := RepD.len hu
      obtain ⟨c1, c2, c3, c4⟩ := hc
      have hb := bounds_ok (P := P) (w := w) (len := xs.length) (cap := cp) hl hh hm (fun hne hh0 => hnm ⟨hne, hh0⟩) c1 c2 (by rcases c4 with rfl | c4; simp only [Option.getD_none]; omega; cases mx <;> simp_all <;> omega) (by rcases c4 with rfl | c4; simp only [Option.getD_none]; omega; cases mx <;> simp_all <;> omega)
      have hcut := RepD.cut hu (l := (lo.getD 0).toNat) (h := (hi.getD xs.length).toNat) (mx := (mx.getD cp).toNat) (by omega) (by omega) (by rcases c4 with rfl | c4; simp only [Option.getD_none]; omega; cases mx <;> simp_all <;> omega) (by rcases c4 with rfl | c4; simp only [Option.getD_none]; omega; cases mx <;> simp_all <;> omega)
      refine ⟨.slice (if (mx.getD ↑cp).toNat = (lo.getD 0).toNat then A else Option.map (fun x => x.add ((lo.getD 0).toNat * sz)) A) ((hi.getD ↑xs.length).toNat - (lo.getD 0).toNat) ((mx.getD ↑cp).toNat - (lo.getD 0).toNat), by simp only [Instr.sliceAt, Sem.run_bind, run_underlying h1, Result.andThen_ok, Instr.slice, hb, h2, Sem.run_pure], ?_⟩
      by_cases hf : lo = none ∧ mx = hi ∧ hi ≠ none
      · rw [if_pos hf]
        obtain ⟨rfl, rfl, hne⟩ := hf
        obtain ⟨q, rfl⟩ := Option.ne_none_iff_exists'.1 hne
        exact ⟨hcut, _, _, rfl⟩
      · rw [if_neg hf]
        exact hcut
    · cases hv
  · rename_i k n
    obtain ⟨l, g1, g2⟩ := hu
    obtain ⟨r1, r2⟩ := hrl k n l rfl g1
    split at hv
    · rename_i sz he
      obtain ⟨e, h1, h2⟩ := esz_ok hT he
      split at hv
      · rename_i hnn
        obtain ⟨rfl, rfl⟩ := hnn
        cases hv
        obtain ⟨c2, c3⟩ := hc
        rcases g2 with ⟨g2, rfl, rfl⟩ | ⟨b, g2, rfl, g3⟩
        · have hz := r1 g2
          have c2 : 0 ≤ hi.getD 0 := by simpa using c2
          have c3 : hi.getD 0 ≤ 0 := by simpa [hz] using c3
          have hb := bounds_ok (P := P) (w := w) (len := 0) (cap := 0) hl hh hm (by simp) (by simp) (by simpa using c2) (by simpa using c3) (by simp)
          have c4 : hi.getD 0 = 0 := by omega
          refine ⟨_, ?_, l, g1, .inl ⟨g2, rfl, by simp [c4]⟩⟩
          simp only [Instr.sliceAt, Sem.run_bind, run_underlying h1, Result.andThen_ok, Instr.slice, hb, h2, Sem.run_pure, Option.getD_none]
          simp [c4]
        · have hcap := r2 b g2
          have c3' : hi.getD n ≤ l.cap := by rcases c3 with c3 | c3 <;> omega
          have hb := bounds_ok (P := P) (w := w) (len := n) (cap := l.cap) hl hh hm (by simp) (by simp) (by simpa using c2) (by simpa using c3') (by simp)
          refine ⟨_, ?_, l, g1, .inr ⟨b, g2, rfl, by omega⟩⟩
          simp only [Instr.sliceAt, Sem.run_bind, run_underlying h1, Result.andThen_ok, Instr.slice, hb, h2, Sem.run_pure, Option.getD_none]
          simp [Addr.add]
      · split at hv
        · cases hv
        · rename_i hnm
          cases hv
          obtain ⟨c1, c2, c3, c4⟩ := hc
          rcases g2 with ⟨g2, rfl, rfl⟩ | ⟨b, g2, rfl, g3⟩
          · have hz := r1 g2
            have c3 : hi.getD 0 ≤ 0 := by simpa [hz] using c3
            have c2' : lo.getD 0 ≤ hi.getD 0 := by simpa using c2
            have c5 : hi.getD 0 ≤ mx.getD 0 ∧ mx.getD 0 ≤ 0 := by
              rcases c4 with rfl | ⟨c4, c5⟩
              · exact ⟨by simpa using c3, by simp⟩
              · refine ⟨by simpa using c4, ?_⟩
                simpa [hz] using c5
            have hb := bounds_ok (P := P) (w := w) (len := 0) (cap := 0) hl hh hm (fun hne hh0 => hnm ⟨hne, hh0⟩) c1 (by simpa using c2) (by simpa using c5.1) (by simpa using c5.2)
            have e1 : lo.getD 0 = 0 := by omega
            have e2 : hi.getD 0 = 0 := by omega
            have e3 : mx.getD 0 = 0 := by omega
            refine ⟨_, ?_, l, g1, .inl ⟨g2, rfl, by simp [e1, e2], by decide⟩⟩
            simp only [Instr.sliceAt, Sem.run_bind, run_underlying h1, Result.andThen_ok, Instr.slice, hb, h2, Sem.run_pure]
            simp [e1, e2, e3]
          · have hcap := r2 b g2
            have c3' : hi.getD n ≤ l.cap := by rcases c3 with c3 | c3 <;> omega
            have c5 : hi.getD n ≤ mx.getD l.cap ∧ mx.getD l.cap ≤ l.cap := by
              rcases c4 with rfl | ⟨c4, c5⟩
              · exact ⟨by simpa using c3', by simp⟩
              · cases mx with
                | none => exact ⟨by simpa using c3', by simp⟩
                | some i =>
                  simp only [Option.getD_some] at c4 c5 ⊢
                  refine ⟨c4, ?_⟩
                  rcases c5 with c5 | c5 <;> omega
            have hb := bounds_ok (P := P) (w := w) (len := n) (cap := l.cap) hl hh hm (fun hne hh0 => hnm ⟨hne, hh0⟩) c1 (by simpa using c2) c5.1 c5.2
            refine ⟨.slice (some (if (mx.getD l.cap).toNat = (lo.getD 0).toNat then ⟨b, 0, none⟩ else ⟨b, (lo.getD 0).toNat * sz, none⟩)) ((hi.getD n).toNat - (lo.getD 0).toNat) ((mx.getD l.cap).toNat - (lo.getD 0).toNat), ?_, l, g1, .inr ⟨b, _, _, g2, rfl, ⟨by omega, by omega⟩, by omega, fun hpos => by rw [if_neg (by omega)], nofun, nofun⟩⟩
            simp only [Instr.sliceAt, Sem.run_bind, run_underlying h1, Result.andThen_ok, Instr.slice, hb, h2, Sem.run_pure]
            split
            · simp
            · simp [Addr.add]
              exact fun h => h.symm
    · cases hv
  · rename_i k sz' off n fl
    obtain ⟨l, g1, g2⟩ := hu
    split at hv
    · rename_i sz he
      split at hv
      · rename_i hnn
        obtain ⟨rfl, rfl⟩ := hnn
        cases hv
        obtain ⟨e, h1, h2⟩ := esz_ok hT he
        obtain ⟨c1, c2, c3⟩ := hc
        rcases g2 with ⟨g2, rfl, rfl, _⟩ | ⟨b, ad, cp, g2, rfl, ⟨g3, g4⟩, g5, g6, _⟩
        · have c3 : hi.getD 0 ≤ 0 := by simpa using c3
          have c2' : lo.getD 0 ≤ hi.getD 0 := by simpa using c2
          have hb := bounds_ok (P := P) (w := w) (len := 0) (cap := 0) hl hh hm (by simp) c1 (by simpa using c2) (by simpa using c3) (by simp)
          have e1 : lo.getD 0 = 0 := by omega
          have e2 : hi.getD 0 = 0 := by omega
          refine ⟨_, ?_, l, g1, .inl ⟨g2, rfl, by simp [e1, e2], by decide⟩⟩
          simp only [Instr.sliceAt, Sem.run_bind, run_underlying h1, Result.andThen_ok, Instr.slice, hb, h2, Sem.run_pure]
          simp [e1, e2]
        · have hb := bounds_ok (P := P) (w := w) (len := n) (cap := cp) hl hh hm (by simp) c1 (by simpa using c2) (by simp only [Option.getD_none]; omega) (by simp)
          refine ⟨.slice (some (if cp = (lo.getD 0).toNat then ad else ad.add ((lo.getD 0).toNat * sz'))) ((hi.getD n).toNat - (lo.getD 0).toNat) (cp - (lo.getD 0).toNat), ?_, l, g1, .inr ⟨b, _, _, g2, rfl, ⟨by omega, by omega⟩, by omega, fun hpos => ?_, nofun, nofun⟩⟩
          · simp only [Instr.sliceAt, Sem.run_bind, run_underlying h1, Result.andThen_ok, Instr.slice, hb, h2, Sem.run_pure]
            simp
            split <;> rfl
          · rw [if_neg (by omega), g6 (by omega), Addr.add_lit, Nat.add_mul]
      · cases hv
    · cases hv
  · rename_i str
    have hu : RepD w S u (.v (.string str)) := hu
    cases hu
    split at hv
    · rename_i j h1
      cases hv
      obtain ⟨i, hi1, hd⟩ := Option.map_eq_some_iff.1 h1
      have e1 := (hT.get hi1).under
      rw [hd] at e1
      rcases hl with ⟨_, rfl⟩ | ⟨_, _, h, _⟩
      · rcases hh with ⟨h, _⟩ | ⟨i', k', h, rfl⟩
        · cases h
        cases h
        rcases hm with ⟨_, rfl⟩ | ⟨_, _, h, _⟩
        · refine ⟨_, ?_, .v _⟩
          have := run_slice_string_to_if (P := P) w t str k' j e1
          rw [if_pos hc] at this
          simp only [Instr.sliceAt, Sem.run_bind, run_underlying e1, Result.andThen_ok, this]
        · cases h
      · cases h
    · cases hv
  · cases hv
end
end Go.Proofs.YtplooifpgmlofaaGreat
