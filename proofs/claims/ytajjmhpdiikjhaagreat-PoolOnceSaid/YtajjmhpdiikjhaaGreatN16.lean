/- The law PoolOrder. No condition. -/
import Derived.Test.YtajjmhpdiikjhaaGreatN15
namespace Go.Proofs.YtajjmhpdiikjhaaGreat.Po
set_option maxRecDepth 100000
open Go.RowKit

def wc (s : Po) : List Int := s.wt.ws.map Wa.Wt.call
def wo (l : List Int) (n : Int) : List Int := l.filter fun y => y != n
/-- What effects leave of those that wait. -/
inductive OrdE : List Int → List Ef → List Int → Prop
  | nil {w} : OrdE w [] w
  | skip {w x es v} : x.call = 0 → OrdE w es v → OrdE w (x :: es) v
  | late {w x es v} : x.call ≠ 0 → x.kind ≠ 1 → x.kind ≠ 2 → OrdE (wo w x.call) es v → OrdE w (x :: es) v
  | head {w x es v} : x.call ≠ 0 → OrdE (wo (x.call :: w) x.call) es v → OrdE (x.call :: w) (x :: es) v
theorem wo_none {l : List Int} {n : Int} (h : n ∉ l) : wo l n = l := by
  unfold wo
  exact List.filter_eq_self.2 fun y hy => by simp; rintro rfl; exact h hy
theorem wo_head {l : List Int} {n : Int} (h : n ∉ l) : wo (n :: l) n = l := by
  have : wo (n :: l) n = wo l n := by simp [wo]
  rw [this, wo_none h]
theorem calls_nodup {s : Po} (h : Form s) : (wc s).Nodup := by
  have := h.wtAt.good.calls
  unfold wc List.Nodup
  rw [List.pairwise_map]
  exact this
theorem call_num {s : Po} (h : Form s) {x : Wa.Wt} (hx : x ∈ s.wt.ws) : 1 ≤ x.call := by
  obtain ⟨i, hi⟩ := List.getElem?_of_mem hx
  have ho : Wa.oddW x = false := by
    have := List.any_eq_false.1 h.wtAt.good.odd x hx
    simpa using this
  have : Wa.callOk x.call = true := by simp [Wa.oddW] at ho; exact ho.1
  exact (numOk_iff.1 this).1
theorem ord_closes {s : Po} {w : List Int} : ∀ {cs : List Int}, OrdE w (cs.map fun c => ef s 11 0 c) w
  | [] => .nil
  | _ :: _ => .skip rfl ord_closes
theorem ord_late {s : Po} {k : Int} (hk1 : k ≠ 1) (hk2 : k ≠ 2) {cs : List Int} : ∀ {ws : List Wa.Wt} {w : List Int}, (∀ x ∈ ws, 1 ≤ x.call) → OrdE w (lateE s k ws cs) (w.filter fun y => !ws.any fun x => x.call == y)
  | [], w, _ => by
    have : w.filter (fun y => !([] : List Wa.Wt).any fun x => x.call == y) = w := List.filter_eq_self.2 fun y _ => rfl
    rw [this]
    exact ord_closes
  | x :: ws, w, h => by
    have h1 := h x (by simp)
    have e : w.filter (fun y => !(x :: ws).any fun x => x.call == y) = (wo w x.call).filter (fun y => !ws.any fun x => x.call == y) := by
      unfold wo
      rw [List.filter_filter]
      refine List.filter_congr fun y _ => ?_
      rw [List.any_cons, Bool.not_or, Bool.and_comm]
      congr 1
      by_cases hy : y = x.call
      · simp [hy]
      · have : x.call ≠ y := fun e => hy e.symm
        rw [show (x.call == y) = false by simpa using this, show (y != x.call) = true by simpa using hy]; rfl
    rw [e]
    exact .late (show x.call ≠ 0 by omega) hk1 hk2 (ord_late hk1 hk2 fun y hy => h y (by simp [hy]))
theorem ord_pass {s : Po} (h : Form s) : OrdE (wc s) (passS s).2 (wc (passS s).1) := by
  unfold passS
  split
  · exact .nil
  · rename_i w ws e
    have hn := calls_nodup h
    have hw : wc s = w.call :: ws.map Wa.Wt.call := by rw [wc, e]; rfl
    rw [hw, List.nodup_cons] at hn
    have h1 := call_num h (x := w) (by rw [e]; simp)
    rw [hw]
    refine .head (x := ef s 2 w.call 0) (show w.call ≠ 0 by omega) ?_
    show OrdE (wo (w.call :: ws.map Wa.Wt.call) w.call) [] _
    rw [wo_head hn.1]
    exact .nil
theorem ord_give {s : Po} (h : Form s) (c b : Int) (re : Bool) : OrdE (wc s) (giveS s c b re).2 (wc (giveS s c b re).1) := by
  unfold giveS
  split
  · exact .skip rfl (ord_pass h)
  · split
    · rename_i w ws e
      have hn := calls_nodup h
      have hw : wc s = w.call :: ws.map Wa.Wt.call := by rw [wc, e]; rfl
      rw [hw, List.nodup_cons] at hn
      have h1 := call_num h (x := w) (by rw [e]; simp)
      rw [hw]
      refine .head (x := ef s 1 w.call c) (show w.call ≠ 0 by omega) ?_
      show OrdE (wo (w.call :: ws.map Wa.Wt.call) w.call) [] _
      rw [wo_head hn.1]
      exact .nil
    · exact .nil
theorem map_inj {α β : Type} {f : α → β} : ∀ {l : List α}, (l.map f).Nodup → ∀ {x y : α}, x ∈ l → y ∈ l → f x = f y → x = y
  | [], _, _, _, h, _, _ => by simp at h
  | a :: l, hn, x, y, hx, hy, e => by
    rw [List.map_cons, List.nodup_cons] at hn
    rcases List.mem_cons.1 hx with rfl | hx' <;> rcases List.mem_cons.1 hy with rfl | hy'
    · rfl
    · exact absurd (e ▸ List.mem_map_of_mem hy') hn.1
    · exact absurd (e ▸ List.mem_map_of_mem hx') hn.1
    · exact map_inj hn.2 hx' hy' e
theorem filter_calls {l : List Wa.Wt} (h : (l.map Wa.Wt.call).Nodup) {p : Wa.Wt → Bool} : (l.map Wa.Wt.call).filter (fun y => !(l.filter fun x => !p x).any fun x => x.call == y) = (l.filter p).map Wa.Wt.call := by
  rw [List.filter_map]
  congr 1
  refine List.filter_congr fun x hx => ?_
  show (!(l.filter fun x => !p x).any fun y => y.call == x.call) = p x
  cases hp : p x
  · have : ((l.filter fun x => !p x).any fun y => y.call == x.call) = true := List.any_eq_true.2 ⟨x, List.mem_filter.2 ⟨hx, by simp [hp]⟩, by simp⟩
    rw [this]; rfl
  · have : ((l.filter fun x => !p x).any fun y => y.call == x.call) = false := by
      rw [List.any_eq_false]
      intro y hy
      obtain ⟨h1, h2⟩ := List.mem_filter.1 hy
      intro e
      have e : y.call = x.call := by simpa using e
      have : y = x := map_inj h h1 hx e
      subst this
      rw [hp] at h2; cases h2
    rw [this]; rfl
/-- What a call does to those that wait. -/
structure OrdOk (s : Po) (x : Act) (o : Out) : Prop where
  e : ∃ v, OrdE (if x.m = 9 then wo (wc s) x.call else wc s) o.2.2.1 v ∧ (x.m < 4 → v ≠ [] → o.2.1.kind ≠ 1 ∧ o.2.1.kind ≠ 2) ∧ (¬ x.m < 4 → o.2.1.kind ≠ 3) ∧ (if o.2.1.kind = 3 then v ++ [x.call] else v) = wc o.1
theorem ord_ask {s : Po} (h : Fine s) {x : Act} (hx : x.m < 4) (he : (askK s x.call x.at_).2.2.2 = 0) : OrdOk s x (askK s x.call x.at_) := by
  have h9 : x.m ≠ 9 := by omega
  have hmany := h.f.n.many
  unfold askK at he ⊢
  split at he
  · simp [bad] at he
  rename_i c1
  rw [if_neg c1]
  split at he
  · simp [bad] at he
  rename_i c2
  rw [if_neg c2]
  split
  · exact ⟨⟨_, by rw [if_neg h9]; exact .nil, fun _ _ => ⟨by simp [rs], by simp [rs]⟩, fun h => absurd hx h, by simp [rs]⟩⟩
  split
  · exact ⟨⟨_, by rw [if_neg h9]; exact .nil, fun _ _ => ⟨by simp [rs], by simp [rs]⟩, fun h => absurd hx h, by simp [rs]⟩⟩
  split
  · rename_i c3
    have hw : s.wt.ws = [] := by
      apply Classical.byContradiction
      intro hw
      have := h.wait hw; omega
    exact ⟨⟨_, by rw [if_neg h9]; exact .nil, fun _ hv => absurd (by simp [wc, hw]) hv, fun h => absurd hx h, by simp [rs, wc]⟩⟩
  split
  · rename_i c3
    have hw : s.wt.ws = [] := by
      apply Classical.byContradiction
      intro hw
      have := h.wait hw; omega
    exact ⟨⟨_, by rw [if_neg h9]; exact .nil, fun _ hv => absurd (by simp [wc, hw]) hv, fun h => absurd hx h, by simp [rs, wc]⟩⟩
  split
  · exact ⟨⟨_, by rw [if_neg h9]; exact .nil, fun _ _ => ⟨by simp [rs], by simp [rs]⟩, fun h => absurd hx h, by simp [rs, wc]⟩⟩
  · exact ⟨⟨_, by rw [if_neg h9]; exact .nil, fun _ _ => ⟨by simp [rs], by simp [rs]⟩, fun h => absurd hx h, by simp [rs]⟩⟩
theorem OrdOk.mk' {s : Po} {x : Act} {o : Out} (h9 : x.m ≠ 9) (h4 : ¬ x.m < 4) (h3 : o.2.1.kind ≠ 3) (h : OrdE (wc s) o.2.2.1 (wc o.1)) : OrdOk s x o :=
  ⟨⟨_, by rw [if_neg h9]; exact h, fun h => absurd h h4, fun _ => h3, by rw [if_neg h3]⟩⟩
theorem rs_kind (s : Po) (k c : Int) : (rs s k c).kind = k := by
  unfold rs; split <;> simp_all
theorem ord_dialled {s : Po} (h : Fine s) {x : Act} (h9 : x.m ≠ 9) (h4 : ¬ x.m < 4) (he : (dialledK s x.call x.conn x.yes).2.2.2 = 0) : OrdOk s x (dialledK s x.call x.conn x.yes) := by
  unfold dialledK at he ⊢
  split at he
  · simp [bad] at he
  rename_i c1
  rw [if_neg c1]
  split at he
  · simp [bad] at he
  rename_i c2
  rw [if_neg c2]
  split at he
  · simp [bad] at he
  rename_i c3
  rw [if_neg c3]
  have c2' : s.ds.any (fun y => y.call == x.call) = true := by simpa using c2
  obtain ⟨i, y, hy, e⟩ := mem_keyed c2'
  have hole := (h.holeD hy).f
  rw [e] at hole
  unfold dialledT
  dsimp only
  split
  · refine .mk' h9 h4 ?_ (ord_pass hole)
    show (rs s _ 0).kind ≠ 3
    rw [rs_kind]; split <;> omega
  split
  · refine .mk' h9 h4 ?_ (ord_give hole _ _ _)
    show (rs s _ 0).kind ≠ 3
    rw [rs_kind]; omega
  split
  · refine .mk' h9 h4 ?_ (.skip rfl .nil)
    show (rs s _ 0).kind ≠ 3
    rw [rs_kind]; omega
  · refine .mk' h9 h4 ?_ .nil
    show (rs s _ _).kind ≠ 3
    rw [rs_kind]; omega
theorem ord_free {s : Po} (h : Fine s) {x : Act} (h9 : x.m ≠ 9) (h4 : ¬ x.m < 4) (he : (freeK s x.call x.yes).2.2.2 = 0) : OrdOk s x (freeK s x.call x.yes) := by
  unfold freeK at he ⊢
  split at he
  · simp [bad] at he
  rename_i c1
  rw [if_neg c1]
  split at he
  · simp [bad] at he
  rename_i c2
  rw [if_neg c2]
  have c2' : s.ls.any (fun y => y.call == x.call) = true := by simpa using c2
  obtain ⟨i, y, hy, e⟩ := mem_keyed c2'
  have hole := (h.holeL hy).f
  rw [e] at hole
  refine .mk' h9 h4 ?_ (ord_give hole _ _ _)
  show (rs s _ 0).kind ≠ 3
  rw [rs_kind]; omega
theorem wo_wc {s : Po} {c : Int} : wo (wc s) c = (s.wt.ws.filter fun x => x.call != c).map Wa.Wt.call := by
  unfold wo wc
  rw [List.filter_map]; rfl
theorem ord_cancel {s : Po} {x : Act} (h9 : x.m = 9) (he : (cancelK s x.call).2.2.2 = 0) : OrdOk s x (cancelK s x.call) := by
  unfold cancelK at he ⊢
  split at he
  · simp [bad] at he
  rename_i c1
  rw [if_neg c1]
  split at he
  · rename_i c2
    rw [if_pos c2]
    refine ⟨⟨_, by rw [if_pos h9]; exact .nil, fun h => by omega, fun _ => by rw [rs_kind]; omega, ?_⟩⟩
    rw [if_neg (by rw [rs_kind]; omega), wo_wc]; rfl
  rename_i c2
  rw [if_neg c2]
  have hn : x.call ∉ wc s := by
    intro hm
    obtain ⟨y, hy, e⟩ := List.mem_map.1 hm
    exact c2 (List.any_eq_true.2 ⟨y, hy, by simpa using e⟩)
  split at he
  · split at he
    · simp [bad] at he
    rename_i c3 c4
    rw [if_pos c3, if_neg c4]
    refine ⟨⟨_, by rw [if_pos h9]; exact .nil, fun h => by omega, fun _ => by rw [rs_kind]; omega, ?_⟩⟩
    rw [if_neg (by rw [rs_kind]; omega), wo_none hn]; rfl
  · split at he <;> simp [bad] at he
theorem ord_tick {s : Po} (h : Fine s) {x : Act} (h9 : x.m ≠ 9) (h4 : ¬ x.m < 4) (he : (tickK s x.at_).2.2.2 = 0) : OrdOk s x (tickK s x.at_) := by
  unfold tickK at he ⊢
  split at he
  · simp [bad] at he
  rename_i c1
  rw [if_neg c1]
  split at he
  · simp [bad] at he
  rename_i c2
  rw [if_neg c2]
  refine .mk' h9 h4 (by rw [rs_kind]; omega) ?_
  have := ord_late (s := s) (k := 5) (by decide) (by decide) (cs := Id.shut s.idle x.at_) (ws := s.wt.ws.filter fun y => !decide (x.at_ < y.dead)) (w := wc s) (fun y hy => call_num h.f (List.mem_filter.1 hy).1)
  have e := filter_calls (calls_nodup h.f) (p := fun y : Wa.Wt => decide (x.at_ < y.dead))
  unfold wc at this ⊢
  rw [e] at this
  exact this
theorem ord_shut {s : Po} (h : Fine s) {x : Act} (h9 : x.m ≠ 9) (h4 : ¬ x.m < 4) : OrdOk s x (shutK s) := by
  unfold shutK
  refine .mk' h9 h4 (by rw [rs_kind]; omega) ?_
  have := ord_late (s := s) (k := 6) (by decide) (by decide) (cs := s.idle.cs.map Id.Cn.conn) (ws := s.wt.ws) (w := wc s) (fun y hy => call_num h.f hy)
  have e : (wc s).filter (fun y => !s.wt.ws.any fun x => x.call == y) = [] := by
    rw [List.filter_eq_nil_iff]
    intro y hy
    obtain ⟨z, hz, e⟩ := List.mem_map.1 hy
    have : s.wt.ws.any (fun x => x.call == y) = true := List.any_eq_true.2 ⟨z, hz, by simpa using e⟩
    rw [this]; decide
  rw [e] at this
  exact this
theorem do_ord {s : Po} (h : Fine s) {x : Act} (he : (doA s x).2.2.2 = 0) : OrdOk s x (doA s x) := by
  unfold doA ask dialled free cancel tick shut guarded at he ⊢
  simp only [if_pos h] at he ⊢
  split
  · rename_i c1
    rw [if_pos c1] at he
    exact ord_ask h (by omega) he
  rename_i c1
  rw [if_neg c1] at he
  split
  · rename_i c2
    rw [if_pos c2] at he
    exact ord_dialled h (by omega) (by omega) he
  rename_i c2
  rw [if_neg c2] at he
  split
  · rename_i c3
    rw [if_pos c3] at he
    exact ord_free h (by omega) (by omega) he
  rename_i c3
  rw [if_neg c3] at he
  split
  · rename_i c4
    rw [if_pos c4] at he
    exact ord_cancel c4 he
  rename_i c4
  rw [if_neg c4] at he
  split
  · rename_i c5
    rw [if_pos c5] at he
    exact ord_tick h c4 (by omega) he
  · exact ord_shut h c4 (by omega)
end Go.Proofs.YtajjmhpdiikjhaaGreat.Po
namespace Go.Proofs.YtajjmhpdiikjhaaGreat.Po
set_option maxRecDepth 100000
open Go.RowKit

set_option maxHeartbeats 1000000 in
theorem without_m (l : List Int) (n : Int) (hl : l.length < 4294967296) : Meets Tryz.prog 22 [.d (Id.nl l), .i n] [] (fun r => r = ⟨.rw 2000000 (wo l n).length, [], [.row 2 1 ((wo l n).map Id.nds) false]⟩) := by
  refine meetsH [] tbOk mixed Tryz.func22 pl22 rfl rfl ?_
  simp [Tryz.ntmps22]
  refine vc_loop (fun m σ => ∃ k : Nat, m = l.length - k ∧ k ≤ l.length ∧ σ = ⟨27, [(6, .i k), (0, .d (Id.nl l)), (1, .i n), (5, .rw 5 (wo (l.take k) n).length)],
    [(5, .row 2 1 ((wo (l.take k) n).map Id.nds) false)]⟩) ?_ ?_
  · exact ⟨_, _, ⟨0, rfl, Nat.zero_le _, rfl⟩, [.row 5 2 1], _, rfl, by simp [wo]⟩
  rintro m σ ⟨k, rfl, hk, rfl⟩
  by_cases hlt : k < l.length
  · obtain ⟨x, hx, e⟩ := at_lt hlt
    have wk := wrap_succ hlt hl
    have hle : (wo (l.take k) n).length ≤ k := Nat.le_trans (List.length_filter_le _ _) (by simp; omega)
    by_cases hxn : x = n
    · have es : wo (l.take (k + 1)) n = wo (l.take k) n := by simp [wo, List.take_add_one, hx, hxn]
      simp [hlt, e, hxn, wk]
      refine ⟨_, ?_, _, ⟨k + 1, rfl, hlt, rfl⟩, [], _, rfl, by simp [es]⟩
      omega
    · have es : wo (l.take (k + 1)) n = wo (l.take k) n ++ [x] := by simp [wo, List.take_add_one, hx, hxn]
      simp [hlt, e, hxn, wk]
      refine ⟨by omega, _, ?_, _, ⟨k + 1, rfl, hlt, rfl⟩, [], _, rfl, by simp [es]⟩
      omega
  obtain rfl : k = l.length := by omega
  simp
  exact vcRet_of [5] (by simp) rfl
theorem wo_len (l : List Int) (n : Int) : (wo l n).length ≤ l.length := List.length_filter_le _ _
theorem wc_len {s : Po} (h : Form s) : (wc s).length ≤ 64 := by rw [wc, List.length_map]; exact h.wlen
@[simp] theorem take_nl (l : List Int) : List.take l.length (List.map Id.nds l) = List.map Id.nds l := List.take_of_length_le (by simp)
@[simp] theorem take_nl1 (l : List Int) (z : List D) : List.take (l.length + 1) (List.map Id.nds l ++ [z]) = List.map Id.nds l ++ [z] := List.take_of_length_le (by simp)
/-- The next call is one that takes out. -/
def canc (s : Po) (xs : List Act) (k : Nat) : Bool := match xs[k]? with
  | some x => decide (x.m = 9) && decide ((doA (stA s xs k) x).2.2.2 = 0)
  | none => false
theorem canc_at {s : Po} {xs : List Act} {k : Nat} {x : Act} (hx : xs[k]? = some x) : canc s xs k = (decide (x.m = 9) && decide ((doA (stA s xs k) x).2.2.2 = 0)) := by rw [canc, hx]
theorem canc_end {s : Po} {xs : List Act} : canc s xs xs.length = false := by simp [canc]
def Oth (c : Nat) : Prop := c = 7 ∨ c = 59 ∨ c = 97
inductive OInv (m q i a : Int) (s : Po) (xs : List Act) : Nat → Sta → Prop
  | d {k : Nat} : k ≤ xs.length → canc s xs k = true → OInv m q i a s xs (xs.length - k) ⟨142, [(8, .i k), (7, .d (Id.nl (wc (stA s xs k)))), (2, .ptr 2 0), (5, .ptr 5 0), (1, .d (al xs)), (4, .b false)], [(2, .box 47 [.i m, .i q, .i i, .i a]), (5, .box 31 (stA s xs k).cells)]⟩
  | r {k c : Nat} : k ≤ xs.length → canc s xs k = false → Oth c → OInv m q i a s xs (xs.length - k) ⟨142, [(8, .i k), (7, .rw c (wc (stA s xs k)).length), (2, .ptr 2 0), (5, .ptr 5 0), (1, .d (al xs)), (4, .b false)], [(c, .row 2 1 ((wc (stA s xs k)).map Id.nds) false), (2, .box 47 [.i m, .i q, .i i, .i a]), (5, .box 31 (stA s xs k).cells)]⟩
def nz (es : List Ef) : Bool := es.any fun y => y.call != 0
theorem nz_cons {y : Ef} {es : List Ef} : nz (y :: es) = ((y.call != 0) || nz es) := rfl
inductive IInv (m q i a : Int) (s t : Po) (r : Rs) (xs : List Act) (k : Nat) (es : List Ef) (v : List Int) (c0 : Nat) : Nat → Sta → Prop
  | d {j : Nat} {w : List Int} : j ≤ es.length → w.length ≤ 64 → OrdE w (es.drop j) v → nz (es.drop j) = true → IInv m q i a s t r xs k es v c0 (es.length - j)
    ⟨142, [(13, .i j), (11, .d (el es)), (7, .d (Id.nl w)), (8, .i k), (2, .ptr 2 0), (5, .ptr 5 0), (9, .ptr 9 0), (10, .ptr 10 0), (1, .d (al xs)), (4, .b false)],
        [(2, .box 47 [.i m, .i q, .i i, .i a]), (5, .box 31 s.cells), (9, .box 31 t.cells), (10, .box 36 [.i r.kind, .i r.back, .i r.conn])]⟩
  | r {j c : Nat} {w : List Int} : j ≤ es.length → w.length ≤ 64 → OrdE w (es.drop j) v → nz (es.drop j) = false → (c = c0 ∨ c = 97) → IInv m q i a s t r xs k es v c0 (es.length - j)
    ⟨142, [(13, .i j), (11, .d (el es)), (7, .rw c w.length), (8, .i k), (2, .ptr 2 0), (5, .ptr 5 0), (9, .ptr 9 0), (10, .ptr 10 0), (1, .d (al xs)), (4, .b false)],
        [(c, .row 2 1 (w.map Id.nds) false), (2, .box 47 [.i m, .i q, .i i, .i a]), (5, .box 31 s.cells), (9, .box 31 t.cells), (10, .box 36 [.i r.kind, .i r.back, .i r.conn])]⟩
set_option maxHeartbeats 16000000 in
theorem order_m (m q i a : Int) (xs : List Act) (hx0 : ∀ x ∈ xs, 0 ≤ x.what) : Meets Tryz.prog 6 [.agg [.i m, .i q, .i i, .i a], .d (al xs)] [] (Ret (.b true)) := by
  refine meetsH [] tbOk mixed Tryz.func6 pl6 rfl rfl ?_
  by_cases h60 : (60 : Int) < xs.length
  · simp [Tryz.ntmps6, h60]
    refine shown_m.mono ?_
    rintro _ rfl
    simp
    exact vcRet_of [] (by simp) rfl
  have hbg := begun_m m q i a
  simp at hbg
  simp [Tryz.ntmps6, h60]
  refine hbg.mono ?_
  rintro _ rfl
  cases hb : begB m q i a
  case false =>
    simp
    refine shown_m.mono ?_
    rintro _ rfl
    simp
    exact vcRet_of [] (by simp) rfl
  have hf0 := beg_fine hb
  have hw0 : wc (beg m q i a) = [] := by
    have : begB m q i a = true := hb
    unfold begB at this
    unfold beg
    by_cases hf : fits 0 m q i a
    · rw [new_yes hf]; rfl
    · rw [new_no hf] at this; simp at this
  generalize beg m q i a = s at hf0 hw0 ⊢
  simp
  refine vc_loop (OInv m q i a s xs) ?_ ?_
  · by_cases hc : canc s xs 0 = true
    · exact ⟨_, _, .d (k := 0) (Nat.zero_le _) hc, [.data 7 1], _, rfl, by simp [stA, hw0]⟩
    · exact ⟨_, _, .r (k := 0) (c := 7) (Nat.zero_le _) (by simpa using hc) (.inl rfl), [.row 7 2 1], _, rfl, by simp [stA, hw0]⟩
  intro n σ hI
  cases hI with
  | @d k hk hc =>
    have hlt : k < xs.length := Classical.byContradiction fun h => by
      obtain rfl : k = xs.length := by omega
      rw [canc_end] at hc; cases hc
    obtain ⟨x, hx, e⟩ := at_lt hlt
    have wk := wrap_succ hlt (by omega)
    have e1 := st_succ (s := s) hx
    have hf := st_fine (xs := xs) hf0 k
    have hd := do_m (stA s xs k) hf.f.held x (hx0 x (List.mem_of_getElem? hx))
    have hln := do_len (s := stA s xs k) x
    have hft := do_fine hf x
    have hor := do_ord hf (x := x)
    have her := do_err (s := stA s xs k) x
    have hw64 := wc_len hf.f
    rw [canc_at hx] at hc
    generalize doA (stA s xs k) x = o at hd hln hft hor her e1 hc
    obtain ⟨t, r, es, er⟩ := o
    dsimp only at hd hln hft hor e1 hc
    simp at hd
    rw [Bool.and_eq_true, decide_eq_true_eq, decide_eq_true_eq] at hc
    obtain ⟨h9, he⟩ := hc
    obtain ⟨⟨v, hv, hk1, hk3, hk2⟩⟩ := hor he
    dsimp only at hv hk1 hk2 hk3
    subst he
    have h9' : x.what.tmod 12 = 9 := h9
    have hwm := without_m (wc (stA s xs k)) x.call (by omega)
    rw [if_pos h9] at hv
    have hw0l : (wo (wc (stA s xs k)) x.call).length ≤ 64 := Nat.le_trans (wo_len _ _) hw64
    simp at hwm
    simp [hlt, e]
    refine effCall hd ?_
    simp [h9', hlt, e]
    refine ⟨by kernel_rfl, ?_⟩
    refine hwm.mono ?_
    rintro _ rfl
    simp
    generalize wo (wc (stA s xs k)) x.call = w0 at hv hw0l ⊢
    refine vc_loop (IInv m q i a (stA s xs k) t r xs k es v 59) ?_ ?_
    · by_cases hz : nz es = true
      · exact ⟨_, _, .d (j := 0) (w := w0) (Nat.zero_le _) hw0l (by simpa using hv) (by simpa using hz), [.view 7], _, (by simp [Prep.all, Prep.run]; rfl), by simp⟩
      · exact ⟨_, _, .r (j := 0) (w := w0) (c := 59) (Nat.zero_le _) hw0l (by simpa using hv) (by simpa using hz) (.inl rfl), [], _, rfl, by simp⟩
    intro n σ hI
    cases hI with
    | @d j w hj hwl hvj hz =>
      have hlj : j < es.length := Classical.byContradiction fun h => by
        rw [List.drop_of_length_le (by omega)] at hz; cases hz
      obtain ⟨y, hy, ey⟩ := at_lt hlj
      have wj := wrap_succ hlj hln
      have hdj : es.drop j = y :: es.drop (j + 1) := by rw [List.drop_eq_getElem_cons hlj, ey]
      rw [hdj] at hvj hz
      cases hvj with
      | skip h1 h2 =>
        rw [nz_cons, h1] at hz
        simp [hlj, ey, h1, wj]
        refine ⟨_, ?_, _, .d (j := j + 1) (w := w) hlj hwl h2 (by simpa using hz), [], _, rfl, by simp⟩
        omega
      | late h1 h2 h3 h4 =>
        have hwm := without_m w y.call (by omega)
        have hwo := wo_len w y.call
        simp at hwm
        simp [hlj, ey, h1, h2, h3]
        refine ⟨by kernel_rfl, ?_⟩
        refine hwm.mono ?_
        rintro _ rfl
        simp [wj]
        by_cases hz2 : nz (es.drop (j + 1)) = true
        · refine ⟨_, ?_, _, .d (j := j + 1) (w := wo w y.call) hlj (by omega) h4 hz2, [.view 7], _, (by simp [Prep.all, Prep.run]; rfl), by simp⟩
          omega
        · refine ⟨_, ?_, _, .r (j := j + 1) (c := 97) (w := wo w y.call) hlj (by omega) h4 (by simpa using hz2) (.inr rfl), [], _, rfl, by simp⟩
          omega
      | @head w1 _ _ _ h1 h2 =>
        have hwm := without_m (y.call :: w1) y.call (by omega)
        have hwo := wo_len (y.call :: w1) y.call
        have hl1 : ¬ (w1.length : Int) + 1 = 0 := by omega
        simp at hwm
        by_cases k1 : y.kind = 1
        · simp [hlj, ey, h1, k1, hl1]
          refine ⟨by kernel_rfl, ?_⟩
          refine hwm.mono ?_
          rintro _ rfl
          simp [wj]
          by_cases hz2 : nz (es.drop (j + 1)) = true
          · refine ⟨_, ?_, _, .d (j := j + 1) (w := wo (y.call :: w1) y.call) hlj (by omega) h2 hz2, [.view 7], _, (by simp [Prep.all, Prep.run]; rfl), by simp⟩
            omega
          · refine ⟨_, ?_, _, .r (j := j + 1) (c := 97) (w := wo (y.call :: w1) y.call) hlj (by omega) h2 (by simpa using hz2) (.inr rfl), [], _, rfl, by simp⟩
            omega
        by_cases k2 : y.kind = 2
        · simp [hlj, ey, h1, k2, hl1]
          refine ⟨by kernel_rfl, ?_⟩
          refine hwm.mono ?_
          rintro _ rfl
          simp [wj]
          by_cases hz2 : nz (es.drop (j + 1)) = true
          · refine ⟨_, ?_, _, .d (j := j + 1) (w := wo (y.call :: w1) y.call) hlj (by omega) h2 hz2, [.view 7], _, (by simp [Prep.all, Prep.run]; rfl), by simp⟩
            omega
          · refine ⟨_, ?_, _, .r (j := j + 1) (c := 97) (w := wo (y.call :: w1) y.call) hlj (by omega) h2 (by simpa using hz2) (.inr rfl), [], _, rfl, by simp⟩
            omega
        · simp [hlj, ey, h1, k1, k2]
          refine ⟨by kernel_rfl, ?_⟩
          refine hwm.mono ?_
          rintro _ rfl
          simp [wj]
          by_cases hz2 : nz (es.drop (j + 1)) = true
          · refine ⟨_, ?_, _, .d (j := j + 1) (w := wo (y.call :: w1) y.call) hlj (by omega) h2 hz2, [.view 7], _, (by simp [Prep.all, Prep.run]; rfl), by simp⟩
            omega
          · refine ⟨_, ?_, _, .r (j := j + 1) (c := 97) (w := wo (y.call :: w1) y.call) hlj (by omega) h2 (by simpa using hz2) (.inr rfl), [], _, rfl, by simp⟩
            omega
    | @r j c2 w hj hwl hvj hz hcc =>
      rcases hcc with rfl | rfl
      · by_cases hlj : j < es.length
        · obtain ⟨y, hy, ey⟩ := at_lt hlj
          have wj := wrap_succ hlj hln
          have hdj : es.drop j = y :: es.drop (j + 1) := by rw [List.drop_eq_getElem_cons hlj, ey]
          rw [hdj] at hvj hz
          rw [nz_cons, Bool.or_eq_false_iff] at hz
          have h0 : y.call = 0 := by simpa using hz.1
          cases hvj with
          | late h1 => exact absurd h0 h1
          | head h1 => exact absurd h0 h1
          | skip h1 h2 =>
            simp [hlj, ey, h1, wj]
            refine ⟨_, ?_, _, .r (j := j + 1) (c := 59) (w := w) hlj hwl h2 hz.2 (by simp), [], _, rfl, by simp⟩
            omega
        obtain rfl : j = es.length := by omega
        have hve : w = v := by rw [List.drop_length] at hvj; cases hvj; rfl
        subst hve
        have hm : ¬ x.m < 4 := by omega
        have h3 := hk3 hm
        have hm : ¬ x.what.tmod 12 < 4 := hm
        rw [if_neg h3] at hk2
        simp [hlt, e, hm, h3, wk]
        by_cases hcn : canc s xs (k + 1) = true
        · refine ⟨_, ?_, _, .d (k := k + 1) hlt hcn, [.view 7], _, (by simp [Prep.all, Prep.run]; rfl), by simp [e1, ← hk2]⟩
          omega
        · refine ⟨_, ?_, _, .r (k := k + 1) (c := 59) hlt (by simpa using hcn) (by simp [Oth]), [], _, rfl, by simp [e1, ← hk2]⟩
          omega
      · by_cases hlj : j < es.length
        · obtain ⟨y, hy, ey⟩ := at_lt hlj
          have wj := wrap_succ hlj hln
          have hdj : es.drop j = y :: es.drop (j + 1) := by rw [List.drop_eq_getElem_cons hlj, ey]
          rw [hdj] at hvj hz
          rw [nz_cons, Bool.or_eq_false_iff] at hz
          have h0 : y.call = 0 := by simpa using hz.1
          cases hvj with
          | late h1 => exact absurd h0 h1
          | head h1 => exact absurd h0 h1
          | skip h1 h2 =>
            simp [hlj, ey, h1, wj]
            refine ⟨_, ?_, _, .r (j := j + 1) (c := 97) (w := w) hlj hwl h2 hz.2 (by simp), [], _, rfl, by simp⟩
            omega
        obtain rfl : j = es.length := by omega
        have hve : w = v := by rw [List.drop_length] at hvj; cases hvj; rfl
        subst hve
        have hm : ¬ x.m < 4 := by omega
        have h3 := hk3 hm
        have hm : ¬ x.what.tmod 12 < 4 := hm
        rw [if_neg h3] at hk2
        simp [hlt, e, hm, h3, wk]
        by_cases hcn : canc s xs (k + 1) = true
        · refine ⟨_, ?_, _, .d (k := k + 1) hlt hcn, [.view 7], _, (by simp [Prep.all, Prep.run]; rfl), by simp [e1, ← hk2]⟩
          omega
        · refine ⟨_, ?_, _, .r (k := k + 1) (c := 97) hlt (by simpa using hcn) (by simp [Oth]), [], _, rfl, by simp [e1, ← hk2]⟩
          omega
  | @r k c hk hc hcc =>
    by_cases hlt : k < xs.length
    · obtain ⟨x, hx, e⟩ := at_lt hlt
      have wk := wrap_succ hlt (by omega)
      have e1 := st_succ (s := s) hx
      have hf := st_fine (xs := xs) hf0 k
      have hd := do_m (stA s xs k) hf.f.held x (hx0 x (List.mem_of_getElem? hx))
      have hln := do_len (s := stA s xs k) x
      have hft := do_fine hf x
      have hor := do_ord hf (x := x)
      have her := do_err (s := stA s xs k) x
      have hw64 := wc_len hf.f
      rw [canc_at hx] at hc
      generalize doA (stA s xs k) x = o at hd hln hft hor her e1 hc
      obtain ⟨t, r, es, er⟩ := o
      dsimp only at hd hln hft hor e1 hc
      simp at hd
      rcases hcc with rfl | rfl | rfl
      · simp [hlt, e]
        refine effCall hd ?_
        by_cases he : er = 0
        · have h9 : ¬ x.m = 9 := fun h => by rw [h, he] at hc; simp at hc
          obtain ⟨⟨v, hv, hk1, hk3, hk2⟩⟩ := hor he
          dsimp only at hv hk1 hk2 hk3
          subst he
          have h9' : ¬ x.what.tmod 12 = 9 := h9
          rw [if_neg h9] at hv
          simp [h9', hlt, e]
          refine ⟨by kernel_rfl, ?_⟩
          generalize hw0e : wc (stA s xs k) = w0 at hv hw64 ⊢
          have hw0l := hw64
          refine vc_loop (IInv m q i a (stA s xs k) t r xs k es v 7) ?_ ?_
          · by_cases hz : nz es = true
            · exact ⟨_, _, .d (j := 0) (w := w0) (Nat.zero_le _) hw0l (by simpa using hv) (by simpa using hz), [.view 7], _, (by simp [Prep.all, Prep.run]; rfl), by simp⟩
            · exact ⟨_, _, .r (j := 0) (w := w0) (c := 7) (Nat.zero_le _) hw0l (by simpa using hv) (by simpa using hz) (.inl rfl), [], _, rfl, by simp⟩
          intro n σ hI
          cases hI with
          | @d j w hj hwl hvj hz =>
            have hlj : j < es.length := Classical.byContradiction fun h => by
              rw [List.drop_of_length_le (by omega)] at hz; cases hz
            obtain ⟨y, hy, ey⟩ := at_lt hlj
            have wj := wrap_succ hlj hln
            have hdj : es.drop j = y :: es.drop (j + 1) := by rw [List.drop_eq_getElem_cons hlj, ey]
            rw [hdj] at hvj hz
            cases hvj with
            | skip h1 h2 =>
              rw [nz_cons, h1] at hz
              simp [hlj, ey, h1, wj]
              refine ⟨_, ?_, _, .d (j := j + 1) (w := w) hlj hwl h2 (by simpa using hz), [], _, rfl, by simp⟩
              omega
            | late h1 h2 h3 h4 =>
              have hwm := without_m w y.call (by omega)
              have hwo := wo_len w y.call
              simp at hwm
              simp [hlj, ey, h1, h2, h3]
              refine ⟨by kernel_rfl, ?_⟩
              refine hwm.mono ?_
              rintro _ rfl
              simp [wj]
              by_cases hz2 : nz (es.drop (j + 1)) = true
              · refine ⟨_, ?_, _, .d (j := j + 1) (w := wo w y.call) hlj (by omega) h4 hz2, [.view 7], _, (by simp [Prep.all, Prep.run]; rfl), by simp⟩
                omega
              · refine ⟨_, ?_, _, .r (j := j + 1) (c := 97) (w := wo w y.call) hlj (by omega) h4 (by simpa using hz2) (.inr rfl), [], _, rfl, by simp⟩
                omega
            | @head w1 _ _ _ h1 h2 =>
              have hwm := without_m (y.call :: w1) y.call (by omega)
              have hwo := wo_len (y.call :: w1) y.call
              have hl1 : ¬ (w1.length : Int) + 1 = 0 := by omega
              simp at hwm
              by_cases k1 : y.kind = 1
              · simp [hlj, ey, h1, k1, hl1]
                refine ⟨by kernel_rfl, ?_⟩
                refine hwm.mono ?_
                rintro _ rfl
                simp [wj]
                by_cases hz2 : nz (es.drop (j + 1)) = true
                · refine ⟨_, ?_, _, .d (j := j + 1) (w := wo (y.call :: w1) y.call) hlj (by omega) h2 hz2, [.view 7], _, (by simp [Prep.all, Prep.run]; rfl), by simp⟩
                  omega
                · refine ⟨_, ?_, _, .r (j := j + 1) (c := 97) (w := wo (y.call :: w1) y.call) hlj (by omega) h2 (by simpa using hz2) (.inr rfl), [], _, rfl, by simp⟩
                  omega
              by_cases k2 : y.kind = 2
              · simp [hlj, ey, h1, k2, hl1]
                refine ⟨by kernel_rfl, ?_⟩
                refine hwm.mono ?_
                rintro _ rfl
                simp [wj]
                by_cases hz2 : nz (es.drop (j + 1)) = true
                · refine ⟨_, ?_, _, .d (j := j + 1) (w := wo (y.call :: w1) y.call) hlj (by omega) h2 hz2, [.view 7], _, (by simp [Prep.all, Prep.run]; rfl), by simp⟩
                  omega
                · refine ⟨_, ?_, _, .r (j := j + 1) (c := 97) (w := wo (y.call :: w1) y.call) hlj (by omega) h2 (by simpa using hz2) (.inr rfl), [], _, rfl, by simp⟩
                  omega
              · simp [hlj, ey, h1, k1, k2]
                refine ⟨by kernel_rfl, ?_⟩
                refine hwm.mono ?_
                rintro _ rfl
                simp [wj]
                by_cases hz2 : nz (es.drop (j + 1)) = true
                · refine ⟨_, ?_, _, .d (j := j + 1) (w := wo (y.call :: w1) y.call) hlj (by omega) h2 hz2, [.view 7], _, (by simp [Prep.all, Prep.run]; rfl), by simp⟩
                  omega
                · refine ⟨_, ?_, _, .r (j := j + 1) (c := 97) (w := wo (y.call :: w1) y.call) hlj (by omega) h2 (by simpa using hz2) (.inr rfl), [], _, rfl, by simp⟩
                  omega
          | @r j c2 w hj hwl hvj hz hcc =>
            rcases hcc with rfl | rfl
            · by_cases hlj : j < es.length
              · obtain ⟨y, hy, ey⟩ := at_lt hlj
                have wj := wrap_succ hlj hln
                have hdj : es.drop j = y :: es.drop (j + 1) := by rw [List.drop_eq_getElem_cons hlj, ey]
                rw [hdj] at hvj hz
                rw [nz_cons, Bool.or_eq_false_iff] at hz
                have h0 : y.call = 0 := by simpa using hz.1
                cases hvj with
                | late h1 => exact absurd h0 h1
                | head h1 => exact absurd h0 h1
                | skip h1 h2 =>
                  simp [hlj, ey, h1, wj]
                  refine ⟨_, ?_, _, .r (j := j + 1) (c := 7) (w := w) hlj hwl h2 hz.2 (by simp), [], _, rfl, by simp⟩
                  omega
              obtain rfl : j = es.length := by omega
              have hve : w = v := by rw [List.drop_length] at hvj; cases hvj; rfl
              subst hve
              by_cases hm : x.m < 4
              · have hk1 := hk1 hm
                have hm : x.what.tmod 12 < 4 := hm
                cases w with
                | nil =>
                  by_cases h3 : r.kind = 3
                  · rw [if_pos h3] at hk2
                    simp [hlt, e, hm, h3, wk]
                    by_cases hcn : canc s xs (k + 1) = true
                    · refine ⟨_, ?_, _, .d (k := k + 1) hlt hcn, [.view 7], _, (by simp [Prep.all, Prep.run]; rfl), by simp [e1, ← hk2]⟩
                      omega
                    · refine ⟨_, ?_, _, .r (k := k + 1) (c := 7) hlt (by simpa using hcn) (by simp [Oth]), [], _, rfl, by simp [e1, ← hk2]⟩
                      omega
                  · rw [if_neg h3] at hk2
                    simp [hlt, e, hm, h3, wk]
                    by_cases hcn : canc s xs (k + 1) = true
                    · refine ⟨_, ?_, _, .d (k := k + 1) hlt hcn, [.view 7], _, (by simp [Prep.all, Prep.run]; rfl), by simp [e1, ← hk2]⟩
                      omega
                    · refine ⟨_, ?_, _, .r (k := k + 1) (c := 7) hlt (by simpa using hcn) (by simp [Oth]), [], _, rfl, by simp [e1, ← hk2]⟩
                      omega
                | cons w1 ws1 =>
                  obtain ⟨k1, k2⟩ := hk1 (by simp)
                  have hl1 : (0 : Int) < (ws1.length : Int) + 1 := by omega
                  have hl2 : ws1.length + 1 ≤ 64 := hwl
                  by_cases h3 : r.kind = 3
                  · rw [if_pos h3] at hk2
                    simp [hlt, e, hm, h3, hl1, wk]
                    by_cases hcn : canc s xs (k + 1) = true
                    · refine ⟨by omega, _, ?_, _, .d (k := k + 1) hlt hcn, [.view 7], _, (by simp [Prep.all, Prep.run]; rfl), by simp [e1, ← hk2]⟩
                      omega
                    · refine ⟨by omega, _, ?_, _, .r (k := k + 1) (c := 7) hlt (by simpa using hcn) (by simp [Oth]), [], _, rfl, by simp [e1, ← hk2]⟩
                      omega
                  · rw [if_neg h3] at hk2
                    simp [hlt, e, hm, h3, k1, k2, hl1, wk]
                    by_cases hcn : canc s xs (k + 1) = true
                    · refine ⟨_, ?_, _, .d (k := k + 1) hlt hcn, [.view 7], _, (by simp [Prep.all, Prep.run]; rfl), by simp [e1, ← hk2]⟩
                      omega
                    · refine ⟨_, ?_, _, .r (k := k + 1) (c := 7) hlt (by simpa using hcn) (by simp [Oth]), [], _, rfl, by simp [e1, ← hk2]⟩
                      omega
              · have h3 := hk3 hm
                have hm : ¬ x.what.tmod 12 < 4 := hm
                rw [if_neg h3] at hk2
                simp [hlt, e, hm, h3, wk]
                by_cases hcn : canc s xs (k + 1) = true
                · refine ⟨_, ?_, _, .d (k := k + 1) hlt hcn, [.view 7], _, (by simp [Prep.all, Prep.run]; rfl), by simp [e1, ← hk2]⟩
                  omega
                · refine ⟨_, ?_, _, .r (k := k + 1) (c := 7) hlt (by simpa using hcn) (by simp [Oth]), [], _, rfl, by simp [e1, ← hk2]⟩
                  omega
            · by_cases hlj : j < es.length
              · obtain ⟨y, hy, ey⟩ := at_lt hlj
                have wj := wrap_succ hlj hln
                have hdj : es.drop j = y :: es.drop (j + 1) := by rw [List.drop_eq_getElem_cons hlj, ey]
                rw [hdj] at hvj hz
                rw [nz_cons, Bool.or_eq_false_iff] at hz
                have h0 : y.call = 0 := by simpa using hz.1
                cases hvj with
                | late h1 => exact absurd h0 h1
                | head h1 => exact absurd h0 h1
                | skip h1 h2 =>
                  simp [hlj, ey, h1, wj]
                  refine ⟨_, ?_, _, .r (j := j + 1) (c := 97) (w := w) hlj hwl h2 hz.2 (by simp), [], _, rfl, by simp⟩
                  omega
              obtain rfl : j = es.length := by omega
              have hve : w = v := by rw [List.drop_length] at hvj; cases hvj; rfl
              subst hve
              by_cases hm : x.m < 4
              · have hk1 := hk1 hm
                have hm : x.what.tmod 12 < 4 := hm
                cases w with
                | nil =>
                  by_cases h3 : r.kind = 3
                  · rw [if_pos h3] at hk2
                    simp [hlt, e, hm, h3, wk]
                    by_cases hcn : canc s xs (k + 1) = true
                    · refine ⟨_, ?_, _, .d (k := k + 1) hlt hcn, [.view 7], _, (by simp [Prep.all, Prep.run]; rfl), by simp [e1, ← hk2]⟩
                      omega
                    · refine ⟨_, ?_, _, .r (k := k + 1) (c := 97) hlt (by simpa using hcn) (by simp [Oth]), [], _, rfl, by simp [e1, ← hk2]⟩
                      omega
                  · rw [if_neg h3] at hk2
                    simp [hlt, e, hm, h3, wk]
                    by_cases hcn : canc s xs (k + 1) = true
                    · refine ⟨_, ?_, _, .d (k := k + 1) hlt hcn, [.view 7], _, (by simp [Prep.all, Prep.run]; rfl), by simp [e1, ← hk2]⟩
                      omega
                    · refine ⟨_, ?_, _, .r (k := k + 1) (c := 97) hlt (by simpa using hcn) (by simp [Oth]), [], _, rfl, by simp [e1, ← hk2]⟩
                      omega
                | cons w1 ws1 =>
                  obtain ⟨k1, k2⟩ := hk1 (by simp)
                  have hl1 : (0 : Int) < (ws1.length : Int) + 1 := by omega
                  have hl2 : ws1.length + 1 ≤ 64 := hwl
                  by_cases h3 : r.kind = 3
                  · rw [if_pos h3] at hk2
                    simp [hlt, e, hm, h3, hl1, wk]
                    by_cases hcn : canc s xs (k + 1) = true
                    · refine ⟨by omega, _, ?_, _, .d (k := k + 1) hlt hcn, [.view 7], _, (by simp [Prep.all, Prep.run]; rfl), by simp [e1, ← hk2]⟩
                      omega
                    · refine ⟨by omega, _, ?_, _, .r (k := k + 1) (c := 97) hlt (by simpa using hcn) (by simp [Oth]), [], _, rfl, by simp [e1, ← hk2]⟩
                      omega
                  · rw [if_neg h3] at hk2
                    simp [hlt, e, hm, h3, k1, k2, hl1, wk]
                    by_cases hcn : canc s xs (k + 1) = true
                    · refine ⟨_, ?_, _, .d (k := k + 1) hlt hcn, [.view 7], _, (by simp [Prep.all, Prep.run]; rfl), by simp [e1, ← hk2]⟩
                      omega
                    · refine ⟨_, ?_, _, .r (k := k + 1) (c := 97) hlt (by simpa using hcn) (by simp [Oth]), [], _, rfl, by simp [e1, ← hk2]⟩
                      omega
              · have h3 := hk3 hm
                have hm : ¬ x.what.tmod 12 < 4 := hm
                rw [if_neg h3] at hk2
                simp [hlt, e, hm, h3, wk]
                by_cases hcn : canc s xs (k + 1) = true
                · refine ⟨_, ?_, _, .d (k := k + 1) hlt hcn, [.view 7], _, (by simp [Prep.all, Prep.run]; rfl), by simp [e1, ← hk2]⟩
                  omega
                · refine ⟨_, ?_, _, .r (k := k + 1) (c := 97) hlt (by simpa using hcn) (by simp [Oth]), [], _, rfl, by simp [e1, ← hk2]⟩
                  omega
        · have hb := her.resolve_left he
          have b1 : t = stA s xs k := congrArg Prod.fst hb
          simp [he, wk]
          by_cases hcn : canc s xs (k + 1) = true
          · refine ⟨by kernel_rfl, _, ?_, _, .d (k := k + 1) hlt hcn, [.view 7], _, (by simp [Prep.all, Prep.run]; rfl), by simp [e1, b1]⟩
            omega
          · refine ⟨by kernel_rfl, _, ?_, _, .r (k := k + 1) (c := 7) hlt (by simpa using hcn) (by simp [Oth]), [], _, rfl, by simp [e1, b1]⟩
            omega
      · simp [hlt, e]
        refine effCall hd ?_
        by_cases he : er = 0
        · have h9 : ¬ x.m = 9 := fun h => by rw [h, he] at hc; simp at hc
          obtain ⟨⟨v, hv, hk1, hk3, hk2⟩⟩ := hor he
          dsimp only at hv hk1 hk2 hk3
          subst he
          have h9' : ¬ x.what.tmod 12 = 9 := h9
          rw [if_neg h9] at hv
          simp [h9', hlt, e]
          refine ⟨by kernel_rfl, ?_⟩
          generalize hw0e : wc (stA s xs k) = w0 at hv hw64 ⊢
          have hw0l := hw64
          refine vc_loop (IInv m q i a (stA s xs k) t r xs k es v 59) ?_ ?_
          · by_cases hz : nz es = true
            · exact ⟨_, _, .d (j := 0) (w := w0) (Nat.zero_le _) hw0l (by simpa using hv) (by simpa using hz), [.view 7], _, (by simp [Prep.all, Prep.run]; rfl), by simp⟩
            · exact ⟨_, _, .r (j := 0) (w := w0) (c := 59) (Nat.zero_le _) hw0l (by simpa using hv) (by simpa using hz) (.inl rfl), [], _, rfl, by simp⟩
          intro n σ hI
          cases hI with
          | @d j w hj hwl hvj hz =>
            have hlj : j < es.length := Classical.byContradiction fun h => by
              rw [List.drop_of_length_le (by omega)] at hz; cases hz
            obtain ⟨y, hy, ey⟩ := at_lt hlj
            have wj := wrap_succ hlj hln
            have hdj : es.drop j = y :: es.drop (j + 1) := by rw [List.drop_eq_getElem_cons hlj, ey]
            rw [hdj] at hvj hz
            cases hvj with
            | skip h1 h2 =>
              rw [nz_cons, h1] at hz
              simp [hlj, ey, h1, wj]
              refine ⟨_, ?_, _, .d (j := j + 1) (w := w) hlj hwl h2 (by simpa using hz), [], _, rfl, by simp⟩
              omega
            | late h1 h2 h3 h4 =>
              have hwm := without_m w y.call (by omega)
              have hwo := wo_len w y.call
              simp at hwm
              simp [hlj, ey, h1, h2, h3]
              refine ⟨by kernel_rfl, ?_⟩
              refine hwm.mono ?_
              rintro _ rfl
              simp [wj]
              by_cases hz2 : nz (es.drop (j + 1)) = true
              · refine ⟨_, ?_, _, .d (j := j + 1) (w := wo w y.call) hlj (by omega) h4 hz2, [.view 7], _, (by simp [Prep.all, Prep.run]; rfl), by simp⟩
                omega
              · refine ⟨_, ?_, _, .r (j := j + 1) (c := 97) (w := wo w y.call) hlj (by omega) h4 (by simpa using hz2) (.inr rfl), [], _, rfl, by simp⟩
                omega
            | @head w1 _ _ _ h1 h2 =>
              have hwm := without_m (y.call :: w1) y.call (by omega)
              have hwo := wo_len (y.call :: w1) y.call
              have hl1 : ¬ (w1.length : Int) + 1 = 0 := by omega
              simp at hwm
              by_cases k1 : y.kind = 1
              · simp [hlj, ey, h1, k1, hl1]
                refine ⟨by kernel_rfl, ?_⟩
                refine hwm.mono ?_
                rintro _ rfl
                simp [wj]
                by_cases hz2 : nz (es.drop (j + 1)) = true
                · refine ⟨_, ?_, _, .d (j := j + 1) (w := wo (y.call :: w1) y.call) hlj (by omega) h2 hz2, [.view 7], _, (by simp [Prep.all, Prep.run]; rfl), by simp⟩
                  omega
                · refine ⟨_, ?_, _, .r (j := j + 1) (c := 97) (w := wo (y.call :: w1) y.call) hlj (by omega) h2 (by simpa using hz2) (.inr rfl), [], _, rfl, by simp⟩
                  omega
              by_cases k2 : y.kind = 2
              · simp [hlj, ey, h1, k2, hl1]
                refine ⟨by kernel_rfl, ?_⟩
                refine hwm.mono ?_
                rintro _ rfl
                simp [wj]
                by_cases hz2 : nz (es.drop (j + 1)) = true
                · refine ⟨_, ?_, _, .d (j := j + 1) (w := wo (y.call :: w1) y.call) hlj (by omega) h2 hz2, [.view 7], _, (by simp [Prep.all, Prep.run]; rfl), by simp⟩
                  omega
                · refine ⟨_, ?_, _, .r (j := j + 1) (c := 97) (w := wo (y.call :: w1) y.call) hlj (by omega) h2 (by simpa using hz2) (.inr rfl), [], _, rfl, by simp⟩
                  omega
              · simp [hlj, ey, h1, k1, k2]
                refine ⟨by kernel_rfl, ?_⟩
                refine hwm.mono ?_
                rintro _ rfl
                simp [wj]
                by_cases hz2 : nz (es.drop (j + 1)) = true
                · refine ⟨_, ?_, _, .d (j := j + 1) (w := wo (y.call :: w1) y.call) hlj (by omega) h2 hz2, [.view 7], _, (by simp [Prep.all, Prep.run]; rfl), by simp⟩
                  omega
                · refine ⟨_, ?_, _, .r (j := j + 1) (c := 97) (w := wo (y.call :: w1) y.call) hlj (by omega) h2 (by simpa using hz2) (.inr rfl), [], _, rfl, by simp⟩
                  omega
          | @r j c2 w hj hwl hvj hz hcc =>
            rcases hcc with rfl | rfl
            · by_cases hlj : j < es.length
              · obtain ⟨y, hy, ey⟩ := at_lt hlj
                have wj := wrap_succ hlj hln
                have hdj : es.drop j = y :: es.drop (j + 1) := by rw [List.drop_eq_getElem_cons hlj, ey]
                rw [hdj] at hvj hz
                rw [nz_cons, Bool.or_eq_false_iff] at hz
                have h0 : y.call = 0 := by simpa using hz.1
                cases hvj with
                | late h1 => exact absurd h0 h1
                | head h1 => exact absurd h0 h1
                | skip h1 h2 =>
                  simp [hlj, ey, h1, wj]
                  refine ⟨_, ?_, _, .r (j := j + 1) (c := 59) (w := w) hlj hwl h2 hz.2 (by simp), [], _, rfl, by simp⟩
                  omega
              obtain rfl : j = es.length := by omega
              have hve : w = v := by rw [List.drop_length] at hvj; cases hvj; rfl
              subst hve
              by_cases hm : x.m < 4
              · have hk1 := hk1 hm
                have hm : x.what.tmod 12 < 4 := hm
                cases w with
                | nil =>
                  by_cases h3 : r.kind = 3
                  · rw [if_pos h3] at hk2
                    simp [hlt, e, hm, h3, wk]
                    by_cases hcn : canc s xs (k + 1) = true
                    · refine ⟨_, ?_, _, .d (k := k + 1) hlt hcn, [.view 7], _, (by simp [Prep.all, Prep.run]; rfl), by simp [e1, ← hk2]⟩
                      omega
                    · refine ⟨_, ?_, _, .r (k := k + 1) (c := 59) hlt (by simpa using hcn) (by simp [Oth]), [], _, rfl, by simp [e1, ← hk2]⟩
                      omega
                  · rw [if_neg h3] at hk2
                    simp [hlt, e, hm, h3, wk]
                    by_cases hcn : canc s xs (k + 1) = true
                    · refine ⟨_, ?_, _, .d (k := k + 1) hlt hcn, [.view 7], _, (by simp [Prep.all, Prep.run]; rfl), by simp [e1, ← hk2]⟩
                      omega
                    · refine ⟨_, ?_, _, .r (k := k + 1) (c := 59) hlt (by simpa using hcn) (by simp [Oth]), [], _, rfl, by simp [e1, ← hk2]⟩
                      omega
                | cons w1 ws1 =>
                  obtain ⟨k1, k2⟩ := hk1 (by simp)
                  have hl1 : (0 : Int) < (ws1.length : Int) + 1 := by omega
                  have hl2 : ws1.length + 1 ≤ 64 := hwl
                  by_cases h3 : r.kind = 3
                  · rw [if_pos h3] at hk2
                    simp [hlt, e, hm, h3, hl1, wk]
                    by_cases hcn : canc s xs (k + 1) = true
                    · refine ⟨by omega, _, ?_, _, .d (k := k + 1) hlt hcn, [.view 7], _, (by simp [Prep.all, Prep.run]; rfl), by simp [e1, ← hk2]⟩
                      omega
                    · refine ⟨by omega, _, ?_, _, .r (k := k + 1) (c := 59) hlt (by simpa using hcn) (by simp [Oth]), [], _, rfl, by simp [e1, ← hk2]⟩
                      omega
                  · rw [if_neg h3] at hk2
                    simp [hlt, e, hm, h3, k1, k2, hl1, wk]
                    by_cases hcn : canc s xs (k + 1) = true
                    · refine ⟨_, ?_, _, .d (k := k + 1) hlt hcn, [.view 7], _, (by simp [Prep.all, Prep.run]; rfl), by simp [e1, ← hk2]⟩
                      omega
                    · refine ⟨_, ?_, _, .r (k := k + 1) (c := 59) hlt (by simpa using hcn) (by simp [Oth]), [], _, rfl, by simp [e1, ← hk2]⟩
                      omega
              · have h3 := hk3 hm
                have hm : ¬ x.what.tmod 12 < 4 := hm
                rw [if_neg h3] at hk2
                simp [hlt, e, hm, h3, wk]
                by_cases hcn : canc s xs (k + 1) = true
                · refine ⟨_, ?_, _, .d (k := k + 1) hlt hcn, [.view 7], _, (by simp [Prep.all, Prep.run]; rfl), by simp [e1, ← hk2]⟩
                  omega
                · refine ⟨_, ?_, _, .r (k := k + 1) (c := 59) hlt (by simpa using hcn) (by simp [Oth]), [], _, rfl, by simp [e1, ← hk2]⟩
                  omega
            · by_cases hlj : j < es.length
              · obtain ⟨y, hy, ey⟩ := at_lt hlj
                have wj := wrap_succ hlj hln
                have hdj : es.drop j = y :: es.drop (j + 1) := by rw [List.drop_eq_getElem_cons hlj, ey]
                rw [hdj] at hvj hz
                rw [nz_cons, Bool.or_eq_false_iff] at hz
                have h0 : y.call = 0 := by simpa using hz.1
                cases hvj with
                | late h1 => exact absurd h0 h1
                | head h1 => exact absurd h0 h1
                | skip h1 h2 =>
                  simp [hlj, ey, h1, wj]
                  refine ⟨_, ?_, _, .r (j := j + 1) (c := 97) (w := w) hlj hwl h2 hz.2 (by simp), [], _, rfl, by simp⟩
                  omega
              obtain rfl : j = es.length := by omega
              have hve : w = v := by rw [List.drop_length] at hvj; cases hvj; rfl
              subst hve
              by_cases hm : x.m < 4
              · have hk1 := hk1 hm
                have hm : x.what.tmod 12 < 4 := hm
                cases w with
                | nil =>
                  by_cases h3 : r.kind = 3
                  · rw [if_pos h3] at hk2
                    simp [hlt, e, hm, h3, wk]
                    by_cases hcn : canc s xs (k + 1) = true
                    · refine ⟨_, ?_, _, .d (k := k + 1) hlt hcn, [.view 7], _, (by simp [Prep.all, Prep.run]; rfl), by simp [e1, ← hk2]⟩
                      omega
                    · refine ⟨_, ?_, _, .r (k := k + 1) (c := 97) hlt (by simpa using hcn) (by simp [Oth]), [], _, rfl, by simp [e1, ← hk2]⟩
                      omega
                  · rw [if_neg h3] at hk2
                    simp [hlt, e, hm, h3, wk]
                    by_cases hcn : canc s xs (k + 1) = true
                    · refine ⟨_, ?_, _, .d (k := k + 1) hlt hcn, [.view 7], _, (by simp [Prep.all, Prep.run]; rfl), by simp [e1, ← hk2]⟩
                      omega
                    · refine ⟨_, ?_, _, .r (k := k + 1) (c := 97) hlt (by simpa using hcn) (by simp [Oth]), [], _, rfl, by simp [e1, ← hk2]⟩
                      omega
                | cons w1 ws1 =>
                  obtain ⟨k1, k2⟩ := hk1 (by simp)
                  have hl1 : (0 : Int) < (ws1.length : Int) + 1 := by omega
                  have hl2 : ws1.length + 1 ≤ 64 := hwl
                  by_cases h3 : r.kind = 3
                  · rw [if_pos h3] at hk2
                    simp [hlt, e, hm, h3, hl1, wk]
                    by_cases hcn : canc s xs (k + 1) = true
                    · refine ⟨by omega, _, ?_, _, .d (k := k + 1) hlt hcn, [.view 7], _, (by simp [Prep.all, Prep.run]; rfl), by simp [e1, ← hk2]⟩
                      omega
                    · refine ⟨by omega, _, ?_, _, .r (k := k + 1) (c := 97) hlt (by simpa using hcn) (by simp [Oth]), [], _, rfl, by simp [e1, ← hk2]⟩
                      omega
                  · rw [if_neg h3] at hk2
                    simp [hlt, e, hm, h3, k1, k2, hl1, wk]
                    by_cases hcn : canc s xs (k + 1) = true
                    · refine ⟨_, ?_, _, .d (k := k + 1) hlt hcn, [.view 7], _, (by simp [Prep.all, Prep.run]; rfl), by simp [e1, ← hk2]⟩
                      omega
                    · refine ⟨_, ?_, _, .r (k := k + 1) (c := 97) hlt (by simpa using hcn) (by simp [Oth]), [], _, rfl, by simp [e1, ← hk2]⟩
                      omega
              · have h3 := hk3 hm
                have hm : ¬ x.what.tmod 12 < 4 := hm
                rw [if_neg h3] at hk2
                simp [hlt, e, hm, h3, wk]
                by_cases hcn : canc s xs (k + 1) = true
                · refine ⟨_, ?_, _, .d (k := k + 1) hlt hcn, [.view 7], _, (by simp [Prep.all, Prep.run]; rfl), by simp [e1, ← hk2]⟩
                  omega
                · refine ⟨_, ?_, _, .r (k := k + 1) (c := 97) hlt (by simpa using hcn) (by simp [Oth]), [], _, rfl, by simp [e1, ← hk2]⟩
                  omega
        · have hb := her.resolve_left he
          have b1 : t = stA s xs k := congrArg Prod.fst hb
          simp [he, wk]
          by_cases hcn : canc s xs (k + 1) = true
          · refine ⟨by kernel_rfl, _, ?_, _, .d (k := k + 1) hlt hcn, [.view 7], _, (by simp [Prep.all, Prep.run]; rfl), by simp [e1, b1]⟩
            omega
          · refine ⟨by kernel_rfl, _, ?_, _, .r (k := k + 1) (c := 59) hlt (by simpa using hcn) (by simp [Oth]), [], _, rfl, by simp [e1, b1]⟩
            omega
      · simp [hlt, e]
        refine effCall hd ?_
        by_cases he : er = 0
        · have h9 : ¬ x.m = 9 := fun h => by rw [h, he] at hc; simp at hc
          obtain ⟨⟨v, hv, hk1, hk3, hk2⟩⟩ := hor he
          dsimp only at hv hk1 hk2 hk3
          subst he
          have h9' : ¬ x.what.tmod 12 = 9 := h9
          rw [if_neg h9] at hv
          simp [h9', hlt, e]
          refine ⟨by kernel_rfl, ?_⟩
          generalize hw0e : wc (stA s xs k) = w0 at hv hw64 ⊢
          have hw0l := hw64
          refine vc_loop (IInv m q i a (stA s xs k) t r xs k es v 97) ?_ ?_
          · by_cases hz : nz es = true
            · exact ⟨_, _, .d (j := 0) (w := w0) (Nat.zero_le _) hw0l (by simpa using hv) (by simpa using hz), [.view 7], _, (by simp [Prep.all, Prep.run]; rfl), by simp⟩
            · exact ⟨_, _, .r (j := 0) (w := w0) (c := 97) (Nat.zero_le _) hw0l (by simpa using hv) (by simpa using hz) (.inl rfl), [], _, rfl, by simp⟩
          intro n σ hI
          cases hI with
          | @d j w hj hwl hvj hz =>
            have hlj : j < es.length := Classical.byContradiction fun h => by
              rw [List.drop_of_length_le (by omega)] at hz; cases hz
            obtain ⟨y, hy, ey⟩ := at_lt hlj
            have wj := wrap_succ hlj hln
            have hdj : es.drop j = y :: es.drop (j + 1) := by rw [List.drop_eq_getElem_cons hlj, ey]
            rw [hdj] at hvj hz
            cases hvj with
            | skip h1 h2 =>
              rw [nz_cons, h1] at hz
              simp [hlj, ey, h1, wj]
              refine ⟨_, ?_, _, .d (j := j + 1) (w := w) hlj hwl h2 (by simpa using hz), [], _, rfl, by simp⟩
              omega
            | late h1 h2 h3 h4 =>
              have hwm := without_m w y.call (by omega)
              have hwo := wo_len w y.call
              simp at hwm
              simp [hlj, ey, h1, h2, h3]
              refine ⟨by kernel_rfl, ?_⟩
              refine hwm.mono ?_
              rintro _ rfl
              simp [wj]
              by_cases hz2 : nz (es.drop (j + 1)) = true
              · refine ⟨_, ?_, _, .d (j := j + 1) (w := wo w y.call) hlj (by omega) h4 hz2, [.view 7], _, (by simp [Prep.all, Prep.run]; rfl), by simp⟩
                omega
              · refine ⟨_, ?_, _, .r (j := j + 1) (c := 97) (w := wo w y.call) hlj (by omega) h4 (by simpa using hz2) (.inr rfl), [], _, rfl, by simp⟩
                omega
            | @head w1 _ _ _ h1 h2 =>
              have hwm := without_m (y.call :: w1) y.call (by omega)
              have hwo := wo_len (y.call :: w1) y.call
              have hl1 : ¬ (w1.length : Int) + 1 = 0 := by omega
              simp at hwm
              by_cases k1 : y.kind = 1
              · simp [hlj, ey, h1, k1, hl1]
                refine ⟨by kernel_rfl, ?_⟩
                refine hwm.mono ?_
                rintro _ rfl
                simp [wj]
                by_cases hz2 : nz (es.drop (j + 1)) = true
                · refine ⟨_, ?_, _, .d (j := j + 1) (w := wo (y.call :: w1) y.call) hlj (by omega) h2 hz2, [.view 7], _, (by simp [Prep.all, Prep.run]; rfl), by simp⟩
                  omega
                · refine ⟨_, ?_, _, .r (j := j + 1) (c := 97) (w := wo (y.call :: w1) y.call) hlj (by omega) h2 (by simpa using hz2) (.inr rfl), [], _, rfl, by simp⟩
                  omega
              by_cases k2 : y.kind = 2
              · simp [hlj, ey, h1, k2, hl1]
                refine ⟨by kernel_rfl, ?_⟩
                refine hwm.mono ?_
                rintro _ rfl
                simp [wj]
                by_cases hz2 : nz (es.drop (j + 1)) = true
                · refine ⟨_, ?_, _, .d (j := j + 1) (w := wo (y.call :: w1) y.call) hlj (by omega) h2 hz2, [.view 7], _, (by simp [Prep.all, Prep.run]; rfl), by simp⟩
                  omega
                · refine ⟨_, ?_, _, .r (j := j + 1) (c := 97) (w := wo (y.call :: w1) y.call) hlj (by omega) h2 (by simpa using hz2) (.inr rfl), [], _, rfl, by simp⟩
                  omega
              · simp [hlj, ey, h1, k1, k2]
                refine ⟨by kernel_rfl, ?_⟩
                refine hwm.mono ?_
                rintro _ rfl
                simp [wj]
                by_cases hz2 : nz (es.drop (j + 1)) = true
                · refine ⟨_, ?_, _, .d (j := j + 1) (w := wo (y.call :: w1) y.call) hlj (by omega) h2 hz2, [.view 7], _, (by simp [Prep.all, Prep.run]; rfl), by simp⟩
                  omega
                · refine ⟨_, ?_, _, .r (j := j + 1) (c := 97) (w := wo (y.call :: w1) y.call) hlj (by omega) h2 (by simpa using hz2) (.inr rfl), [], _, rfl, by simp⟩
                  omega
          | @r j c2 w hj hwl hvj hz hcc =>
            rcases hcc with rfl | rfl
            · by_cases hlj : j < es.length
              · obtain ⟨y, hy, ey⟩ := at_lt hlj
                have wj := wrap_succ hlj hln
                have hdj : es.drop j = y :: es.drop (j + 1) := by rw [List.drop_eq_getElem_cons hlj, ey]
                rw [hdj] at hvj hz
                rw [nz_cons, Bool.or_eq_false_iff] at hz
                have h0 : y.call = 0 := by simpa using hz.1
                cases hvj with
                | late h1 => exact absurd h0 h1
                | head h1 => exact absurd h0 h1
                | skip h1 h2 =>
                  simp [hlj, ey, h1, wj]
                  refine ⟨_, ?_, _, .r (j := j + 1) (c := 97) (w := w) hlj hwl h2 hz.2 (by simp), [], _, rfl, by simp⟩
                  omega
              obtain rfl : j = es.length := by omega
              have hve : w = v := by rw [List.drop_length] at hvj; cases hvj; rfl
              subst hve
              by_cases hm : x.m < 4
              · have hk1 := hk1 hm
                have hm : x.what.tmod 12 < 4 := hm
                cases w with
                | nil =>
                  by_cases h3 : r.kind = 3
                  · rw [if_pos h3] at hk2
                    simp [hlt, e, hm, h3, wk]
                    by_cases hcn : canc s xs (k + 1) = true
                    · refine ⟨_, ?_, _, .d (k := k + 1) hlt hcn, [.view 7], _, (by simp [Prep.all, Prep.run]; rfl), by simp [e1, ← hk2]⟩
                      omega
                    · refine ⟨_, ?_, _, .r (k := k + 1) (c := 97) hlt (by simpa using hcn) (by simp [Oth]), [], _, rfl, by simp [e1, ← hk2]⟩
                      omega
                  · rw [if_neg h3] at hk2
                    simp [hlt, e, hm, h3, wk]
                    by_cases hcn : canc s xs (k + 1) = true
                    · refine ⟨_, ?_, _, .d (k := k + 1) hlt hcn, [.view 7], _, (by simp [Prep.all, Prep.run]; rfl), by simp [e1, ← hk2]⟩
                      omega
                    · refine ⟨_, ?_, _, .r (k := k + 1) (c := 97) hlt (by simpa using hcn) (by simp [Oth]), [], _, rfl, by simp [e1, ← hk2]⟩
                      omega
                | cons w1 ws1 =>
                  obtain ⟨k1, k2⟩ := hk1 (by simp)
                  have hl1 : (0 : Int) < (ws1.length : Int) + 1 := by omega
                  have hl2 : ws1.length + 1 ≤ 64 := hwl
                  by_cases h3 : r.kind = 3
                  · rw [if_pos h3] at hk2
                    simp [hlt, e, hm, h3, hl1, wk]
                    by_cases hcn : canc s xs (k + 1) = true
                    · refine ⟨by omega, _, ?_, _, .d (k := k + 1) hlt hcn, [.view 7], _, (by simp [Prep.all, Prep.run]; rfl), by simp [e1, ← hk2]⟩
                      omega
                    · refine ⟨by omega, _, ?_, _, .r (k := k + 1) (c := 97) hlt (by simpa using hcn) (by simp [Oth]), [], _, rfl, by simp [e1, ← hk2]⟩
                      omega
                  · rw [if_neg h3] at hk2
                    simp [hlt, e, hm, h3, k1, k2, hl1, wk]
                    by_cases hcn : canc s xs (k + 1) = true
                    · refine ⟨_, ?_, _, .d (k := k + 1) hlt hcn, [.view 7], _, (by simp [Prep.all, Prep.run]; rfl), by simp [e1, ← hk2]⟩
                      omega
                    · refine ⟨_, ?_, _, .r (k := k + 1) (c := 97) hlt (by simpa using hcn) (by simp [Oth]), [], _, rfl, by simp [e1, ← hk2]⟩
                      omega
              · have h3 := hk3 hm
                have hm : ¬ x.what.tmod 12 < 4 := hm
                rw [if_neg h3] at hk2
                simp [hlt, e, hm, h3, wk]
                by_cases hcn : canc s xs (k + 1) = true
                · refine ⟨_, ?_, _, .d (k := k + 1) hlt hcn, [.view 7], _, (by simp [Prep.all, Prep.run]; rfl), by simp [e1, ← hk2]⟩
                  omega
                · refine ⟨_, ?_, _, .r (k := k + 1) (c := 97) hlt (by simpa using hcn) (by simp [Oth]), [], _, rfl, by simp [e1, ← hk2]⟩
                  omega
            · by_cases hlj : j < es.length
              · obtain ⟨y, hy, ey⟩ := at_lt hlj
                have wj := wrap_succ hlj hln
                have hdj : es.drop j = y :: es.drop (j + 1) := by rw [List.drop_eq_getElem_cons hlj, ey]
                rw [hdj] at hvj hz
                rw [nz_cons, Bool.or_eq_false_iff] at hz
                have h0 : y.call = 0 := by simpa using hz.1
                cases hvj with
                | late h1 => exact absurd h0 h1
                | head h1 => exact absurd h0 h1
                | skip h1 h2 =>
                  simp [hlj, ey, h1, wj]
                  refine ⟨_, ?_, _, .r (j := j + 1) (c := 97) (w := w) hlj hwl h2 hz.2 (by simp), [], _, rfl, by simp⟩
                  omega
              obtain rfl : j = es.length := by omega
              have hve : w = v := by rw [List.drop_length] at hvj; cases hvj; rfl
              subst hve
              by_cases hm : x.m < 4
              · have hk1 := hk1 hm
                have hm : x.what.tmod 12 < 4 := hm
                cases w with
                | nil =>
                  by_cases h3 : r.kind = 3
                  · rw [if_pos h3] at hk2
                    simp [hlt, e, hm, h3, wk]
                    by_cases hcn : canc s xs (k + 1) = true
                    · refine ⟨_, ?_, _, .d (k := k + 1) hlt hcn, [.view 7], _, (by simp [Prep.all, Prep.run]; rfl), by simp [e1, ← hk2]⟩
                      omega
                    · refine ⟨_, ?_, _, .r (k := k + 1) (c := 97) hlt (by simpa using hcn) (by simp [Oth]), [], _, rfl, by simp [e1, ← hk2]⟩
                      omega
                  · rw [if_neg h3] at hk2
                    simp [hlt, e, hm, h3, wk]
                    by_cases hcn : canc s xs (k + 1) = true
                    · refine ⟨_, ?_, _, .d (k := k + 1) hlt hcn, [.view 7], _, (by simp [Prep.all, Prep.run]; rfl), by simp [e1, ← hk2]⟩
                      omega
                    · refine ⟨_, ?_, _, .r (k := k + 1) (c := 97) hlt (by simpa using hcn) (by simp [Oth]), [], _, rfl, by simp [e1, ← hk2]⟩
                      omega
                | cons w1 ws1 =>
                  obtain ⟨k1, k2⟩ := hk1 (by simp)
                  have hl1 : (0 : Int) < (ws1.length : Int) + 1 := by omega
                  have hl2 : ws1.length + 1 ≤ 64 := hwl
                  by_cases h3 : r.kind = 3
                  · rw [if_pos h3] at hk2
                    simp [hlt, e, hm, h3, hl1, wk]
                    by_cases hcn : canc s xs (k + 1) = true
                    · refine ⟨by omega, _, ?_, _, .d (k := k + 1) hlt hcn, [.view 7], _, (by simp [Prep.all, Prep.run]; rfl), by simp [e1, ← hk2]⟩
                      omega
                    · refine ⟨by omega, _, ?_, _, .r (k := k + 1) (c := 97) hlt (by simpa using hcn) (by simp [Oth]), [], _, rfl, by simp [e1, ← hk2]⟩
                      omega
                  · rw [if_neg h3] at hk2
                    simp [hlt, e, hm, h3, k1, k2, hl1, wk]
                    by_cases hcn : canc s xs (k + 1) = true
                    · refine ⟨_, ?_, _, .d (k := k + 1) hlt hcn, [.view 7], _, (by simp [Prep.all, Prep.run]; rfl), by simp [e1, ← hk2]⟩
                      omega
                    · refine ⟨_, ?_, _, .r (k := k + 1) (c := 97) hlt (by simpa using hcn) (by simp [Oth]), [], _, rfl, by simp [e1, ← hk2]⟩
                      omega
              · have h3 := hk3 hm
                have hm : ¬ x.what.tmod 12 < 4 := hm
                rw [if_neg h3] at hk2
                simp [hlt, e, hm, h3, wk]
                by_cases hcn : canc s xs (k + 1) = true
                · refine ⟨_, ?_, _, .d (k := k + 1) hlt hcn, [.view 7], _, (by simp [Prep.all, Prep.run]; rfl), by simp [e1, ← hk2]⟩
                  omega
                · refine ⟨_, ?_, _, .r (k := k + 1) (c := 97) hlt (by simpa using hcn) (by simp [Oth]), [], _, rfl, by simp [e1, ← hk2]⟩
                  omega
        · have hb := her.resolve_left he
          have b1 : t = stA s xs k := congrArg Prod.fst hb
          simp [he, wk]
          by_cases hcn : canc s xs (k + 1) = true
          · refine ⟨by kernel_rfl, _, ?_, _, .d (k := k + 1) hlt hcn, [.view 7], _, (by simp [Prep.all, Prep.run]; rfl), by simp [e1, b1]⟩
            omega
          · refine ⟨by kernel_rfl, _, ?_, _, .r (k := k + 1) (c := 97) hlt (by simpa using hcn) (by simp [Oth]), [], _, rfl, by simp [e1, b1]⟩
            omega
    · obtain rfl : k = xs.length := by omega
      have hwl : (wc (stA s xs xs.length)).length = (stA s xs xs.length).wt.ws.length := by rw [wc, List.length_map]
      rcases hcc with rfl | rfl | rfl
      · simp [hwl]
        refine shown_m.mono ?_
        rintro _ rfl
        simp
        exact vcRet_of [] (by simp) rfl
      · simp [hwl]
        refine shown_m.mono ?_
        rintro _ rfl
        simp
        exact vcRet_of [] (by simp) rfl
      · simp [hwl]
        refine shown_m.mono ?_
        rintro _ rfl
        simp
        exact vcRet_of [] (by simp) rfl
end Go.Proofs.YtajjmhpdiikjhaaGreat.Po
