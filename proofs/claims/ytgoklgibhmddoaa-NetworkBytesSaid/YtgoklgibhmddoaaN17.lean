/- Plain: network 17. No condition. -/
import Derived.Test.YtgoklgibhmddoaaN16
import Derived.Test.YtgoklgibhmddoaaN9
import Derived.Test.YtgoklgibhmddoaaN8
import Derived.Test.YtgoklgibhmddoaaN15
namespace Go.Proofs.Ytgoklgibhmddoaa

structure To where
  y : Nat → List Int
  o : Nat → Bool
def To.add (T : To) (i : Nat) (b : List Int) : To := ⟨fun j => if j = i then T.y i ++ b else T.y j, T.o⟩
def To.mark (T : To) (i : Nat) (v : Bool) : To := ⟨T.y, fun j => if j = i then v else T.o j⟩
theorem To.add_at (T : To) (i : Nat) (b : List Int) : (T.add i b).y i = T.y i ++ b := if_pos rfl
theorem To.add_ne (T : To) {i j : Nat} (b : List Int) (h : j ≠ i) : (T.add i b).y j = T.y j := if_neg h
theorem To.add_nil (T : To) (i : Nat) : T.add i [] = T := by
  obtain ⟨y, o⟩ := T
  unfold To.add
  congr 1
  funext j
  by_cases h : j = i
  · subst h; simp
  · simp [h]
def flat (l : List Pc) : List Int := l.flatMap Pc.bytes
theorem flat_app (a b : List Pc) : flat (a ++ b) = flat a ++ flat b := by simp [flat]
structure CInv (T : To) (c : Cn) : Prop where
  w : T.y c.id.toNat = T.y (200 + c.id.toNat) ++ (c.up.ar ++ flat c.up.ps)
  se : c.sent = (T.y c.id.toNat).length
  p : c.status ≠ 3 → c.dn.d ≠ 2 → T.y (100 + c.id.toNat) = T.y (300 + c.id.toNat) ++ (c.dn.ar ++ flat c.dn.ps)
  ov : T.o (400 + c.id.toNat) = true → c.status = 3 ∨ (c.status = 1 ∧ c.dn.ar = [] ∧ c.dn.d ≠ 0)
structure TInv (k : Nat) (s : Nw) (T : To) : Prop where
  ci : ∀ c ∈ s.conns, c.id < 100 → CInv T c
  pw : ∀ i, i < 100 → T.y (200 + i) <+: T.y i
  pr : ∀ i, i < 100 → T.y (300 + i) <+: T.y (100 + i)
  em : ∀ i : Nat, s.next ≤ i → i < 100 → T.y i = [] ∧ T.y (100 + i) = [] ∧ T.y (200 + i) = [] ∧ T.y (300 + i) = [] ∧ T.o (400 + i) = false
  ln : ∀ i, i < 200 → (T.y i).length ≤ 200 * k
theorem idx_spec {α : Type} (p : α → Bool) : ∀ (l : List α) (k : Int), 0 ≤ k → 0 ≤ idx p l k → ∃ x, l[(idx p l k - k).toNat]? = some x ∧ p x = true ∧ k ≤ idx p l k
  | [], k, _, h => by simp [idx] at h
  | x :: l, k, hk, h => by
    unfold idx at h ⊢
    by_cases hp : p x = true
    · rw [if_pos hp]; exact ⟨x, by simp, hp, Int.le_refl _⟩
    · rw [if_neg hp] at h ⊢
      obtain ⟨z, h1, h2, h3⟩ := idx_spec p l (k + 1) (by omega) h
      refine ⟨z, ?_, h2, by omega⟩
      rw [show (idx p l (k + 1) - k).toNat = (idx p l (k + 1) - (k + 1)).toNat + 1 by omega, List.getElem?_cons_succ]
      exact h1
theorem AtC.nid {s : Nw} {n : Int} {c : Cn} {p : Pl} (A : AtC s n c p) : c.id = n := by
  have h := A.fe
  have hg := A.get
  unfold findE at h hg
  rw [if_neg (by simp [A.ck])] at h hg
  split at h
  · exact absurd h (by decide)
  · rename_i h1
    rw [if_neg h1] at hg
    obtain ⟨x, h2, h3, _⟩ := idx_spec (fun c : Cn => decide (c.id = n)) s.conns 0 (Int.le_refl _) (by omega)
    rw [Int.sub_zero] at h2
    have hg : s.conns[(idx (fun c : Cn => decide (c.id = n)) s.conns 0).toNat]? = some c := hg
    rw [h2] at hg
    cases hg
    simpa using h3
theorem change_cases {s : Nw} (hf : Fits s) (n : Int) (st : List Int) (F : Cn → Pl → Int × Cn) :
    (∃ e, e ≠ 0 ∧ changeS s n st F = (s, e)) ∨ ∃ c p, AtC s n c p ∧ c.status ∈ st ∧ (F c p).1 = 0 ∧ changeS s n st F = (⟨s.now, s.next, s.plans, s.conns.set (findE s n).1.toNat (F c p).2⟩, 0) := by
  by_cases h1 : (findE s n).2 = 0
  · obtain ⟨c, p, A⟩ := at_of hf h1
    by_cases h2 : c.status ∈ st
    · by_cases h3 : (F c p).1 = 0
      · exact .inr ⟨c, p, A, h2, h3, by rw [changeS_ok h1 (by rw [A.cn]; exact h2) (by rw [A.cn, A.pl]; exact h3), A.cn, A.pl]⟩
      · exact .inl ⟨(F c p).1, h3, by rw [changeS_err h1 (by rw [A.cn]; exact h2) (by rw [A.cn, A.pl]; exact h3), A.cn, A.pl]⟩
    · exact .inl ⟨9, by decide, changeS_down h1 (by rw [A.cn]; exact h2)⟩
  · exact .inl ⟨(findE s n).2, h1, by unfold changeS; rw [if_pos h1]⟩
theorem asc_lt : ∀ {l : List Int} {b : Int}, asc b l → ∀ x ∈ l, b < x
  | [], _, _, x, hx => by cases hx
  | y :: l, b, h, x, hx => by
    rcases List.mem_cons.1 hx with rfl | hx
    · exact h.1
    · have h1 := asc_lt h.2 x hx
      have h2 := h.1
      omega
theorem asc_inj : ∀ {l : List Cn} {b : Int}, asc b (l.map Cn.id) → ∀ {i j : Nat} {c d : Cn}, l[i]? = some c → l[j]? = some d → c.id = d.id → i = j
  | [], _, _, i, j, c, d, hi, _, _ => by simp at hi
  | x :: l, b, h, 0, 0, c, d, hi, hj, e => rfl
  | x :: l, b, h, 0, j + 1, c, d, hi, hj, e => by
    cases hi
    have := asc_lt h.2 d.id (List.mem_map_of_mem (List.mem_of_getElem? (by simpa using hj)))
    omega
  | x :: l, b, h, i + 1, 0, c, d, hi, hj, e => by
    cases hj
    have := asc_lt h.2 c.id (List.mem_map_of_mem (List.mem_of_getElem? (by simpa using hi)))
    omega
  | x :: l, b, h, i + 1, j + 1, c, d, hi, hj, e => by
    have := asc_inj h.2 (i := i) (j := j) (by simpa using hi) (by simpa using hj) e
    omega
/-- One connection, and what is noted of it, have changed. -/
theorem tinv_set {k : Nat} {s : Nw} {T T' : To} {n : Int} {c c' : Cn} {p : Pl} (h : TInv k s T) (hok : NOk s) (A : AtC s n c p) (hn : 1 ≤ n ∧ n ≤ 99) (hid : c'.id = c.id)
    (hT : ∀ i, i < 100 → i ≠ n.toNat → T'.y i = T.y i ∧ T'.y (100 + i) = T.y (100 + i) ∧ T'.y (200 + i) = T.y (200 + i) ∧ T'.y (300 + i) = T.y (300 + i) ∧ T'.o (400 + i) = T.o (400 + i))
    (hC : CInv T' c') (hpr : T'.y (300 + n.toNat) <+: T'.y (100 + n.toNat)) (hl : (T'.y n.toNat).length ≤ 200 * (k + 1) ∧ (T'.y (100 + n.toNat)).length ≤ 200 * (k + 1)) :
    TInv (k + 1) ⟨s.now, s.next, s.plans, s.conns.set (findE s n).1.toNat c'⟩ T' := by
  have hcid := A.nid
  have hnlt : n.toNat < 100 := by omega
  have hcok := hok.cs c (List.mem_of_getElem? A.get)
  refine ⟨fun d hd hdl => ?_, fun i hi => ?_, fun i hi => ?_, fun i hi1 hi2 => ?_, fun i hi => ?_⟩
  · obtain ⟨j, hj⟩ := List.getElem?_of_mem hd
    have hj : (s.conns.set (findE s n).1.toNat c')[j]? = some d := hj
    rw [List.getElem?_set] at hj
    split at hj
    · split at hj
      · cases hj; exact hC
      · cases hj
    · rename_i hne
      have hdn : d.id ≠ n := fun e => hne (asc_inj hok.ids A.get hj (by rw [hcid, e]))
      have hd0 := (hok.cs d (List.mem_of_getElem? hj)).id.1
      have hci := h.ci d (List.mem_of_getElem? hj) hdl
      obtain ⟨e1, e2, e3, e4, e5⟩ := hT d.id.toNat (by omega) (by omega)
      exact ⟨by rw [e1, e3]; exact hci.w, by rw [e1]; exact hci.se, fun a b => by rw [e2, e4]; exact hci.p a b, fun a => hci.ov (by rw [← e5]; exact a)⟩
  · by_cases e : i = n.toNat
    · subst e
      have := hC.w
      rw [hid, hcid] at this
      rw [this]; exact List.prefix_append _ _
    · obtain ⟨e1, e2, e3, e4, e5⟩ := hT i hi e
      rw [e1, e3]; exact h.pw i hi
  · by_cases e : i = n.toNat
    · subst e; exact hpr
    · obtain ⟨e1, e2, e3, e4, e5⟩ := hT i hi e
      rw [e2, e4]; exact h.pr i hi
  · have hx := hcok.id.2
    have hi1 : s.next ≤ (i : Int) := hi1
    have e : i ≠ n.toNat := by omega
    obtain ⟨e1, e2, e3, e4, e5⟩ := hT i hi2 e
    rw [e1, e2, e3, e4, e5]
    exact h.em i hi1 hi2
  · have hg : ∀ j, (T'.y j = T.y j) → j < 200 → (T'.y j).length ≤ 200 * (k + 1) := fun j e hj => by
      have := h.ln j hj
      rw [e]; omega
    by_cases h1 : i < 100
    · by_cases e : i = n.toNat
      · subst e; exact hl.1
      · exact hg i (hT i h1 e).1 hi
    · obtain ⟨j, rfl⟩ : ∃ j, i = 100 + j := ⟨i - 100, by omega⟩
      by_cases e : j = n.toNat
      · subst e; exact hl.2
      · exact hg _ (hT j (by omega) e).2.1 hi
theorem TInv.more {k : Nat} {s : Nw} {T : To} (h : TInv k s T) : TInv (k + 1) s T := ⟨h.ci, h.pw, h.pr, h.em, fun i hi => by have := h.ln i hi; omega⟩
end Go.Proofs.Ytgoklgibhmddoaa
namespace Go.Proofs.Ytgoklgibhmddoaa

def least_ (a b : Int) : Int := min (max a 0) b
/-- An act, and what is noted of it. -/
def actS (s : Nw) (T : To) (x : Ac) : Nw × To :=
  if x.conn < 1 ∨ 99 < x.conn then (s, T)
  else if x.what % 14 = 4 ∨ x.what % 14 = 5 then (if (writeS s x.conn x.b).2.2 ≠ 0 then (s, T) else ((writeS s x.conn x.b).1, T.add x.conn.toNat (x.b.take (writeS s x.conn x.b).2.1.toNat)))
  else if x.what % 14 = 6 then ((readS s x.conn (least_ x.n 500)).1, (T.add (300 + x.conn.toNat) (readS s x.conn (least_ x.n 500)).2.1).mark (400 + x.conn.toNat) (T.o (400 + x.conn.toNat) || (decide ((readS s x.conn (least_ x.n 500)).2.2 = 121) || decide ((readS s x.conn (least_ x.n 500)).2.2 = 120))))
  else if x.what % 14 = 8 then ((takeS s x.conn).1, T.add (200 + x.conn.toNat) (takeS s x.conn).2.1)
  else if x.what % 14 = 9 ∨ x.what % 14 = 10 then (if (putS s x.conn x.b (least_ x.n 100)).2 = 0 then ((putS s x.conn x.b (least_ x.n 100)).1, T.add (100 + x.conn.toNat) x.b) else ((putS s x.conn x.b (least_ x.n 100)).1, T))
  else (doS s x, T)
theorem add_far (T : To) {i j : Nat} (b : List Int) (h : j ≠ i) : (T.add i b).y j = T.y j := T.add_ne b h
section
variable {k : Nat} {s : Nw} {T : To} {n : Int}
theorem write_law (h : TInv k s T) (hok : NOk s) (hn : 1 ≤ n ∧ n ≤ 99) {b : List Int} (hb : b.length ≤ 200) :
    ((writeS s n b).2.2 ≠ 0 → (writeS s n b).2.1 = 0) ∧ ((writeS s n b).2.2 = 0 → (0 ≤ (writeS s n b).2.1 ∧ (writeS s n b).2.1 ≤ b.length) ∧ TInv (k + 1) (writeS s n b).1 (T.add n.toNat (b.take (writeS s n b).2.1.toNat))) := by
  have hck := nok_iff.2 hok
  have hf := fits_of hck
  rcases change_cases hf n [1] (fun c p => ((writeF s.now b c p).1, (writeF s.now b c p).2.2)) with ⟨e, he, h1⟩ | ⟨c, p, A, hs, h0, h1⟩
  · unfold writeS
    rw [h1]
    exact ⟨fun _ => if_neg he, fun h2 => absurd h2 he⟩
  · have hs1 := List.mem_singleton.1 hs
    have h0 : (writeF s.now b c p).1 = 0 := h0
    unfold writeS
    rw [h1, A.cn, A.pl]
    refine ⟨fun h2 => absurd rfl h2, fun _ => ?_⟩
    dsimp only
    rw [if_pos rfl]
    have hci := h.ci c (List.mem_of_getElem? A.get) (by rw [A.nid]; omega)
    have hcid := A.nid
    have hm0 : 0 ≤ manyW b c p := by unfold manyW roomW; omega
    have hmb : manyW b c p ≤ b.length := by unfold manyW; omega
    have hw : (writeF s.now b c p).2.1 = manyW b c p ∧ (writeF s.now b c p).2.2 = { c with sent := c.sent + manyW b c p, up := if 0 < b.length then upSend s.now b c p else c.up } := by
      unfold writeF at h0 ⊢
      by_cases e1 : c.dn.d = 2
      · rw [if_pos e1] at h0; exact absurd h0 (show ¬ (120 : Int) = 0 by decide)
      · by_cases e2 : roomW c p = 0 ∧ 0 < b.length
        · rw [if_neg e1, if_pos e2] at h0; exact absurd h0 (show ¬ (10 : Int) = 0 by decide)
        · by_cases e3 : 1048576 < c.up.n + manyW b c p ∨ 1000000000000000 < c.sent + manyW b c p
          · rw [if_neg e1, if_neg e2, if_pos e3] at h0; exact absurd h0 (show ¬ (3 : Int) = 0 by decide)
          · rw [if_neg e1, if_neg e2, if_neg e3]; exact ⟨rfl, rfl⟩
    rw [hw.1, hw.2]
    refine ⟨⟨hm0, hmb⟩, ?_⟩
    have hln := h.ln n.toNat (by omega)
    have hln2 := h.ln (100 + n.toNat) (by omega)
    have htl : (b.take (manyW b c p).toNat).length = (manyW b c p).toNat := by rw [List.length_take]; omega
    refine tinv_set h hok A hn rfl (fun i hi hne => ⟨T.add_ne _ (by omega), T.add_ne _ (by omega), T.add_ne _ (by omega), T.add_ne _ (by omega), rfl⟩) ?_ ?_ ?_
    · refine ⟨?_, ?_, fun a1 a2 => ?_, fun a => ?_⟩
      · show (T.add n.toNat _).y c.id.toNat = (T.add n.toNat _).y (200 + c.id.toNat) ++ ((if 0 < b.length then upSend s.now b c p else c.up : Dr).ar ++ flat (if 0 < b.length then upSend s.now b c p else c.up : Dr).ps)
        have hw := hci.w
        rw [hcid] at hw ⊢
        rw [T.add_at, T.add_ne _ (by omega), hw]
        by_cases b0 : 0 < b.length
        · rw [if_pos b0]
          show _ = _ ++ (c.up.ar ++ flat (c.up.ps ++ [⟨c.up.last s.now p.delay, b.take (manyW b c p).toNat⟩]))
          rw [flat_app]
          simp [flat, List.append_assoc]
        · rw [if_neg b0]
          have : b = [] := List.length_eq_zero_iff.1 (by omega)
          simp [this]
      · show c.sent + manyW b c p = ((T.add n.toNat _).y c.id.toNat).length
        rw [hcid, T.add_at, List.length_append, htl]
        have := hci.se
        rw [hcid] at this
        omega
      · show (T.add n.toNat _).y (100 + c.id.toNat) = (T.add n.toNat _).y (300 + c.id.toNat) ++ (c.dn.ar ++ flat c.dn.ps)
        rw [T.add_ne _ (by omega), T.add_ne _ (by omega)]
        exact hci.p a1 a2
      · exact hci.ov a
    · rw [T.add_ne _ (by omega), T.add_ne _ (by omega)]
      exact h.pr _ (by omega)
    · rw [T.add_at, T.add_ne _ (by omega), List.length_append, htl]
      omega
theorem read_law (h : TInv k s T) (hok : NOk s) (hn : 1 ≤ n ∧ n ≤ 99) (m : Int) (v : Bool) (hv : v = (T.o (400 + n.toNat) || (decide ((readS s n m).2.2 = 121) || decide ((readS s n m).2.2 = 120)))) :
    ((readS s n m).2.2 = 121 → T.y (300 + n.toNat) ++ (readS s n m).2.1 = T.y (100 + n.toNat)) ∧ ((readS s n m).2.2 ≠ 0 → (readS s n m).2.1 = []) ∧ (T.o (400 + n.toNat) = true → (readS s n m).2.2 ≠ 0) ∧
    TInv (k + 1) (readS s n m).1 ((T.add (300 + n.toNat) (readS s n m).2.1).mark (400 + n.toNat) v) := by
  have hck := nok_iff.2 hok
  have hf := fits_of hck
  have hl1 := h.ln n.toNat (by omega)
  have hl2 := h.ln (100 + n.toNat) (by omega)
  by_cases hfe : (findE s n).2 = 0
  case neg =>
    have h4 := find_err hck hfe
    rw [read_none hfe, h4] at hv ⊢
    have hv' : v = T.o (400 + n.toNat) := by rw [hv]; simp
    refine ⟨fun e => absurd e (show ¬ (4 : Int) = 121 by decide), fun _ => rfl, fun _ => (show (4 : Int) ≠ 0 by decide), ?_⟩
    have : (T.add (300 + n.toNat) []).mark (400 + n.toNat) v = T := by
      rw [T.add_nil, hv']
      obtain ⟨y, o⟩ := T
      unfold To.mark
      congr 1
      funext j
      by_cases hj : j = 400 + n.toNat
      · subst hj; simp
      · simp [hj]
    show TInv (k + 1) s _
    rw [this]; exact h.more
  obtain ⟨c, p, A⟩ := at_of hf hfe
  have hcid := A.nid
  have hci := h.ci c (List.mem_of_getElem? A.get) (by rw [hcid]; omega)
  have hcok := hok.cs c (List.mem_of_getElem? A.get)
  by_cases hs : c.status = 1
  case neg =>
    rw [read_down hfe (by rw [A.cn]; exact hs)] at hv ⊢
    have hv' : v = T.o (400 + n.toNat) := by rw [hv]; simp
    refine ⟨fun e => absurd e (show ¬ (9 : Int) = 121 by decide), fun _ => rfl, fun _ => (show (9 : Int) ≠ 0 by decide), ?_⟩
    have : (T.add (300 + n.toNat) []).mark (400 + n.toNat) v = T := by
      rw [T.add_nil, hv']
      obtain ⟨y, o⟩ := T
      unfold To.mark
      congr 1
      funext j
      by_cases hj : j = 400 + n.toNat
      · subst hj; simp
      · simp [hj]
    show TInv (k + 1) s _
    rw [this]; exact h.more
  have hkeep : ∀ (b : List Int) (i : Nat), i < 100 → i ≠ n.toNat → ((T.add (300 + n.toNat) b).mark (400 + n.toNat) v).y i = T.y i ∧ ((T.add (300 + n.toNat) b).mark (400 + n.toNat) v).y (100 + i) = T.y (100 + i) ∧ ((T.add (300 + n.toNat) b).mark (400 + n.toNat) v).y (200 + i) = T.y (200 + i) ∧
      ((T.add (300 + n.toNat) b).mark (400 + n.toNat) v).y (300 + i) = T.y (300 + i) ∧ ((T.add (300 + n.toNat) b).mark (400 + n.toNat) v).o (400 + i) = T.o (400 + i) := fun b i hi hne =>
    ⟨T.add_ne _ (by omega), T.add_ne _ (by omega), T.add_ne _ (by omega), T.add_ne _ (by omega), if_neg (by omega)⟩
  by_cases h1 : m < 1
  · have hr : readF m c = (7, [], c) := by unfold readF; rw [if_pos h1]
    have hrs : readS s n m = (s, [], 7) := by
      unfold readS
      rw [changeS_err hfe (by rw [A.cn]; simp [hs]) (by rw [A.cn]; simp only [hr]; decide), A.cn]
      simp [hr]
    rw [hrs] at hv ⊢
    have hv' : v = T.o (400 + n.toNat) := by rw [hv]; simp
    refine ⟨fun e => absurd e (show ¬ (7 : Int) = 121 by decide), fun _ => rfl, fun _ => (show (7 : Int) ≠ 0 by decide), ?_⟩
    have : (T.add (300 + n.toNat) []).mark (400 + n.toNat) v = T := by
      rw [T.add_nil, hv']
      obtain ⟨y, o⟩ := T
      unfold To.mark
      congr 1
      funext j
      by_cases hj : j = 400 + n.toNat
      · subst hj; simp
      · simp [hj]
    show TInv (k + 1) s _
    rw [this]; exact h.more
  have h0 := rS_zero A
  by_cases h2 : 0 < c.dn.ar.length
  · have hit := read_hit hok A (k := 0) hs h2 (m := m) (by omega)
    rw [h0] at hit
    generalize (min m (c.dn.ar.length - 0 : Nat)).toNat = j at hit
    rw [Nat.zero_add, List.drop_zero] at hit
    rw [hit] at hv ⊢
    have hnd : c.dn.d ≠ 2 := fun e => by have := hcok.rst e; rw [this] at h2; simp at h2
    have hp := hci.p (by omega) hnd
    have hov : T.o (400 + n.toNat) = false := by
      cases hx : T.o (400 + n.toNat)
      · rfl
      · rcases hci.ov (by rw [hcid]; exact hx) with h5 | h5
        · omega
        · rw [h5.2.1] at h2; simp at h2
    rw [hcid] at hp
    refine ⟨fun e => absurd e (show ¬ (0 : Int) = 121 by decide), fun e => absurd rfl e, (fun e => by rw [hov] at e; cases e), ?_⟩
    refine tinv_set h hok A hn rfl (hkeep _) ⟨?_, ?_, fun a1 a2 => ?_, fun a => ?_⟩ ?_ ?_
    · have := hci.w
      show (T.add (300 + n.toNat) _).y c.id.toNat = (T.add (300 + n.toNat) _).y (200 + c.id.toNat) ++ (c.up.ar ++ flat c.up.ps)
      rw [T.add_ne _ (by omega), T.add_ne _ (by omega)]
      exact this
    · show c.sent = ((T.add (300 + n.toNat) _).y c.id.toNat).length
      have := hci.se
      rw [T.add_ne _ (by omega)]
      exact this
    · show (T.add (300 + n.toNat) _).y (100 + c.id.toNat) = (T.add (300 + n.toNat) _).y (300 + c.id.toNat) ++ (c.dn.ar.drop j ++ flat c.dn.ps)
      rw [hcid, T.add_ne _ (by omega), T.add_at, hp, List.append_assoc, ← List.append_assoc (c.dn.ar.take j), List.take_append_drop]
    · have a : (if 400 + c.id.toNat = 400 + n.toNat then v else T.o (400 + c.id.toNat)) = true := a
      rw [hcid, if_pos rfl, hv, hov] at a
      simp at a
    · show (T.add (300 + n.toNat) _).y (300 + n.toNat) <+: (T.add (300 + n.toNat) _).y (100 + n.toNat)
      rw [T.add_at, T.add_ne _ (by omega), hp]
      refine (List.prefix_append_right_inj _).2 ?_
      exact (List.take_prefix j c.dn.ar).trans (List.prefix_append _ _)
    · show ((T.add (300 + n.toNat) _).y n.toNat).length ≤ 200 * (k + 1) ∧ ((T.add (300 + n.toNat) _).y (100 + n.toNat)).length ≤ 200 * (k + 1)
      rw [T.add_ne _ (by omega), T.add_ne _ (by omega)]
      omega
  · have har : c.dn.ar = [] := List.length_eq_zero_iff.1 (by omega)
    have hit := read_miss hok A (k := 0) hs (by omega) (m := m) (by omega)
    rw [h0] at hit
    rw [hit] at hv ⊢
    have hw0 : wantE c ≠ 0 := by unfold wantE; split <;> (try split) <;> decide
    have hset : s = ⟨s.now, s.next, s.plans, s.conns.set (findE s n).1.toNat c⟩ := by rw [set_same A.get]
    refine ⟨fun e => ?_, fun _ => rfl, fun _ => hw0, ?_⟩
    · have hd1 : c.dn.d = 1 := by
        have e : wantE c = 121 := e
        unfold wantE at e
        split at e
        · assumption
        · split at e
          · exact absurd e (by decide)
          · exact absurd e (by decide)
      have hp := hci.p (by omega) (by omega)
      rw [hcid, har] at hp
      rcases hcok.dn.fin with h5 | h5
      · omega
      · rw [hp, h5.1]; simp [flat]
    · show TInv (k + 1) s _
      rw [hset]
      refine tinv_set h hok A hn rfl (hkeep _) ⟨?_, ?_, fun a1 a2 => ?_, fun a => ?_⟩ ?_ ?_
      · show (T.add (300 + n.toNat) _).y c.id.toNat = (T.add (300 + n.toNat) _).y (200 + c.id.toNat) ++ (c.up.ar ++ flat c.up.ps)
        rw [T.add_ne _ (by omega), T.add_ne _ (by omega)]
        exact hci.w
      · show c.sent = ((T.add (300 + n.toNat) _).y c.id.toNat).length
        rw [T.add_ne _ (by omega)]
        exact hci.se
      · show (T.add (300 + n.toNat) []).y (100 + c.id.toNat) = (T.add (300 + n.toNat) []).y (300 + c.id.toNat) ++ (c.dn.ar ++ flat c.dn.ps)
        rw [T.add_nil]
        exact hci.p a1 a2
      · right
        refine ⟨hs, har, ?_⟩
        have a : (if 400 + c.id.toNat = 400 + n.toNat then v else T.o (400 + c.id.toNat)) = true := a
        rw [hcid, if_pos rfl, hv] at a
        simp only [Bool.or_eq_true, decide_eq_true_eq] at a
        rcases a with a | a | a
        · rcases hci.ov (by rw [hcid]; exact a) with h5 | h5
          · omega
          · exact h5.2.2
        · have a : wantE c = 121 := a
          intro e; unfold wantE at a; rw [if_neg (by omega), if_neg (by omega)] at a; exact absurd a (by decide)
        · have a : wantE c = 120 := a
          intro e; unfold wantE at a; rw [if_neg (by omega), if_neg (by omega)] at a; exact absurd a (by decide)
      · show (T.add (300 + n.toNat) []).y (300 + n.toNat) <+: (T.add (300 + n.toNat) []).y (100 + n.toNat)
        rw [T.add_nil]
        exact h.pr _ (by omega)
      · show ((T.add (300 + n.toNat) _).y n.toNat).length ≤ 200 * (k + 1) ∧ ((T.add (300 + n.toNat) _).y (100 + n.toNat)).length ≤ 200 * (k + 1)
        rw [T.add_ne _ (by omega), T.add_ne _ (by omega)]
        omega
theorem take_law (h : TInv k s T) (hok : NOk s) (hn : 1 ≤ n ∧ n ≤ 99) :
    ((takeS s n).2.2.2 ≠ 0 ∨ (takeS s n).2.2.1 = 0 ∨ T.y (200 + n.toNat) ++ (takeS s n).2.1 = T.y n.toNat) ∧ TInv (k + 1) (takeS s n).1 (T.add (200 + n.toNat) (takeS s n).2.1) := by
  have hck := nok_iff.2 hok
  have hf := fits_of hck
  have hl1 := h.ln n.toNat (by omega)
  have hl2 := h.ln (100 + n.toNat) (by omega)
  rcases change_cases hf n [1, 3] (fun c _ => (0, takeF c)) with ⟨e, he, h1⟩ | ⟨c, p, A, hs, _, h1⟩
  · unfold takeS
    rw [h1]
    dsimp only
    rw [if_neg he, if_neg he, T.add_nil]
    exact ⟨.inl he, h.more⟩
  · unfold takeS
    rw [h1, A.cn]
    dsimp only
    rw [if_pos rfl, if_pos rfl]
    have hcid := A.nid
    have hci := h.ci c (List.mem_of_getElem? A.get) (by rw [hcid]; omega)
    have hcok := hok.cs c (List.mem_of_getElem? A.get)
    have hw := hci.w
    rw [hcid] at hw
    refine ⟨.inr ?_, ?_⟩
    · rcases hcok.up.fin with h5 | h5
      · exact .inl h5
      · right
        rw [hw, h5.1]; simp [flat]
    · refine tinv_set h hok A hn rfl (fun i hi hne => ⟨T.add_ne _ (by omega), T.add_ne _ (by omega), T.add_ne _ (by omega), T.add_ne _ (by omega), rfl⟩) ⟨?_, ?_, fun a1 a2 => ?_, fun a => ?_⟩ ?_ ?_
      · show (T.add (200 + n.toNat) _).y c.id.toNat = (T.add (200 + n.toNat) _).y (200 + c.id.toNat) ++ ([] ++ flat c.up.ps)
        rw [hcid, T.add_ne _ (by omega), T.add_at, hw]
        simp [List.append_assoc]
      · show c.sent = ((T.add (200 + n.toNat) _).y c.id.toNat).length
        rw [T.add_ne _ (by omega)]; exact hci.se
      · show (T.add (200 + n.toNat) _).y (100 + c.id.toNat) = (T.add (200 + n.toNat) _).y (300 + c.id.toNat) ++ (c.dn.ar ++ flat c.dn.ps)
        rw [T.add_ne _ (by omega), T.add_ne _ (by omega)]
        exact hci.p a1 a2
      · exact hci.ov a
      · rw [T.add_ne _ (by omega), T.add_ne _ (by omega)]
        exact h.pr _ (by omega)
      · rw [T.add_ne _ (by omega), T.add_ne _ (by omega)]
        omega
end
end Go.Proofs.Ytgoklgibhmddoaa
namespace Go.Proofs.Ytgoklgibhmddoaa

section
variable {k : Nat} {s : Nw} {T : To} {n : Int}
theorem put_law (h : TInv k s T) (hok : NOk s) (hn : 1 ≤ n ∧ n ≤ 99) {b : List Int} (hb : b.length ≤ 200) (delay : Int) :
    ((putS s n b delay).2 = 0 → TInv (k + 1) (putS s n b delay).1 (T.add (100 + n.toNat) b)) ∧ ((putS s n b delay).2 ≠ 0 → TInv (k + 1) (putS s n b delay).1 T) := by
  have hck := nok_iff.2 hok
  have hf := fits_of hck
  have hl1 := h.ln n.toNat (by omega)
  have hl2 := h.ln (100 + n.toNat) (by omega)
  rcases change_cases hf n [1, 3] (fun c p => putF s.now delay b c p) with ⟨e, he, h1⟩ | ⟨c, p, A, hs, h0, h1⟩
  · unfold putS
    rw [h1]
    exact ⟨fun h2 => absurd h2 he, fun _ => h.more⟩
  · have h0 : (putF s.now delay b c p).1 = 0 := h0
    unfold putS
    rw [h1]
    refine ⟨fun _ => ?_, fun h2 => absurd rfl h2⟩
    have hcid := A.nid
    have hci := h.ci c (List.mem_of_getElem? A.get) (by rw [hcid]; omega)
    have hw : ∃ d, (c.status = 1 → c.dn.d = 0 ∧ (putF s.now delay b c p).2 = { c with dn := if 0 < b.length then dnSend s.now d b c else c.dn }) ∧ (c.status ≠ 1 → (putF s.now delay b c p).2 = c) := by
      refine ⟨p.delay + delay, ?_⟩
      unfold putF ansF at h0 ⊢
      split at h0
      · exact absurd h0 (show ¬ (7 : Int) = 0 by decide)
      · rename_i g1
        rw [if_neg g1]
        split at h0
        · rename_i g2; exact absurd rfl g2
        · split at h0
          · exact absurd h0 (show ¬ (9 : Int) = 0 by decide)
          · rename_i g3
            split at h0
            · exact absurd h0 (show ¬ (3 : Int) = 0 by decide)
            · rename_i g4
              rw [if_neg (by simp), if_neg g3, if_neg g4]
              refine ⟨fun hs1 => ⟨by omega, by rw [if_pos hs1]; rfl⟩, fun hs1 => by rw [if_neg hs1]⟩
    obtain ⟨dl, hw1, hw2⟩ := hw
    have hkeep : ∀ i, i < 100 → i ≠ n.toNat → (T.add (100 + n.toNat) b).y i = T.y i ∧ (T.add (100 + n.toNat) b).y (100 + i) = T.y (100 + i) ∧ (T.add (100 + n.toNat) b).y (200 + i) = T.y (200 + i) ∧ (T.add (100 + n.toNat) b).y (300 + i) = T.y (300 + i) ∧ (T.add (100 + n.toNat) b).o (400 + i) = T.o (400 + i) := fun i hi hne => ⟨T.add_ne _ (by omega), T.add_ne _ (by omega), T.add_ne _ (by omega), T.add_ne _ (by omega), rfl⟩
    have hpr : (T.add (100 + n.toNat) b).y (300 + n.toNat) <+: (T.add (100 + n.toNat) b).y (100 + n.toNat) := by
      rw [T.add_at, T.add_ne _ (by omega)]
      exact (h.pr _ (by omega)).trans (List.prefix_append _ _)
    have hln : ((T.add (100 + n.toNat) b).y n.toNat).length ≤ 200 * (k + 1) ∧ ((T.add (100 + n.toNat) b).y (100 + n.toNat)).length ≤ 200 * (k + 1) := by
      rw [T.add_at, T.add_ne _ (by omega), List.length_append]
      omega
    by_cases hs1 : c.status = 1
    · obtain ⟨hd0, hw1⟩ := hw1 hs1
      simp only [hw1]
      refine tinv_set h hok A hn rfl hkeep ⟨?_, ?_, fun a1 a2 => ?_, fun a => ?_⟩ hpr hln
      · show (T.add (100 + n.toNat) b).y c.id.toNat = (T.add (100 + n.toNat) b).y (200 + c.id.toNat) ++ (c.up.ar ++ flat c.up.ps)
        rw [T.add_ne _ (by omega), T.add_ne _ (by omega)]
        exact hci.w
      · show c.sent = ((T.add (100 + n.toNat) b).y c.id.toNat).length
        rw [T.add_ne _ (by omega)]
        exact hci.se
      · show (T.add (100 + n.toNat) b).y (100 + c.id.toNat) = (T.add (100 + n.toNat) b).y (300 + c.id.toNat) ++ ((if 0 < b.length then dnSend s.now dl b c else c.dn : Dr).ar ++ flat (if 0 < b.length then dnSend s.now dl b c else c.dn : Dr).ps)
        have hp := hci.p (by omega) (by omega)
        rw [hcid] at hp ⊢
        rw [T.add_at, T.add_ne _ (by omega), hp]
        by_cases b0 : 0 < b.length
        · rw [if_pos b0]
          show _ = _ ++ (c.dn.ar ++ flat (c.dn.ps ++ [⟨c.dn.last s.now dl, b⟩]))
          rw [flat_app]
          simp [flat, List.append_assoc]
        · rw [if_neg b0]
          have : b = [] := List.length_eq_zero_iff.1 (by omega)
          simp [this]
      · rcases hci.ov a with h5 | h5
        · omega
        · exact absurd hd0 h5.2.2
    · have hs3 : c.status = 3 := by
        simp only [List.mem_cons, List.not_mem_nil, or_false] at hs
        rcases hs with hs | hs
        · exact absurd hs hs1
        · exact hs
      rw [hw2 hs1]
      refine tinv_set h hok A hn rfl hkeep ⟨?_, ?_, fun a1 a2 => absurd hs3 a1, fun a => .inl hs3⟩ hpr hln
      · rw [T.add_ne _ (by omega), T.add_ne _ (by omega)]
        exact hci.w
      · rw [T.add_ne _ (by omega)]
        exact hci.se
theorem tinv_conns {s' : Nw} (h : TInv k s T) (h1 : s'.conns = s.conns) (h2 : s'.next = s.next) : TInv (k + 1) s' T :=
  ⟨by rw [h1]; exact h.ci, h.pw, h.pr, by rw [h2]; exact h.em, h.more.ln⟩
theorem close_law (h : TInv k s T) (hok : NOk s) (hn : 1 ≤ n ∧ n ≤ 99) : TInv (k + 1) (closeS s n).1 T := by
  have hf := fits_of (nok_iff.2 hok)
  have hl1 := h.ln n.toNat (by omega)
  have hl2 := h.ln (100 + n.toNat) (by omega)
  rcases change_cases hf n [0, 1] (fun c p => (0, closeF s.now p c)) with ⟨e, he, h1⟩ | ⟨c, p, A, hs, _, h1⟩
  · unfold closeS
    rw [h1]
    exact h.more
  · unfold closeS
    rw [h1]
    have hcid := A.nid
    have hci := h.ci c (List.mem_of_getElem? A.get) (by rw [hcid]; omega)
    refine tinv_set h hok A hn rfl (fun i hi hne => ⟨rfl, rfl, rfl, rfl, rfl⟩) ⟨?_, hci.se, fun a1 a2 => absurd rfl a1, fun a => .inl rfl⟩ (h.pr _ (by omega)) (by omega)
    have := hci.w
    show T.y c.id.toNat = T.y (200 + c.id.toNat) ++ ((if c.status = 1 then { c.up with e := 1, t := c.up.last s.now p.delay } else c.up : Dr).ar ++ flat (if c.status = 1 then { c.up with e := 1, t := c.up.last s.now p.delay } else c.up : Dr).ps)
    split
    · exact this
    · exact this
theorem fin_law (h : TInv k s T) (hok : NOk s) (hn : 1 ≤ n ∧ n ≤ 99) (how delay : Int) : TInv (k + 1) (finS s n how delay).1 T := by
  have hf := fits_of (nok_iff.2 hok)
  have hl1 := h.ln n.toNat (by omega)
  have hl2 := h.ln (100 + n.toNat) (by omega)
  rcases change_cases hf n [1, 3] (fun c p => finF s.now delay how c p) with ⟨e, he, h1⟩ | ⟨c, p, A, hs, _, h1⟩
  · unfold finS
    rw [h1]
    exact h.more
  · unfold finS
    rw [h1]
    have hcid := A.nid
    have hci := h.ci c (List.mem_of_getElem? A.get) (by rw [hcid]; omega)
    have hw : (finF s.now delay how c p).2 = c ∨ ∃ e t, (finF s.now delay how c p).2 = { c with dn := { c.dn with e := e, t := t } } := by
      unfold finF ansF
      repeat' (first | exact .inl rfl | exact .inr ⟨_, _, rfl⟩ | split)
    have keep : ∀ i, i < 100 → i ≠ n.toNat → T.y i = T.y i ∧ T.y (100 + i) = T.y (100 + i) ∧ T.y (200 + i) = T.y (200 + i) ∧ T.y (300 + i) = T.y (300 + i) ∧ T.o (400 + i) = T.o (400 + i) := fun i hi hne => ⟨rfl, rfl, rfl, rfl, rfl⟩
    rcases hw with hw | ⟨e, t, hw⟩
    · simp only [hw]
      exact tinv_set h hok A hn rfl keep hci (h.pr _ (by omega)) (by omega)
    · simp only [hw]
      exact tinv_set h hok A hn rfl keep ⟨hci.w, hci.se, hci.p, hci.ov⟩ (h.pr _ (by omega)) (by omega)
theorem arr_flat (now : Int) : ∀ (ps : List Pc) (a : List Int), (arr now ps a).2 ++ flat (arr now ps a).1 = a ++ flat ps
  | [], a => rfl
  | p :: r, a => by
    unfold arr
    split
    · rw [arr_flat now r]
      simp [flat, List.append_assoc]
    · rfl
theorem tick_flat (now : Int) (d : Dr) : (tickD now d).ar ++ flat (tickD now d).ps = d.ar ++ flat d.ps := by
  have h := arr_flat now d.ps d.ar
  unfold tickD endD
  dsimp only
  split
  · rename_i hc
    rw [hc.1] at h
    exact h
  · exact h
theorem tick_law (h : TInv k s T) (hok : NOk s) (to : Int) : TInv (k + 1) (tickS s to).1 T := by
  unfold tickS
  split
  · exact h.more
  · split
    · refine ⟨fun c' hc' hl => ?_, h.pw, h.pr, h.em, h.more.ln⟩
      obtain ⟨c, hc, rfl⟩ := List.mem_map.1 hc'
      have hci := h.ci c hc hl
      have hcok := hok.cs c hc
      have hst : tickSt s.plans to c = c.status ∨ (c.status = 0 ∧ (tickSt s.plans to c = 1 ∨ tickSt s.plans to c = 2)) := by
        unfold tickSt
        split
        · rename_i hc
          right
          refine ⟨hc.1, ?_⟩
          split
          · exact .inl rfl
          · exact .inr rfl
        · exact .inl rfl
      have hd2 : ∀ q, c.dn.d = q → q ≠ 0 → tickD to c.dn = c.dn := fun q hq hq0 => by
        rcases hcok.dn.fin with h5 | ⟨h5, h6⟩
        · omega
        · unfold tickD endD
          dsimp only
          rw [h5]
          rw [if_neg (fun hh => hh.2.1 h6)]
          show (⟨[], c.dn.ar, c.dn.e, c.dn.d, c.dn.t⟩ : Dr) = c.dn
          rw [← h5]
      refine ⟨?_, hci.se, fun a1 a2 => ?_, fun a => ?_⟩
      · show T.y c.id.toNat = T.y (200 + c.id.toNat) ++ ((tickD to c.up).ar ++ flat (tickD to c.up).ps)
        rw [tick_flat]; exact hci.w
      · have a1 : tickSt s.plans to c ≠ 3 := a1
        have a2 : (clearD (tickD to c.dn)).d ≠ 2 := a2
        have a3 : (tickD to c.dn).d ≠ 2 := by
          unfold clearD at a2
          split at a2
          · exact a2
          · exact a2
        have a4 : c.dn.d ≠ 2 := fun e => a3 (by rw [hd2 2 e (by decide)]; exact e)
        have a5 : c.status ≠ 3 := by omega
        show T.y (100 + c.id.toNat) = T.y (300 + c.id.toNat) ++ ((clearD (tickD to c.dn)).ar ++ flat (clearD (tickD to c.dn)).ps)
        unfold clearD
        rw [if_neg a3, tick_flat]
        exact hci.p a5 a4
      · rcases hci.ov a with h5 | ⟨h5, h6, h7⟩
        · left
          show tickSt s.plans to c = 3
          omega
        · right
          have e := hd2 c.dn.d rfl h7
          refine ⟨?_, ?_, ?_⟩
          · show tickSt s.plans to c = 1
            omega
          · show (clearD (tickD to c.dn)).ar = []
            rw [e]; unfold clearD; split
            · rfl
            · exact h6
          · show (clearD (tickD to c.dn)).d ≠ 0
            rw [e]; unfold clearD; split
            · exact h7
            · exact h7
    · exact h.more
theorem dial_law (h : TInv k s T) (hok : NOk s) (b : Int) : TInv (k + 1) (dialS s b).1 T := by
  unfold dialS
  split
  · exact h.more
  · split
    · exact h.more
    · have hnx := hok.nx
      refine ⟨fun c hc hl => ?_, h.pw, h.pr, fun i hi1 hi2 => h.em i (by have hi1 : s.next + 1 ≤ (i : Int) := hi1; omega) hi2, h.more.ln⟩
      rcases List.mem_append.1 hc with hc | hc
      · exact h.ci c hc hl
      · rw [List.mem_singleton.1 hc] at hl ⊢
        have hl : s.next < 100 := hl
        obtain ⟨e1, e2, e3, e4, e5⟩ := h.em s.next.toNat (by omega) (by omega)
        refine ⟨?_, ?_, fun _ _ => ?_, fun a => ?_⟩
        · show T.y s.next.toNat = T.y (200 + s.next.toNat) ++ ([] ++ flat [])
          rw [e1, e3]; rfl
        · show (0 : Int) = (T.y s.next.toNat).length
          rw [e1]; rfl
        · show T.y (100 + s.next.toNat) = T.y (300 + s.next.toNat) ++ ([] ++ flat [])
          rw [e2, e4]; rfl
        · have a : T.o (400 + s.next.toNat) = true := a
          rw [e5] at a; cases a
theorem act_inv (h : TInv k s T) (hok : NOk s) (x : Ac) (hw : 0 ≤ x.what) (hb : x.b.length ≤ 200) : TInv (k + 1) (actS s T x).1 (actS s T x).2 := by
  unfold actS
  split
  · exact h.more
  · rename_i hn
    have hn : 1 ≤ x.conn ∧ x.conn ≤ 99 := by omega
    split
    · have hl := write_law h hok hn hb
      split
      · exact h.more
      · rename_i h0
        exact (hl.2 (by simpa using h0)).2
    · split
      · exact (read_law h hok hn (least_ x.n 500) _ rfl).2.2.2
      · split
        · exact (take_law h hok hn).2
        · split
          · have hl := put_law h hok hn hb (least_ x.n 100)
            split
            · rename_i h0; exact hl.1 h0
            · rename_i h0; exact hl.2 h0
          · show TInv (k + 1) (doS s x) T
            unfold doS
            split
            · exact dial_law h hok _
            split
            · exact tick_law h hok _
            split
            · exact close_law h hok hn
            split
            · exact fin_law h hok hn _ _
            split
            · unfold planS
              split
              · exact h.more
              · split
                · exact tinv_conns h rfl rfl
                · exact h.more
            · exact h.more
theorem act_ok (hok : NOk s) (x : Ac) : NOk (actS s T x).1 := by
  unfold actS
  split
  · exact hok
  · split
    · split
      · exact hok
      · exact nok_write hok _ _
    · split
      · exact nok_read hok _ _
      · split
        · exact nok_take hok _
        · split
          · split
            · exact nok_put hok _ _ _
            · exact nok_put hok _ _ _
          · exact nok_do hok x
end
def T0 : To := ⟨fun _ => [], fun _ => false⟩
theorem tinv_new {l : List Pl} (h : (newS l).2 = 0) : TInv 0 (newS l).1 T0 := by
  unfold newS at h ⊢
  split at h
  · exact absurd h (by decide)
  · rename_i h1
    split at h
    · rename_i h2
      rw [if_neg h1, if_pos h2]
      exact ⟨(fun c hc => nomatch hc), fun i _ => List.prefix_refl _, fun i _ => List.prefix_refl _, fun i _ _ => ⟨rfl, rfl, rfl, rfl, rfl⟩, fun i _ => by show 0 ≤ _; omega⟩
    · exact absurd h (by decide)
end Go.Proofs.Ytgoklgibhmddoaa
