/- The law PoolOnce. No condition. -/
import Derived.Test.YtajjmhpdiikjhaaGreatN16
import Derived.Test.YtajjmhpdiikjhaaGreatTab
namespace Go.Proofs.YtajjmhpdiikjhaaGreat.Po
set_option maxRecDepth 100000
open Go.RowKit

structure Kc where
  id : Int
  call : Int
  born : Int
  since : Int
  closed : Bool
instance : Inhabited Kc := ⟨⟨0, 0, 0, 0, false⟩⟩
@[simp] def Kc.ds (k : Kc) : List D := [.v (.int .i64 k.id), .v (.int .i64 k.call), .v (.int .i64 k.born), .v (.int .i64 k.since), .v (.bool k.closed)]
@[simp] def kl (l : List Kc) : D := .sl 5 (l.map Kc.ds)
abbrev Tu := Int × Int × Int × Int
def kt (k : Kc) : Tu := (k.id, k.call, k.born, if k.call = 0 then k.since else 0)
def lt4 (x : Ls) : Tu := (x.conn, x.call, x.born, 0)
def it4 (x : Id.Cn) : Tu := (x.conn, 0, x.born, x.since)
def here (s : Po) : List Tu := s.ls.map lt4 ++ s.idle.cs.map it4
def alive (l : List Kc) : List Kc := l.filter fun k => !k.closed
/-- What is known of connections is what is there. -/
structure KInv (l : List Kc) (H : List Tu) : Prop where
  nd : (l.map Kc.id).Nodup
  pm : ((alive l).map kt).Perm H
def KAt (l : List Kc) (c : Int) (i : Nat) (k : Kc) : Prop := l[i]? = some k ∧ k.id = c ∧ ∀ j y, j < i → l[j]? = some y → y.id ≠ c
theorem alive_erase : ∀ {l : List Kc} {i : Nat} {k : Kc}, l[i]? = some k → ((alive l).map kt).Perm ((if k.closed = true then [] else [kt k]) ++ (alive (l.eraseIdx i)).map kt)
  | [], _, _, h => by simp at h
  | y :: l, 0, k, h => by
    simp at h; subst h
    rw [List.eraseIdx_cons_zero, alive, List.filter_cons]
    cases y.closed
    · exact .refl _
    · exact .refl _
  | y :: l, i + 1, k, h => by
    simp at h
    have ih := alive_erase h
    rw [List.eraseIdx_cons_succ, alive, List.filter_cons, alive, List.filter_cons]
    cases hy : y.closed
    · show (kt y :: (alive l).map kt).Perm (_ ++ (kt y :: (alive (l.eraseIdx i)).map kt))
      exact (ih.cons _).trans List.perm_middle.symm
    · exact ih
theorem set_get {l : List Kc} {i : Nat} {k k' : Kc} (h : l[i]? = some k) : (l.set i k')[i]? = some k' := by
  have := (List.getElem?_eq_some_iff.1 h).1
  simp [this]
theorem set_erase {l : List Kc} {i : Nat} {k' : Kc} : (l.set i k').eraseIdx i = l.eraseIdx i := by
  rw [List.eraseIdx_set_eq]
theorem set_ids {l : List Kc} {i : Nat} {k k' : Kc} (h : l[i]? = some k) (e : k'.id = k.id) : (l.set i k').map Kc.id = l.map Kc.id := by
  rw [List.map_set, e]
  apply List.ext_getElem? 
  intro j
  by_cases hj : i = j
  · subst hj
    have hi := (List.getElem?_eq_some_iff.1 h).1
    rw [List.getElem?_set_self (by simpa using hi), List.getElem?_map, h]; rfl
  · rw [List.getElem?_set_ne hj]
theorem KInv.find {l : List Kc} {H : List Tu} (h : KInv l H) {t : Tu} (ht : t ∈ H) : ∃ i k, KAt l t.1 i k ∧ k.closed = false ∧ kt k = t := by
  have hm := h.pm.mem_iff.2 ht
  obtain ⟨k, hk, e⟩ := List.mem_map.1 hm
  obtain ⟨hk1, hk2⟩ := List.mem_filter.1 hk
  obtain ⟨i, hi⟩ := List.getElem?_of_mem hk1
  refine ⟨i, k, ⟨hi, by rw [← e]; rfl, fun j y hj hy ey => ?_⟩, by simpa using hk2, e⟩
  have h1 := (List.getElem?_eq_some_iff.1 hi)
  have h2 := (List.getElem?_eq_some_iff.1 hy)
  have := List.pairwise_iff_getElem.1 h.nd j i (by simpa using h2.1) (by simpa using h1.1) hj
  rw [List.getElem_map, List.getElem_map, h1.2, h2.2, ey, ← e] at this
  exact this rfl
/-- One that nobody has is granted. -/
theorem KInv.grant {l : List Kc} {R : List Tu} {c b si ca : Int} (h : KInv l ((c, 0, b, si) :: R)) (hca : ca ≠ 0) :
    ∃ i k, KAt l c i k ∧ k.closed = false ∧ k.call = 0 ∧ k.born = b ∧ k.since = si ∧ KInv (l.set i { k with call := ca }) ((c, ca, b, 0) :: R) := by
  obtain ⟨i, k, hat, hcl, hk⟩ := h.find (List.mem_cons_self ..)
  have hid : k.id = c := congrArg (·.1) hk
  have hcall : k.call = 0 := congrArg (·.2.1) hk
  have hb : k.born = b := congrArg (·.2.2.1) hk
  have hs : k.since = si := by
    have := congrArg (·.2.2.2) hk
    simpa [kt, hcall] using this
  refine ⟨i, k, hat, hcl, hcall, hb, hs, by rw [set_ids (k' := { k with call := ca }) hat.1 rfl]; exact h.nd, ?_⟩
  have h1 := alive_erase hat.1
  rw [if_neg (by rw [hcl]; simp), hk] at h1
  have hR : ((alive (l.eraseIdx i)).map kt).Perm R := (h1.symm.trans h.pm).cons_inv
  have h2 := alive_erase (set_get (k' := { k with call := ca }) hat.1)
  rw [if_neg (by rw [hcl]; simp), set_erase] at h2
  refine h2.trans ?_
  have e : kt { k with call := ca } = (c, ca, b, 0) := by simp [kt, hca, hid, hb]
  rw [e]
  exact hR.cons _
/-- One that nobody has is closed. -/
theorem KInv.close {l : List Kc} {R : List Tu} {c b si : Int} (h : KInv l ((c, 0, b, si) :: R)) :
    ∃ i k, KAt l c i k ∧ k.closed = false ∧ k.call = 0 ∧ KInv (l.set i { k with closed := true }) R := by
  obtain ⟨i, k, hat, hcl, hk⟩ := h.find (List.mem_cons_self ..)
  have hcall : k.call = 0 := congrArg (·.2.1) hk
  refine ⟨i, k, hat, hcl, hcall, by rw [set_ids (k' := { k with closed := true }) hat.1 rfl]; exact h.nd, ?_⟩
  have h1 := alive_erase hat.1
  rw [if_neg (by rw [hcl]; simp), hk] at h1
  have hR : ((alive (l.eraseIdx i)).map kt).Perm R := (h1.symm.trans h.pm).cons_inv
  have h2 := alive_erase (set_get (k' := { k with closed := true }) hat.1)
  rw [if_pos rfl, set_erase] at h2
  exact h2.trans hR
theorem KInv.perm {l : List Kc} {H H' : List Tu} (h : KInv l H) (hp : H.Perm H') : KInv l H' := ⟨h.nd, h.pm.trans hp⟩
/-- One that was dialled. -/
theorem KInv.dial {l : List Kc} {H : List Tu} {c now : Int} (h : KInv l H) (hn : ∀ k ∈ l, k.id ≠ c) : KInv (l ++ [⟨c, 0, now, now, false⟩]) ((c, 0, now, now) :: H) := by
  refine ⟨?_, ?_⟩
  · rw [List.map_append, List.nodup_append]
    refine ⟨h.nd, by simp, fun a ha b hb => ?_⟩
    obtain ⟨k, hk, e⟩ := List.mem_map.1 ha
    have : b = c := by simpa using hb
    rw [this, ← e]; exact hn k hk
  · rw [alive, List.filter_append, List.map_append]
    show (((alive l).map kt) ++ [(c, 0, now, if (0 : Int) = 0 then now else 0)]).Perm _
    rw [if_pos rfl]
    exact List.perm_append_comm.trans (h.pm.cons _)
/-- A call gives back. -/
def fre (c now : Int) (k : Kc) : Kc := if k.call = c then { k with call := 0, since := now } else k
def frT (c now : Int) (t : Tu) : Tu := if t.2.1 = c then (t.1, 0, t.2.2.1, now) else t
theorem kt_fre {c now : Int} (k : Kc) : kt (fre c now k) = frT c now (kt k) := by
  unfold fre frT kt
  by_cases h : k.call = c
  · simp [h]
  · simp [h]
theorem KInv.free {l : List Kc} {H : List Tu} (h : KInv l H) {c now : Int} : KInv (l.map (fre c now)) (H.map (frT c now)) := by
  refine ⟨?_, ?_⟩
  · have : (l.map (fre c now)).map Kc.id = l.map Kc.id := by
      rw [List.map_map]
      refine List.map_congr_left fun k _ => ?_
      show (fre c now k).id = k.id
      unfold fre; split <;> rfl
    rw [this]; exact h.nd
  · have e : (alive (l.map (fre c now))).map kt = ((alive l).map kt).map (frT c now) := by
      unfold alive
      rw [List.filter_map, List.map_map, List.map_map]
      have : (l.filter ((fun k : Kc => !k.closed) ∘ fre c now)) = l.filter fun k => !k.closed := by
        refine List.filter_congr fun k _ => ?_
        show (!(fre c now k).closed) = !k.closed
        unfold fre; split <;> rfl
      rw [this]
      exact List.map_congr_left fun k _ => kt_fre k
    rw [e]
    exact h.pm.map _
/-- Times that lie behind. -/
def Bd (now : Int) (k : Kc) : Prop := 0 ≤ k.since ∧ k.since ≤ now ∧ 0 ≤ k.born ∧ k.born ≤ now
/-- What effects make of what is known, if all of them may be. -/
inductive EffE (now i a : Int) : List Kc → List Ef → List Kc → Prop
  | nil {l} : EffE now i a l [] l
  | other {l y es v} : y.kind ≠ 1 → y.kind ≠ 11 → EffE now i a l es v → EffE now i a l (y :: es) v
  | close {l y es v j k} : y.kind = 11 → KAt l y.conn j k → k.closed = false → k.call = 0 → EffE now i a (l.set j { k with closed := true }) es v → EffE now i a l (y :: es) v
  | grant {l y es v j k} : y.kind = 1 → KAt l y.conn j k → k.closed = false → k.call = 0 → now - k.since < i → now - k.born < a → Bd now k → EffE now i a (l.set j { k with call := y.call }) es v → EffE now i a l (y :: es) v
theorem eff_closes {s : Po} {now i a : Int} {R : List Tu} : ∀ {cs : List Id.Cn} {l : List Kc}, KInv l (cs.map it4 ++ R) → ∃ v, EffE now i a l ((cs.map Id.Cn.conn).map fun c => ef s 11 0 c) v ∧ KInv v R
  | [], l, h => ⟨l, .nil, h⟩
  | c :: cs, l, h => by
    obtain ⟨j, k, h1, h2, h3, h4⟩ := KInv.close (c := c.conn) (b := c.born) (si := c.since) h
    obtain ⟨v, h5, h6⟩ := eff_closes (s := s) (now := now) (i := i) (a := a) h4
    exact ⟨v, .close (y := ef s 11 0 c.conn) rfl h1 h2 h3 h5, h6⟩
theorem eff_late {s : Po} {now i a k : Int} (k1 : k ≠ 1) (k2 : k ≠ 11) {cs : List Int} {l v : List Kc} (h : EffE now i a l (cs.map fun c => ef s 11 0 c) v) : ∀ {ws : List Wa.Wt}, EffE now i a l (lateE s k ws cs) v
  | [] => h
  | _ :: _ => .other k1 k2 (eff_late k1 k2 h)
theorem here_same {s t : Po} (h1 : s.ls = t.ls) (h2 : s.idle = t.idle) : here s = here t := by unfold here; rw [h1, h2]
theorem pass_here (t : Po) : here (passS t).1 = here t := by
  unfold passS
  split <;> rfl
theorem pass_eff {t : Po} {now i a : Int} {l : List Kc} : EffE now i a l (passS t).2 l := by
  unfold passS
  split
  · exact .nil
  · exact .other (show (2 : Int) ≠ 1 by decide) (show (2 : Int) ≠ 11 by decide) .nil
theorem here_lease (t : Po) (x : Ls) : (here { t with ls := insL t.ls x }).Perm (lt4 x :: here t) := ((perm_insL t.ls x).map lt4).append_right _
theorem give_eff {t : Po} (hf : Form t) {c b : Int} {re : Bool} {l : List Kc} (h : KInv l ((c, 0, b, t.now) :: here t)) (hb : 0 ≤ b ∧ b ≤ t.now) (hi : 0 < t.idle.idle) :
    ∃ v, EffE t.now t.idle.idle t.idle.age l (giveS t c b re).2 v ∧ KInv v (here (giveS t c b re).1) := by
  unfold giveS
  split
  · obtain ⟨j, k, h1, h2, h3, h4⟩ := h.close
    refine ⟨_, .close (y := ef t 11 0 c) rfl h1 h2 h3 pass_eff, ?_⟩
    rw [pass_here]; exact h4
  · rename_i hg
    simp only [not_or, Int.not_le] at hg
    split
    · rename_i w ws e
      have hw := call_num hf (x := w) (by rw [e]; simp)
      obtain ⟨j, k, h1, h2, h3, h4, h5, h6⟩ := h.grant (ca := w.call) (by omega)
      refine ⟨_, .grant (y := ef t 1 w.call c) rfl h1 h2 h3 (by rw [h5]; omega) (by rw [h4]; exact hg.2.1) ⟨by rw [h5]; exact (timeOk_iff.1 hf.n.now).1, by rw [h5]; exact Int.le_refl _, by rw [h4]; exact hb.1, by rw [h4]; exact hb.2⟩ .nil, ?_⟩
      exact h6.perm (here_lease t ⟨w.call, c, b⟩).symm
    · refine ⟨_, .nil, h.perm ?_⟩
      unfold here
      dsimp only
      rw [List.map_append, ← List.append_assoc]
      exact (List.perm_append_comm (l₁ := [it4 ⟨c, b, t.now⟩])).symm.symm
end Go.Proofs.YtajjmhpdiikjhaaGreat.Po
namespace Go.Proofs.YtajjmhpdiikjhaaGreat.Po
set_option maxRecDepth 100000
open Go.RowKit

def kn1 (l : List Kc) (x : Act) (now : Int) : List Kc := if (x.m = 4 ∨ x.m = 5) ∧ x.yes = true then l ++ [⟨x.conn, 0, now, now, false⟩] else l
def kn2 (l : List Kc) (x : Act) (now : Int) : List Kc := if 6 ≤ x.m ∧ x.m ≤ 8 then l.map (fre x.call now) else l
def GrOk (l : List Kc) (c ca now i a : Int) (v : List Kc) : Prop := ∃ j k, KAt l c j k ∧ k.closed = false ∧ k.call = 0 ∧ now - k.since < i ∧ now - k.born < a ∧ Bd now k ∧ v = l.set j { k with call := ca }
structure OnceOk (s : Po) (x : Act) (l : List Kc) (o : Out) : Prop where
  e : ∃ l3 v, (o.2.1.kind = 1 → GrOk (kn2 (kn1 l x o.1.now) x o.1.now) o.2.1.conn x.call o.1.now s.idle.idle s.idle.age l3) ∧ (o.2.1.kind ≠ 1 → l3 = kn2 (kn1 l x o.1.now) x o.1.now) ∧
    EffE o.1.now s.idle.idle s.idle.age l3 o.2.2.1 v ∧ KInv v (here o.1)
  lim : o.1.idle.idle = s.idle.idle ∧ o.1.idle.age = s.idle.age
theorem lim_pos {s : Po} (h : Form s) : 0 < s.idle.idle ∧ 0 < s.idle.age := by
  have := h.idAt.nums
  simp [Id.nums, Id.inB] at this
  omega
theorem pass_idle (t : Po) : (passS t).1.idle = t.idle ∧ (passS t).1.now = t.now := by
  unfold passS; split <;> exact ⟨rfl, rfl⟩
theorem give_lim (t : Po) (c b : Int) (re : Bool) : (giveS t c b re).1.idle.idle = t.idle.idle ∧ (giveS t c b re).1.idle.age = t.idle.age ∧ (giveS t c b re).1.now = t.now := by
  have hp := pass_idle t
  unfold giveS
  split
  · exact ⟨by rw [hp.1], by rw [hp.1], hp.2⟩
  · split <;> exact ⟨rfl, rfl, rfl⟩
theorem kn_low {l : List Kc} {x : Act} {now : Int} (h : x.m < 4 ∨ 8 < x.m) : kn2 (kn1 l x now) x now = l := by
  unfold kn2 kn1
  rw [if_neg (by omega), if_neg (by omega)]
/-- Nothing was given or taken. -/
theorem OnceOk.idle {s : Po} {x : Act} {l : List Kc} {o : Out} (h : x.m < 4 ∨ 8 < x.m) (hk : KInv l (here s)) (h1 : o.2.1.kind ≠ 1) (h2 : o.2.2.1 = []) (h3 : o.1.ls = s.ls) (h4 : o.1.idle = s.idle) : OnceOk s x l o :=
  ⟨⟨l, l, fun e => absurd e h1, fun _ => (kn_low h).symm, by rw [h2]; exact .nil, by rw [here_same h3 h4]; exact hk⟩, by rw [h4]; exact ⟨rfl, rfl⟩⟩
theorem once_ask {s : Po} (h : Fine s) {x : Act} {l : List Kc} (hk : KInv l (here s)) (hx : x.m < 4) (he : (askK s x.call x.at_).2.2.2 = 0) : OnceOk s x l (askK s x.call x.at_) := by
  unfold askK at he ⊢
  split at he
  · simp [bad] at he
  rename_i c1
  rw [if_neg c1]
  split at he
  · simp [bad] at he
  rename_i c2
  rw [if_neg c2]
  split
  · exact .idle (.inl hx) hk (by simp [rs]) rfl rfl rfl
  split
  · exact .idle (.inl hx) hk (by simp [rs]) rfl rfl rfl
  split
  · rename_i c3
    obtain ⟨y, hy, hd, hs⟩ := getLast_split c3
    have hid := h.f.id y (List.mem_of_getElem? hy)
    have hc := numOk_iff.1 (show numOk x.call = true by simp at c1; exact c1.1)
    have hod : 0 ≤ y.since ∧ 0 ≤ y.born ∧ y.born ≤ s.now := by
      have ho := List.any_eq_false.1 h.f.idAt.odd y (List.mem_of_getElem? hy)
      have := hid.1
      simp [Id.oddC, Id.inB] at ho
      omega
    have hh : (here s).Perm ((y.conn, 0, y.born, y.since) :: (s.ls.map lt4 ++ (s.idle.cs.take (s.idle.cs.length - 1)).map it4)) := by
      unfold here
      conv => lhs; rw [hs]
      rw [List.map_append, ← List.append_assoc]
      exact List.perm_append_comm
    obtain ⟨j, k, k1, k2, k3, k4, k5, k6⟩ := (hk.perm hh).grant (ca := x.call) (by omega)
    rw [hd]
    refine ⟨⟨_, _, fun _ => ⟨j, k, ?_, k2, k3, by rw [k5]; exact hid.2.1, by rw [k4]; exact hid.2.2, ⟨by rw [k5]; exact hod.1, by rw [k5]; exact hid.1, by rw [k4]; exact hod.2.1, by rw [k4]; exact hod.2.2⟩, rfl⟩, fun e => absurd rfl e, .nil, ?_⟩, rfl, rfl⟩
    · rw [kn_low (.inl hx)]; exact k1
    · rw [kn_low (.inl hx)]
      refine k6.perm ?_
      exact (((perm_insL s.ls ⟨x.call, y.conn, y.born⟩).map lt4).append_right _).symm
  split
  · exact .idle (.inl hx) hk (by simp [rs]) rfl rfl rfl
  split
  · exact .idle (.inl hx) hk (by simp [rs]) rfl rfl rfl
  · exact .idle (.inl hx) hk (by simp [rs]) rfl rfl rfl
theorem kn_mid {l : List Kc} {x : Act} {now : Int} (h : x.m = 4 ∨ x.m = 5) : kn2 (kn1 l x now) x now = if x.yes = true then l ++ [⟨x.conn, 0, now, now, false⟩] else l := by
  unfold kn2 kn1
  rw [if_neg (by omega)]
  by_cases hy : x.yes = true <;> simp [h, hy]
theorem OnceOk.give {s t : Po} {x : Act} {l : List Kc} {r : Rs} {c b : Int} {re : Bool} (hf : Form t) (h1 : r.kind ≠ 1) (ht : t.idle = s.idle) (hb : 0 ≤ b ∧ b ≤ t.now) (hk : KInv (kn2 (kn1 l x t.now) x t.now) ((c, 0, b, t.now) :: here t)) :
    OnceOk s x l ((giveS t c b re).1, r, (giveS t c b re).2, 0) := by
  obtain ⟨v, h2, h3⟩ := give_eff (re := re) hf hk hb (lim_pos hf).1
  obtain ⟨l1, l2, l3⟩ := give_lim t c b re
  refine ⟨⟨_, v, fun e => absurd e h1, fun _ => rfl, ?_, h3⟩, ?_⟩
  · rw [ht] at h2
    show EffE (giveS t c b re).1.now _ _ (kn2 (kn1 l x (giveS t c b re).1.now) x (giveS t c b re).1.now) _ _
    rw [l3]
    exact h2
  · rw [l1, l2, ht]; exact ⟨rfl, rfl⟩
theorem once_dialled {s : Po} (h : Fine s) {x : Act} {l : List Kc} (hk : KInv l (here s)) (hx : x.m = 4 ∨ x.m = 5) (hn : x.yes = true → ∀ k ∈ l, k.id ≠ x.conn) (he : (dialledK s x.call x.conn x.yes).2.2.2 = 0) : OnceOk s x l (dialledK s x.call x.conn x.yes) := by
  unfold dialledK at he ⊢
  split at he
  · simp [bad] at he
  rename_i c1
  rw [if_neg c1]
  split at he
  · simp [bad] at he
  rename_i c2
  rw [if_neg c2]
  split at he
  · simp [bad] at he
  rename_i c3
  rw [if_neg c3]
  have c2' : s.ds.any (fun y => y.call == x.call) = true := by simpa using c2
  have hc := numOk_iff.1 (show numOk x.call = true by
    have := (not_or.1 c1).1
    simpa using this)
  obtain ⟨i, y, hy, e⟩ := mem_keyed c2'
  have hole := (h.holeD hy).f
  rw [e] at hole
  unfold dialledT
  dsimp only
  split
  · rename_i hyes
    obtain ⟨p1, p2⟩ := pass_idle { s with ds := dropD s.ds x.call }
    refine ⟨⟨_, _, fun e => ?_, fun _ => rfl, pass_eff, ?_⟩, ?_⟩
    · have : (rs s (if (findD s.ds x.call).gone = true then 7 else 10) 0).kind = 1 := e
      rw [rs_kind] at this
      split at this <;> omega
    · rw [kn_mid hx, if_neg (by rw [hyes]; simp), pass_here]; exact hk
    · rw [p1]; exact ⟨rfl, rfl⟩
  rename_i hyes
  have hyes : x.yes = true := by simpa using hyes
  have hd := hk.dial (now := s.now) (hn hyes)
  have hkn : ∀ now, kn2 (kn1 l x now) x now = l ++ [⟨x.conn, 0, now, now, false⟩] := fun now => by rw [kn_mid hx, if_pos hyes]
  split
  · refine .give (t := { s with ds := dropD s.ds x.call }) hole (by rw [rs_kind]; omega) rfl ⟨(timeOk_iff.1 h.f.n.now).1, Int.le_refl _⟩ ?_
    rw [hkn]; exact hd
  split
  · obtain ⟨j, k, h1, h2, h3, h4⟩ := hd.close
    refine ⟨⟨_, _, fun e => ?_, fun _ => (hkn _).symm, .close (y := ef s 11 0 x.conn) rfl h1 h2 h3 .nil, h4⟩, rfl, rfl⟩
    have : (rs s 6 0).kind = 1 := e
    rw [rs_kind] at this; omega
  · obtain ⟨j, k, h1, h2, h3, h4, h5, h6⟩ := hd.grant (ca := x.call) (by omega)
    have hl := lim_pos h.f
    refine ⟨⟨_, _, fun _ => ⟨j, k, ?_, h2, h3, ?_, ?_, ⟨by rw [h5]; exact (timeOk_iff.1 h.f.n.now).1, by rw [h5]; exact Int.le_refl _, by rw [h4]; exact (timeOk_iff.1 h.f.n.now).1, by rw [h4]; exact Int.le_refl _⟩, rfl⟩, fun e => absurd (rs_kind s 1 x.conn) e, .nil, ?_⟩, rfl, rfl⟩
    · rw [hkn]; exact h1
    · show s.now - k.since < _
      rw [h5]; omega
    · show s.now - k.born < _
      rw [h4]; omega
    · rw [hkn]
      exact h6.perm (here_lease s ⟨x.call, x.conn, s.now⟩).symm
theorem frT_same {c now : Int} {H : List Tu} (h : ∀ t ∈ H, t.2.1 ≠ c) : H.map (frT c now) = H := by
  refine (List.map_congr_left fun t ht => ?_).trans (List.map_id _)
  unfold frT
  rw [if_neg (h t ht)]; rfl
theorem erase_perm {l : List Ls} {i : Nat} {x : Ls} (h : l[i]? = some x) : l.Perm (x :: l.eraseIdx i) := by
  obtain ⟨hi, e⟩ := List.getElem?_eq_some_iff.1 h
  rw [List.eraseIdx_eq_take_drop_succ]
  have : l = l.take i ++ (x :: l.drop (i + 1)) := by rw [← e, List.getElem_cons_drop, List.take_append_drop]
  conv => lhs; rw [this]
  exact List.perm_middle
theorem once_free {s : Po} (h : Fine s) {x : Act} {l : List Kc} (hk : KInv l (here s)) (hx : 6 ≤ x.m ∧ x.m ≤ 8) (he : (freeK s x.call x.yes).2.2.2 = 0) : OnceOk s x l (freeK s x.call x.yes) := by
  unfold freeK at he ⊢
  split at he
  · simp [bad] at he
  rename_i c1
  rw [if_neg c1]
  split at he
  · simp [bad] at he
  rename_i c2
  rw [if_neg c2]
  have c2' : s.ls.any (fun y => y.call == x.call) = true := by simpa using c2
  have hc := numOk_iff.1 (show numOk x.call = true by simpa using c1)
  obtain ⟨i, y, hy, e⟩ := mem_keyed c2'
  have hole := (h.holeL hy).f
  have hfind := findL_at h.f.lu hy
  have hdrop := dropL_at h.f.lu hy
  rw [e] at hole hfind hdrop
  dsimp only
  rw [hfind]
  refine .give (t := { s with ls := dropL s.ls x.call }) hole (by rw [rs_kind]; omega) rfl (h.f.ls y (List.mem_of_getElem? hy)).2.2 ?_
  have hkn : kn2 (kn1 l x s.now) x s.now = l.map (fre x.call s.now) := by
    unfold kn2 kn1
    rw [if_pos hx, if_neg (by omega)]
  show KInv (kn2 (kn1 l x s.now) x s.now) _
  rw [hkn]
  refine (hk.free (c := x.call) (now := s.now)).perm ?_
  have hp : (here s).Perm (lt4 y :: here { s with ls := dropL s.ls x.call }) := by
    unfold here
    dsimp only
    rw [hdrop]
    exact ((erase_perm hy).map lt4).append_right _
  refine (hp.map _).trans ?_
  rw [List.map_cons, frT_same fun t ht => ?_]
  · have : frT x.call s.now (lt4 y) = (y.conn, 0, y.born, s.now) := by unfold frT lt4; rw [if_pos e]
    rw [this]
  · rcases List.mem_append.1 ht with ht | ht
    · obtain ⟨z, hz, ez⟩ := List.mem_map.1 ht
      rw [← ez]
      exact (mem_dropL.1 hz).2
    · obtain ⟨z, hz, ez⟩ := List.mem_map.1 ht
      rw [← ez]
      show (0 : Int) ≠ x.call
      omega
theorem once_cancel {s : Po} {x : Act} {l : List Kc} (hk : KInv l (here s)) (hx : 8 < x.m) (he : (cancelK s x.call).2.2.2 = 0) : OnceOk s x l (cancelK s x.call) := by
  unfold cancelK at he ⊢
  split at he
  · simp [bad] at he
  rename_i c1
  rw [if_neg c1]
  split at he
  · rename_i c2
    rw [if_pos c2]
    exact .idle (.inr hx) hk (by rw [rs_kind]; omega) rfl rfl rfl
  rename_i c2
  rw [if_neg c2]
  split at he
  · split at he
    · simp [bad] at he
    rename_i c3 c4
    rw [if_pos c3, if_neg c4]
    exact .idle (.inr hx) hk (by rw [rs_kind]; omega) rfl rfl rfl
  · split at he <;> simp [bad] at he
theorem part_perm {p : Id.Cn → Bool} : ∀ {l : List Id.Cn}, l.Perm ((l.filter fun x => !p x) ++ l.filter p)
  | [] => .refl _
  | y :: l => by
    have ih := part_perm (p := p) (l := l)
    cases hp : p y
    · rw [List.filter_cons_of_pos (by simp [hp]), List.filter_cons_of_neg (by simp [hp])]
      exact ih.cons _
    · rw [List.filter_cons_of_neg (by simp [hp]), List.filter_cons_of_pos (by simp [hp])]
      exact (ih.cons _).trans List.perm_middle.symm
theorem once_tick {s : Po} {x : Act} {l : List Kc} (hk : KInv l (here s)) (hx : 8 < x.m) (he : (tickK s x.at_).2.2.2 = 0) : OnceOk s x l (tickK s x.at_) := by
  unfold tickK at he ⊢
  split at he
  · simp [bad] at he
  rename_i c1
  rw [if_neg c1]
  split at he
  · simp [bad] at he
  rename_i c2
  rw [if_neg c2]
  have hp : (here s).Perm (((s.idle.cs.filter fun y => !Id.good s.idle.idle s.idle.age x.at_ y).map it4) ++ (s.ls.map lt4 ++ (Id.left s.idle x.at_).map it4)) := by
    unfold here Id.left
    refine ((part_perm (p := Id.good s.idle.idle s.idle.age x.at_)).map it4).append_left _ |>.trans ?_
    rw [List.map_append, ← List.append_assoc, ← List.append_assoc]
    exact (List.perm_append_comm).append_right _
  obtain ⟨v, h1, h2⟩ := eff_closes (s := s) (now := x.at_) (i := s.idle.idle) (a := s.idle.age) (hk.perm hp)
  refine ⟨⟨l, v, fun e => ?_, fun _ => (kn_low (.inr hx)).symm, eff_late (by decide) (by decide) h1, h2⟩, rfl, rfl⟩
  have : (rs s 7 0).kind = 1 := e
  rw [rs_kind] at this; omega
theorem once_shut {s : Po} {x : Act} {l : List Kc} (hk : KInv l (here s)) (hx : 8 < x.m) : OnceOk s x l (shutK s) := by
  unfold shutK
  have hp : (here s).Perm (s.idle.cs.map it4 ++ (s.ls.map lt4 ++ ([] : List Id.Cn).map it4)) := by
    unfold here
    rw [List.map_nil, List.append_nil]
    exact List.perm_append_comm
  obtain ⟨v, h1, h2⟩ := eff_closes (s := s) (now := s.now) (i := s.idle.idle) (a := s.idle.age) (hk.perm hp)
  refine ⟨⟨l, v, fun e => ?_, fun _ => (kn_low (.inr hx)).symm, eff_late (by decide) (by decide) h1, h2⟩, rfl, rfl⟩
  have : (rs s 7 0).kind = 1 := e
  rw [rs_kind] at this; omega
theorem do_once {s : Po} (h : Fine s) {x : Act} {l : List Kc} (hk : KInv l (here s)) (hn : (x.m = 4 ∨ x.m = 5) → x.yes = true → ∀ k ∈ l, k.id ≠ x.conn) (hm0 : 0 ≤ x.what) (he : (doA s x).2.2.2 = 0) : OnceOk s x l (doA s x) := by
  have hm := act_cases hm0
  unfold doA ask dialled free cancel tick shut guarded at he ⊢
  simp only [if_pos h] at he ⊢
  split
  · rename_i c1
    rw [if_pos c1] at he
    exact once_ask h hk (by omega) he
  rename_i c1
  rw [if_neg c1] at he
  split
  · rename_i c2
    rw [if_pos c2] at he
    exact once_dialled h hk (by omega) (hn (by omega)) he
  rename_i c2
  rw [if_neg c2] at he
  split
  · rename_i c3
    rw [if_pos c3] at he
    exact once_free h hk (by omega) he
  rename_i c3
  rw [if_neg c3] at he
  split
  · rename_i c4
    rw [if_pos c4] at he
    exact once_cancel hk (by omega) he
  rename_i c4
  rw [if_neg c4] at he
  split
  · rename_i c5
    rw [if_pos c5] at he
    exact once_tick hk (by omega) he
  · exact once_shut hk (by omega)
end Go.Proofs.YtajjmhpdiikjhaaGreat.Po
namespace Go.Proofs.YtajjmhpdiikjhaaGreat
open Go.RowKit
set_option maxRecDepth 20000
def tiO : TI := ⟨(TypeDesc.tuple #[]), 1, 0, [.tuple #[]], false, [18, 19, 20, 103, 111, 118, 142, 151, 1000025, 1000026]⟩
theorem tioO : TIOk Tryz.prog (0, tiO) := ⟨by kernel_rfl, by kernel_rfl, by kernel_rfl, nofun⟩
def tbO : Tab := (0, tiO) :: tb.tail
theorem tbOOk : TabOk Tryz.prog tbO := ⟨tioO, tbOk.2⟩
@[simp] theorem keepsO_eq : keepsOf tbO = [18, 19, 20, 103, 111, 118, 142, 151, 1000025, 1000026] := rfl
attribute [simp] tiO
@[simp] theorem tblO0 : look 0 tbO = some tiO := rfl
@[simp] theorem tblO1 : look 1 tbO = some ti1 := rfl
@[simp] theorem tblO2 : look 2 tbO = some ti2 := rfl
@[simp] theorem tblO3 : look 3 tbO = some ti3 := rfl
@[simp] theorem tblO4 : look 4 tbO = some ti4 := rfl
@[simp] theorem tblO5 : look 5 tbO = some ti5 := rfl
@[simp] theorem tblO6 : look 6 tbO = some ti6 := rfl
@[simp] theorem tblO7 : look 7 tbO = some ti7 := rfl
@[simp] theorem tblO8 : look 8 tbO = some ti8 := rfl
@[simp] theorem tblO9 : look 9 tbO = some ti9 := rfl
@[simp] theorem tblO10 : look 10 tbO = some ti10 := rfl
@[simp] theorem tblO11 : look 11 tbO = some ti11 := rfl
@[simp] theorem tblO12 : look 12 tbO = some ti12 := rfl
@[simp] theorem tblO13 : look 13 tbO = some ti13 := rfl
@[simp] theorem tblO14 : look 14 tbO = some ti14 := rfl
@[simp] theorem tblO15 : look 15 tbO = some ti15 := rfl
@[simp] theorem tblO16 : look 16 tbO = some ti16 := rfl
@[simp] theorem tblO17 : look 17 tbO = some ti17 := rfl
@[simp] theorem tblO18 : look 18 tbO = some ti18 := rfl
@[simp] theorem tblO19 : look 19 tbO = some ti19 := rfl
@[simp] theorem tblO20 : look 20 tbO = some ti20 := rfl
@[simp] theorem tblO21 : look 21 tbO = some ti21 := rfl
@[simp] theorem tblO22 : look 22 tbO = some ti22 := rfl
@[simp] theorem tblO23 : look 23 tbO = some ti23 := rfl
@[simp] theorem tblO24 : look 24 tbO = some ti24 := rfl
@[simp] theorem tblO25 : look 25 tbO = some ti25 := rfl
@[simp] theorem tblO26 : look 26 tbO = some ti26 := rfl
@[simp] theorem tblO27 : look 27 tbO = some ti27 := rfl
@[simp] theorem tblO28 : look 28 tbO = some ti28 := rfl
@[simp] theorem tblO29 : look 29 tbO = some ti29 := rfl
@[simp] theorem tblO30 : look 30 tbO = some ti30 := rfl
@[simp] theorem tblO31 : look 31 tbO = some ti31 := rfl
@[simp] theorem tblO32 : look 32 tbO = some ti32 := rfl
@[simp] theorem tblO33 : look 33 tbO = some ti33 := rfl
@[simp] theorem tblO34 : look 34 tbO = some ti34 := rfl
@[simp] theorem tblO35 : look 35 tbO = some ti35 := rfl
@[simp] theorem tblO36 : look 36 tbO = some ti36 := rfl
@[simp] theorem tblO37 : look 37 tbO = some ti37 := rfl
@[simp] theorem tblO38 : look 38 tbO = some ti38 := rfl
@[simp] theorem tblO39 : look 39 tbO = some ti39 := rfl
@[simp] theorem tblO40 : look 40 tbO = some ti40 := rfl
@[simp] theorem tblO41 : look 41 tbO = some ti41 := rfl
@[simp] theorem tblO42 : look 42 tbO = some ti42 := rfl
@[simp] theorem tblO43 : look 43 tbO = some ti43 := rfl
@[simp] theorem tblO44 : look 44 tbO = some ti44 := rfl
@[simp] theorem tblO45 : look 45 tbO = some ti45 := rfl
@[simp] theorem tblO46 : look 46 tbO = some ti46 := rfl
@[simp] theorem tblO47 : look 47 tbO = some ti47 := rfl
@[simp] theorem tblO48 : look 48 tbO = some ti48 := rfl
@[simp] theorem tblO49 : look 49 tbO = some ti49 := rfl
@[simp] theorem tblO50 : look 50 tbO = some ti50 := rfl
@[simp] theorem tblO51 : look 51 tbO = some ti51 := rfl
@[simp] theorem tblO52 : look 52 tbO = some ti52 := rfl
@[simp] theorem tblO53 : look 53 tbO = some ti53 := rfl
@[simp] theorem tblO54 : look 54 tbO = some ti54 := rfl
@[simp] theorem tblO55 : look 55 tbO = some ti55 := rfl
@[simp] theorem tblO56 : look 56 tbO = some ti56 := rfl
@[simp] theorem tblO57 : look 57 tbO = some ti57 := rfl
@[simp] theorem tblO58 : look 58 tbO = some ti58 := rfl
@[simp] theorem tblO59 : look 59 tbO = some ti59 := rfl
@[simp] theorem tblO60 : look 60 tbO = some ti60 := rfl
@[simp] theorem tblO61 : look 61 tbO = some ti61 := rfl
@[simp] theorem tblO62 : look 62 tbO = some ti62 := rfl
@[simp] theorem tblO63 : look 63 tbO = some ti63 := rfl
@[simp] theorem tblO64 : look 64 tbO = some ti64 := rfl
@[simp] theorem tblO65 : look 65 tbO = some ti65 := rfl
@[simp] theorem tblO66 : look 66 tbO = some ti66 := rfl
@[simp] theorem tblO67 : look 67 tbO = some ti67 := rfl
@[simp] theorem tblO68 : look 68 tbO = some ti68 := rfl
@[simp] theorem tblO69 : look 69 tbO = some ti69 := rfl
@[simp] theorem tblO70 : look 70 tbO = some ti70 := rfl
@[simp] theorem tblO71 : look 71 tbO = some ti71 := rfl
@[simp] theorem tblO72 : look 72 tbO = some ti72 := rfl
@[simp] theorem tblO73 : look 73 tbO = some ti73 := rfl
@[simp] theorem tblO74 : look 74 tbO = some ti74 := rfl
@[simp] theorem tblO75 : look 75 tbO = some ti75 := rfl
@[simp] theorem tblO76 : look 76 tbO = some ti76 := rfl
@[simp] theorem tblO77 : look 77 tbO = some ti77 := rfl
@[simp] theorem tblO78 : look 78 tbO = some ti78 := rfl
@[simp] theorem tblO79 : look 79 tbO = some ti79 := rfl
@[simp] theorem tblO80 : look 80 tbO = some ti80 := rfl
@[simp] theorem tblO81 : look 81 tbO = some ti81 := rfl
@[simp] theorem tblO82 : look 82 tbO = some ti82 := rfl
@[simp] theorem tblO83 : look 83 tbO = some ti83 := rfl
@[simp] theorem tblO84 : look 84 tbO = some ti84 := rfl
@[simp] theorem tblO85 : look 85 tbO = some ti85 := rfl
@[simp] theorem tblO86 : look 86 tbO = some ti86 := rfl
@[simp] theorem tblO87 : look 87 tbO = some ti87 := rfl
@[simp] theorem tblO88 : look 88 tbO = some ti88 := rfl
@[simp] theorem tblO89 : look 89 tbO = some ti89 := rfl
@[simp] theorem tblO90 : look 90 tbO = some ti90 := rfl
@[simp] theorem tblO91 : look 91 tbO = some ti91 := rfl
@[simp] theorem tblO92 : look 92 tbO = some ti92 := rfl
@[simp] theorem tblO93 : look 93 tbO = some ti93 := rfl
@[simp] theorem tblO94 : look 94 tbO = some ti94 := rfl
@[simp] theorem tblO95 : look 95 tbO = some ti95 := rfl
@[simp] theorem tblO96 : look 96 tbO = some ti96 := rfl
@[simp] theorem tblO97 : look 97 tbO = some ti97 := rfl
@[simp] theorem tblO98 : look 98 tbO = some ti98 := rfl
@[simp] theorem tblO99 : look 99 tbO = some ti99 := rfl
@[simp] theorem tblO100 : look 100 tbO = some ti100 := rfl
@[simp] theorem tblO101 : look 101 tbO = some ti101 := rfl
@[simp] theorem tblO102 : look 102 tbO = some ti102 := rfl
@[simp] theorem tblO103 : look 103 tbO = some ti103 := rfl
@[simp] theorem tblO104 : look 104 tbO = some ti104 := rfl
@[simp] theorem tblO105 : look 105 tbO = some ti105 := rfl
@[simp] theorem tblO106 : look 106 tbO = some ti106 := rfl
@[simp] theorem tblO107 : look 107 tbO = some ti107 := rfl
@[simp] theorem tblO108 : look 108 tbO = some ti108 := rfl
@[simp] theorem tblO109 : look 109 tbO = some ti109 := rfl
@[simp] theorem tblO110 : look 110 tbO = some ti110 := rfl
@[simp] theorem tblO111 : look 111 tbO = some ti111 := rfl
@[simp] theorem tblO112 : look 112 tbO = some ti112 := rfl
@[simp] theorem tblO113 : look 113 tbO = some ti113 := rfl
@[simp] theorem tblO114 : look 114 tbO = some ti114 := rfl
@[simp] theorem tblO115 : look 115 tbO = some ti115 := rfl
@[simp] theorem tblO116 : look 116 tbO = some ti116 := rfl
@[simp] theorem tblO117 : look 117 tbO = some ti117 := rfl
@[simp] theorem tblO118 : look 118 tbO = some ti118 := rfl
@[simp] theorem tblO119 : look 119 tbO = some ti119 := rfl
@[simp] theorem tblO120 : look 120 tbO = some ti120 := rfl
@[simp] theorem tblO121 : look 121 tbO = some ti121 := rfl
@[simp] theorem tblO122 : look 122 tbO = some ti122 := rfl
@[simp] theorem tblO123 : look 123 tbO = some ti123 := rfl
@[simp] theorem tblO124 : look 124 tbO = some ti124 := rfl
@[simp] theorem tblO125 : look 125 tbO = some ti125 := rfl
@[simp] theorem tblO126 : look 126 tbO = some ti126 := rfl
@[simp] theorem tblO127 : look 127 tbO = some ti127 := rfl
@[simp] theorem tblO128 : look 128 tbO = some ti128 := rfl
@[simp] theorem tblO129 : look 129 tbO = some ti129 := rfl
@[simp] theorem tblO130 : look 130 tbO = some ti130 := rfl
@[simp] theorem tblO131 : look 131 tbO = some ti131 := rfl
@[simp] theorem tblO132 : look 132 tbO = some ti132 := rfl
@[simp] theorem tblO133 : look 133 tbO = some ti133 := rfl
@[simp] theorem tblO134 : look 134 tbO = some ti134 := rfl
@[simp] theorem tblO135 : look 135 tbO = some ti135 := rfl
@[simp] theorem tblO136 : look 136 tbO = some ti136 := rfl
@[simp] theorem tblO137 : look 137 tbO = some ti137 := rfl
@[simp] theorem tblO138 : look 138 tbO = some ti138 := rfl
@[simp] theorem tblO139 : look 139 tbO = some ti139 := rfl
@[simp] theorem tblO140 : look 140 tbO = some ti140 := rfl
@[simp] theorem tblO141 : look 141 tbO = some ti141 := rfl
@[simp] theorem tblO142 : look 142 tbO = some ti142 := rfl
@[simp] theorem tblO143 : look 143 tbO = some ti143 := rfl
@[simp] theorem tblO144 : look 144 tbO = some ti144 := rfl
@[simp] theorem tblO145 : look 145 tbO = some ti145 := rfl
@[simp] theorem tblO146 : look 146 tbO = some ti146 := rfl
@[simp] theorem tblO147 : look 147 tbO = some ti147 := rfl
@[simp] theorem tblO148 : look 148 tbO = some ti148 := rfl
@[simp] theorem tblO149 : look 149 tbO = some ti149 := rfl
@[simp] theorem tblO150 : look 150 tbO = some ti150 := rfl
@[simp] theorem tblO151 : look 151 tbO = some ti151 := rfl
@[simp] theorem tblO152 : look 152 tbO = some ti152 := rfl
@[simp] theorem tblO153 : look 153 tbO = some ti153 := rfl
@[simp] theorem tblO154 : look 154 tbO = some ti154 := rfl
@[simp] theorem tblO155 : look 155 tbO = some ti155 := rfl
@[simp] theorem tblO156 : look 156 tbO = some ti156 := rfl
@[simp] theorem tblO157 : look 157 tbO = some ti157 := rfl
@[simp] theorem tblO158 : look 158 tbO = some ti158 := rfl
@[simp] theorem tblO159 : look 159 tbO = some ti159 := rfl
@[simp] theorem tblO160 : look 160 tbO = some ti160 := rfl
@[simp] theorem tblO161 : look 161 tbO = some ti161 := rfl
@[simp] theorem tblO162 : look 162 tbO = some ti162 := rfl
@[simp] theorem tblO163 : look 163 tbO = some ti163 := rfl
@[simp] theorem tblO164 : look 164 tbO = some ti164 := rfl
@[simp] theorem tblO165 : look 165 tbO = some ti165 := rfl
@[simp] theorem tblO166 : look 166 tbO = some ti166 := rfl
@[simp] theorem tblO167 : look 167 tbO = some ti167 := rfl
@[simp] theorem tblO168 : look 168 tbO = some ti168 := rfl
@[simp] theorem tblO169 : look 169 tbO = some ti169 := rfl
@[simp] theorem tblO170 : look 170 tbO = some ti170 := rfl
@[simp] theorem tblO171 : look 171 tbO = some ti171 := rfl
@[simp] theorem tblO172 : look 172 tbO = some ti172 := rfl
@[simp] theorem tblO173 : look 173 tbO = some ti173 := rfl
@[simp] theorem tblO174 : look 174 tbO = some ti174 := rfl
@[simp] theorem tblO175 : look 175 tbO = some ti175 := rfl
@[simp] theorem tblO176 : look 176 tbO = some ti176 := rfl
@[simp] theorem tblO177 : look 177 tbO = some ti177 := rfl
@[simp] theorem tblO178 : look 178 tbO = some ti178 := rfl
@[simp] theorem tblO179 : look 179 tbO = some ti179 := rfl
@[simp] theorem tblO180 : look 180 tbO = some ti180 := rfl
@[simp] theorem tblO181 : look 181 tbO = some ti181 := rfl
@[simp] theorem tblO182 : look 182 tbO = some ti182 := rfl
@[simp] theorem tblO183 : look 183 tbO = some ti183 := rfl
@[simp] theorem tblO184 : look 184 tbO = some ti184 := rfl
@[simp] theorem tblO185 : look 185 tbO = some ti185 := rfl
@[simp] theorem tblO186 : look 186 tbO = some ti186 := rfl
@[simp] theorem tblO187 : look 187 tbO = some ti187 := rfl
@[simp] theorem tblO188 : look 188 tbO = some ti188 := rfl
@[simp] theorem tblO189 : look 189 tbO = some ti189 := rfl
@[simp] theorem tblO190 : look 190 tbO = some ti190 := rfl
@[simp] theorem tblO191 : look 191 tbO = some ti191 := rfl
@[simp] theorem tblO192 : look 192 tbO = some ti192 := rfl
@[simp] theorem tblO193 : look 193 tbO = some ti193 := rfl
@[simp] theorem tblO194 : look 194 tbO = some ti194 := rfl
@[simp] theorem tblO195 : look 195 tbO = some ti195 := rfl
@[simp] theorem tblO196 : look 196 tbO = some ti196 := rfl
@[simp] theorem tblO197 : look 197 tbO = some ti197 := rfl
@[simp] theorem tblO198 : look 198 tbO = some ti198 := rfl
@[simp] theorem tblO199 : look 199 tbO = some ti199 := rfl
@[simp] theorem tblO200 : look 200 tbO = some ti200 := rfl
@[simp] theorem tblO201 : look 201 tbO = some ti201 := rfl
@[simp] theorem tblO202 : look 202 tbO = some ti202 := rfl
@[simp] theorem tblO203 : look 203 tbO = some ti203 := rfl
@[simp] theorem tblO204 : look 204 tbO = some ti204 := rfl
@[simp] theorem tblO205 : look 205 tbO = some ti205 := rfl
@[simp] theorem tblO206 : look 206 tbO = some ti206 := rfl
@[simp] theorem tblO207 : look 207 tbO = some ti207 := rfl
@[simp] theorem tblO208 : look 208 tbO = some ti208 := rfl
@[simp] theorem tblO209 : look 209 tbO = some ti209 := rfl
@[simp] theorem tblO210 : look 210 tbO = some ti210 := rfl
@[simp] theorem tblO211 : look 211 tbO = some ti211 := rfl
@[simp] theorem tblO212 : look 212 tbO = some ti212 := rfl
@[simp] theorem tblO213 : look 213 tbO = some ti213 := rfl
@[simp] theorem tblO214 : look 214 tbO = some ti214 := rfl
@[simp] theorem tblO215 : look 215 tbO = some ti215 := rfl
@[simp] theorem tblO216 : look 216 tbO = some ti216 := rfl
@[simp] theorem tblO217 : look 217 tbO = some ti217 := rfl
@[simp] theorem tblO218 : look 218 tbO = some ti218 := rfl
@[simp] theorem tblO219 : look 219 tbO = some ti219 := rfl
end Go.Proofs.YtajjmhpdiikjhaaGreat
namespace Go.Proofs.YtajjmhpdiikjhaaGreat.Po
set_option maxRecDepth 100000
open Go.RowKit

set_option maxHeartbeats 2000000 in
theorem found_at {l : List Kc} {c : Int} {j : Nat} {k : Kc} (h : KAt l c j k) (hl : l.length < 4294967296) : Meets Tryz.prog 18 [.rw 1000000 l.length, .i c] [.row 55 5 (l.map Kc.ds) false] (fun r => r = ⟨.i j, [.row 55 5 (l.map Kc.ds) false], []⟩) := by
  refine meetsH [] tbOOk mixed Tryz.func18 pl18 rfl rfl ?_
  obtain ⟨hk, hc, hno⟩ := h
  have hjl := (List.getElem?_eq_some_iff.1 hk).1
  simp [Tryz.ntmps18]
  refine vc_loop (fun m σ => ∃ n : Nat, m = j - n ∧ n ≤ j ∧ σ = ⟨20, [(5, .i n), (0, .rw 1000000 l.length), (1, .i c)], [(1000000, .row 55 5 (l.map Kc.ds) false)]⟩) ?_ ?_
  · exact ⟨_, _, ⟨0, rfl, Nat.zero_le _, rfl⟩, [], _, rfl, by simp⟩
  rintro m σ ⟨n, rfl, hn, rfl⟩
  have hlt : n < l.length := by omega
  obtain ⟨y, hy, e⟩ := at_lt hlt
  have wk := wrap_succ hlt hl
  by_cases hnj : n = j
  · subst hnj
    have : y = k := by rw [hk] at hy; exact (Option.some.inj hy).symm
    subst this
    simp [hlt, e, hc]
    exact vcRet_of [] (by simp) rfl
  · have hyc : ¬ y.id = c := hno n y (by omega) hy
    simp [hlt, e, hyc, wk]
    refine ⟨_, ?_, _, ⟨n + 1, rfl, by omega, rfl⟩, [], _, rfl, by simp⟩
    omega
set_option maxHeartbeats 2000000 in
theorem found_not {l : List Kc} {c : Int} (h : ∀ k ∈ l, k.id ≠ c) (hl : l.length < 4294967296) : Meets Tryz.prog 18 [.rw 1000000 l.length, .i c] [.row 55 5 (l.map Kc.ds) false] (fun r => r = ⟨.i (-1), [.row 55 5 (l.map Kc.ds) false], []⟩) := by
  refine meetsH [] tbOOk mixed Tryz.func18 pl18 rfl rfl ?_
  simp [Tryz.ntmps18]
  refine vc_loop (fun m σ => ∃ n : Nat, m = l.length - n ∧ n ≤ l.length ∧ σ = ⟨20, [(5, .i n), (0, .rw 1000000 l.length), (1, .i c)], [(1000000, .row 55 5 (l.map Kc.ds) false)]⟩) ?_ ?_
  · exact ⟨_, _, ⟨0, rfl, Nat.zero_le _, rfl⟩, [], _, rfl, by simp⟩
  rintro m σ ⟨n, rfl, hn, rfl⟩
  by_cases hlt : n < l.length
  · obtain ⟨y, hy, e⟩ := at_lt hlt
    have wk := wrap_succ hlt hl
    have hyc : ¬ y.id = c := h y (List.mem_of_getElem? hy)
    simp [hlt, e, hyc, wk]
    refine ⟨_, ?_, _, ⟨n + 1, rfl, hlt, rfl⟩, [], _, rfl, by simp⟩
    omega
  obtain rfl : n = l.length := by omega
  simp
  exact vcRet_of [] (by simp) rfl
set_option maxHeartbeats 8000000 in
theorem granted_m {l : List Kc} {c ca now m q i a : Int} {j : Nat} {k : Kc} (h : KAt l c j k) (hl : l.length < 4294967296) (h1 : k.closed = false) (h2 : k.call = 0) (h3 : now - k.since < i) (h4 : now - k.born < a) (h5 : Bd now k) (h6 : now ≤ 1000000000000) :
    Meets Tryz.prog 19 [.rw 1000000 l.length, .i c, .i ca, .i now, .agg [.i m, .i q, .i i, .i a]] [.row 55 5 (l.map Kc.ds) false] (fun r => r = ⟨.b true, [.row 55 5 ((l.set j { k with call := ca }).map Kc.ds) false], []⟩) := by
  refine meetsH [] tbOOk mixed Tryz.func19 pl19 rfl rfl ?_
  have hf := found_at h hl
  obtain ⟨hk, hc, hno⟩ := h
  obtain ⟨b1, b2, b3, b4⟩ := h5
  obtain ⟨hjl, e⟩ := List.getElem?_eq_some_iff.1 hk
  have w1 : IntKind.i64.wrap (now - k.since) = now - k.since := IntWalk.i64_in _ (by omega)
  have w2 : IntKind.i64.wrap (now - k.born) = now - k.born := IntWalk.i64_in _ (by omega)
  have n1 : ¬ i ≤ now - k.since := by omega
  have n2 : ¬ a ≤ now - k.born := by omega
  simp [Tryz.ntmps19]
  refine hf.mono ?_
  rintro _ rfl
  have hj0 : ¬ (j : Int) < 0 := by omega
  simp [hjl, e, h1, h2, w1, w2, n1, n2, hj0]
  refine ⟨by kernel_rfl, ?_⟩
  refine vcRet_of [] ?_ rfl
  simp
/-- An effect. -/
theorem other_m {l : List Kc} {y : Ef} {now m q i a : Int} (h1 : y.kind ≠ 1) (h2 : y.kind ≠ 11) :
    Meets Tryz.prog 20 [.rw 1000000 l.length, .agg [.i y.kind, .i y.back, .i y.call, .i y.conn], .i now, .agg [.i m, .i q, .i i, .i a]] [.row 55 5 (l.map Kc.ds) false] (fun r => r = ⟨.b true, [.row 55 5 (l.map Kc.ds) false], []⟩) := by
  refine meetsH [] tbOOk mixed Tryz.func20 pl20 rfl rfl ?_
  simp [Tryz.ntmps20, h1, h2]
  exact vcRet_of [] (by simp) rfl
set_option maxHeartbeats 8000000 in
theorem grantE_m {l : List Kc} {y : Ef} {now m q i a : Int} {j : Nat} {k : Kc} (hy : y.kind = 1) (h : KAt l y.conn j k) (hl : l.length < 4294967296) (h1 : k.closed = false) (h2 : k.call = 0) (h3 : now - k.since < i) (h4 : now - k.born < a) (h5 : Bd now k) (h6 : now ≤ 1000000000000) :
    Meets Tryz.prog 20 [.rw 1000000 l.length, .agg [.i y.kind, .i y.back, .i y.call, .i y.conn], .i now, .agg [.i m, .i q, .i i, .i a]] [.row 55 5 (l.map Kc.ds) false] (fun r => r = ⟨.b true, [.row 55 5 ((l.set j { k with call := y.call }).map Kc.ds) false], []⟩) := by
  refine meetsH [] tbOOk mixed Tryz.func20 pl20 rfl rfl ?_
  have hg := granted_m (ca := y.call) (m := m) (q := q) h hl h1 h2 h3 h4 h5 h6
  simp [Tryz.ntmps20, hy]
  refine hg.mono ?_
  rintro _ rfl
  simp
  exact vcRet_of [] (by simp) rfl
set_option maxHeartbeats 8000000 in
theorem closeE_m {l : List Kc} {y : Ef} {now m q i a : Int} {j : Nat} {k : Kc} (hy : y.kind = 11) (h : KAt l y.conn j k) (hl : l.length < 4294967296) (h1 : k.closed = false) (h2 : k.call = 0) :
    Meets Tryz.prog 20 [.rw 1000000 l.length, .agg [.i y.kind, .i y.back, .i y.call, .i y.conn], .i now, .agg [.i m, .i q, .i i, .i a]] [.row 55 5 (l.map Kc.ds) false] (fun r => r = ⟨.b true, [.row 55 5 ((l.set j { k with closed := true }).map Kc.ds) false], []⟩) := by
  refine meetsH [] tbOOk mixed Tryz.func20 pl20 rfl rfl ?_
  have hf := found_at h hl
  obtain ⟨hk, hc, hno⟩ := h
  obtain ⟨hjl, e⟩ := List.getElem?_eq_some_iff.1 hk
  have hj0 : ¬ (j : Int) < 0 := by omega
  simp [Tryz.ntmps20, hy]
  refine hf.mono ?_
  rintro _ rfl
  simp [hjl, e, hj0, h1, h2]
  refine vcRet_of [] ?_ rfl
  simp
/-- What is left. -/
def isL (ls : List Ls) (k : Kc) (j : Nat) : Bool := (ls.take j).any fun x => x.conn == k.id && x.call == k.call
def isI (cs : List Id.Cn) (k : Kc) (j : Nat) : Bool := (cs.take j).any fun x => x.conn == k.id && k.call == 0
theorem isL_succ {ls : List Ls} {k : Kc} {j : Nat} {x : Ls} (h : ls[j]? = some x) : isL ls k (j + 1) = (isL ls k j || (x.conn == k.id && x.call == k.call)) := by simp [isL, List.take_add_one, h]
theorem isI_succ {cs : List Id.Cn} {k : Kc} {j : Nat} {x : Id.Cn} (h : cs[j]? = some x) : isI cs k (j + 1) = (isI cs k j || (x.conn == k.id && k.call == 0)) := by simp [isI, List.take_add_one, h]
def aliveN (l : List Kc) (j : Nat) : Nat := (alive (l.take j)).length
theorem aliveN_succ {l : List Kc} {j : Nat} {k : Kc} (h : l[j]? = some k) : aliveN l (j + 1) = aliveN l j + if k.closed = true then 0 else 1 := by
  unfold aliveN alive
  rw [List.take_add_one, h, List.filter_append, List.length_append]
  cases hc : k.closed <;> simp [hc]
theorem aliveN_le (l : List Kc) (j : Nat) : aliveN l j ≤ j := by
  unfold aliveN alive
  exact Nat.le_trans (List.length_filter_le _ _) (by simp; omega)
set_option maxHeartbeats 16000000 in
theorem kept_m {l : List Kc} {s : Po} (hK : KInv l (here s)) (hl : l.length < 1000) (h1 : s.ls.length < 1000) (h2 : s.idle.cs.length < 1000) : Meets Tryz.prog 21 [.d (kl l), s.pv] [] (Ret (.b true)) := by
  refine meetsH [] tbOOk mixed Tryz.func21 pl21 rfl rfl ?_
  have hall : ∀ k ∈ l, k.closed = false → isL s.ls k s.ls.length = true ∨ isI s.idle.cs k s.idle.cs.length = true := fun k hk hc => by
    have hm : kt k ∈ here s := hK.pm.mem_iff.1 (List.mem_map_of_mem (List.mem_filter.2 ⟨hk, by simp [hc]⟩))
    rcases List.mem_append.1 hm with hm | hm
    · obtain ⟨x, hx, e⟩ := List.mem_map.1 hm
      left
      rw [isL, List.take_length, List.any_eq_true]
      have e1 : x.conn = k.id := congrArg (·.1) e
      have e2 : x.call = k.call := congrArg (·.2.1) e
      exact ⟨x, hx, by simp [e1, e2]⟩
    · obtain ⟨x, hx, e⟩ := List.mem_map.1 hm
      right
      rw [isI, List.take_length, List.any_eq_true]
      have e1 : x.conn = k.id := congrArg (·.1) e
      have e2 : 0 = k.call := congrArg (·.2.1) e
      exact ⟨x, hx, by simp [e1, ← e2]⟩
  have hcount : aliveN l l.length = s.ls.length + s.idle.cs.length := by
    have := hK.pm.length_eq
    unfold aliveN
    rw [List.take_length]
    simpa [here] using this
  have hw : IntKind.i64.wrap ((s.ls.length : Int) + s.idle.cs.length) = (s.ls.length : Int) + s.idle.cs.length := IntWalk.i64_in _ (by omega)
  simp [Tryz.ntmps21]
  refine vc_loop (fun m σ => ∃ n : Nat, m = l.length - n ∧ n ≤ l.length ∧ σ = ⟨103, [(6, .i n), (5, .i (aliveN l n : Nat)), (3, .ptr 3 0), (0, .d (kl l)), (4, .b false)], [(3, .box 31 s.cells)]⟩) ?_ ?_
  · exact ⟨_, _, ⟨0, rfl, Nat.zero_le _, rfl⟩, [], _, rfl, by simp [aliveN, alive]⟩
  rintro m σ ⟨n, rfl, hn, rfl⟩
  by_cases hlt : n < l.length
  · obtain ⟨k, hk, e⟩ := at_lt hlt
    have wn := wrap_succ hlt (by omega)
    have hs := aliveN_succ hk
    have hle := aliveN_le l n
    have wc1 : IntKind.i64.wrap ((aliveN l n : Int) + 1) = (aliveN l n : Int) + 1 := IntWalk.i64_in _ (by omega)
    cases hc : k.closed
    case true =>
      rw [if_pos hc] at hs
      simp [hlt, e, hc, wn]
      refine ⟨_, ?_, _, ⟨n + 1, rfl, hlt, rfl⟩, [], _, rfl, by simp [hs]⟩
      omega
    rw [if_neg (by rw [hc]; simp)] at hs
    have hkk := hall k (List.mem_of_getElem? hk) hc
    simp [hlt, e, hc, wc1]
    refine vc_loop (fun m σ => ∃ j : Nat, m = s.ls.length - j ∧ j ≤ s.ls.length ∧ σ = ⟨103, [(8, .i j), (7, .b (isL s.ls k j)), (6, .i n), (5, .i ((aliveN l n : Int) + 1)), (3, .ptr 3 0), (0, .d (kl l)), (4, .b false)], [(3, .box 31 s.cells)]⟩) ?_ ?_
    · exact ⟨_, _, ⟨0, rfl, Nat.zero_le _, rfl⟩, [], _, rfl, by simp [isL]⟩
    rintro m σ ⟨j, rfl, hj, rfl⟩
    by_cases hlj : j < s.ls.length
    · obtain ⟨x, hx, ex⟩ := at_lt hlj
      have wj := wrap_succ hlj (by omega)
      have hsl := isL_succ (k := k) hx
      cases hb : isL s.ls k j
      · by_cases c1 : x.conn = k.id
        · by_cases c2 : x.call = k.call
          · simp [hlj, ex, hlt, e, c1, c2, wj]
            refine ⟨by kernel_rfl, _, ?_, _, ⟨j + 1, rfl, hlj, rfl⟩, [], _, rfl, by simp [hsl, c1, c2]⟩
            omega
          · simp [hlj, ex, hlt, e, c1, c2, wj]
            refine ⟨by kernel_rfl, _, ?_, _, ⟨j + 1, rfl, hlj, rfl⟩, [], _, rfl, by simp [hsl, hb, c1, c2]⟩
            omega
        · simp [hlj, ex, hlt, e, c1, wj]
          refine ⟨by kernel_rfl, _, ?_, _, ⟨j + 1, rfl, hlj, rfl⟩, [], _, rfl, by simp [hsl, hb, c1]⟩
          omega
      · simp [hlj, wj]
        refine ⟨by kernel_rfl, _, ?_, _, ⟨j + 1, rfl, hlj, rfl⟩, [], _, rfl, by simp [hsl, hb]⟩
        omega
    obtain rfl : j = s.ls.length := by omega
    generalize isL s.ls k s.ls.length = b0 at hkk ⊢
    simp
    refine vc_loop (fun m σ => ∃ j : Nat, m = s.idle.cs.length - j ∧ j ≤ s.idle.cs.length ∧ σ = ⟨103, [(9, .i j), (7, .b (b0 || isI s.idle.cs k j)), (6, .i n), (5, .i ((aliveN l n : Int) + 1)), (3, .ptr 3 0), (0, .d (kl l)), (4, .b false)], [(3, .box 31 s.cells)]⟩) ?_ ?_
    · exact ⟨_, _, ⟨0, rfl, Nat.zero_le _, rfl⟩, [], _, rfl, by simp [isI]⟩
    rintro m σ ⟨j, rfl, hj, rfl⟩
    by_cases hlj : j < s.idle.cs.length
    · obtain ⟨x, hx, ex⟩ := at_lt hlj
      have wj := wrap_succ hlj (by omega)
      have hsl := isI_succ (k := k) hx
      cases hb : (b0 || isI s.idle.cs k j)
      · obtain ⟨hb0, hb1⟩ := Bool.or_eq_false_iff.1 hb
        by_cases c1 : x.conn = k.id
        · by_cases c2 : k.call = 0
          · simp [hlj, ex, hlt, e, c1, c2, wj]
            refine ⟨by kernel_rfl, _, ?_, _, ⟨j + 1, rfl, hlj, rfl⟩, [], _, rfl, by simp [hsl, c1, c2]⟩
            omega
          · simp [hlj, ex, hlt, e, c1, c2, wj]
            refine ⟨by kernel_rfl, _, ?_, _, ⟨j + 1, rfl, hlj, rfl⟩, [], _, rfl, by simp [hsl, hb0, hb1, c1, c2]⟩
            omega
        · simp [hlj, ex, hlt, e, c1, wj]
          refine ⟨by kernel_rfl, _, ?_, _, ⟨j + 1, rfl, hlj, rfl⟩, [], _, rfl, by simp [hsl, hb0, hb1, c1]⟩
          omega
      · simp [hlj, wj]
        refine ⟨by kernel_rfl, _, ?_, _, ⟨j + 1, rfl, hlj, rfl⟩, [], _, rfl, by simp [hsl, ← Bool.or_assoc, hb]⟩
        omega
    obtain rfl : j = s.idle.cs.length := by omega
    have hyes : (b0 || isI s.idle.cs k s.idle.cs.length) = true := by rw [Bool.or_eq_true]; exact hkk
    rw [hyes]
    simp [wn]
    refine ⟨_, ?_, _, ⟨n + 1, rfl, hlt, rfl⟩, [], _, rfl, by simp [hs]⟩
    omega
  obtain rfl : n = l.length := by omega
  simp [hw, hcount]
  exact vcRet_of [] (by simp) rfl
end Go.Proofs.YtajjmhpdiikjhaaGreat.Po
namespace Go.Proofs.YtajjmhpdiikjhaaGreat.Po
set_option maxRecDepth 100000
open Go.RowKit

inductive OnInv (m q i a : Int) (xs : List Act) : Nat → Sta → Prop
  | mk {n : Nat} {K : List Kc} {t : Po} : n ≤ xs.length → K.length ≤ n → Fine t → t.idle.idle = i → t.idle.age = a → KInv K (here t) → OnInv m q i a xs (xs.length - n)
      ⟨158, [(8, .i n), (7, .rw 7 K.length), (2, .ptr 2 0), (5, .ptr 5 0), (1, .d (al xs)), (4, .b false)], [(7, .row 55 5 (K.map Kc.ds) false), (2, .box 47 [.i m, .i q, .i i, .i a]), (5, .box 31 t.cells)]⟩
inductive GInv (m q i a : Int) (xs : List Act) (n : Nat) (t t2 : Po) (es : List Ef) (v : List Kc) : Nat → Sta → Prop
  | mk {j : Nat} {w : List Kc} : j ≤ es.length → w.length ≤ n + 1 → EffE t2.now i a w (es.drop j) v → GInv m q i a xs n t t2 es v (es.length - j)
      ⟨158, [(16, .i j), (13, .d (el es)), (7, .rw 7 w.length), (8, .i n), (2, .ptr 2 0), (5, .ptr 5 0), (11, .ptr 11 0), (1, .d (al xs)), (4, .b false)],
        [(7, .row 55 5 (w.map Kc.ds) false), (2, .box 47 [.i m, .i q, .i i, .i a]), (5, .box 31 t.cells), (11, .box 31 t2.cells)]⟩
@[simp] theorem take_kds (K : List Kc) : List.take K.length (List.map Kc.ds K) = List.map Kc.ds K := List.take_of_length_le (by simp)
/-- Freed so far. -/
def frL (c now : Int) (K : List Kc) (k : Nat) : List Kc := (K.take k).map (fre c now) ++ K.drop k
theorem frL_len (c now : Int) (K : List Kc) (k : Nat) : (frL c now K k).length = K.length := by
  unfold frL
  rw [List.length_append, List.length_map, ← List.length_append, List.take_append_drop]
theorem frL_zero (c now : Int) (K : List Kc) : frL c now K 0 = K := rfl
theorem frL_end (c now : Int) (K : List Kc) : frL c now K K.length = K.map (fre c now) := by
  unfold frL
  rw [List.take_length, List.drop_length, List.append_nil]
theorem frL_at {c now : Int} {K : List Kc} {k : Nat} {y : Kc} (h : K[k]? = some y) : (frL c now K k)[k]? = some y := by
  have := (List.getElem?_eq_some_iff.1 h).1
  unfold frL
  rw [List.getElem?_append_right (by simp; omega), List.length_map, List.length_take, Nat.min_eq_left (by omega), Nat.sub_self, List.getElem?_drop]
  simpa using h
theorem frL_succ {c now : Int} {K : List Kc} {k : Nat} {y : Kc} (h : K[k]? = some y) : frL c now K (k + 1) = (frL c now K k).set k (fre c now y) := by
  obtain ⟨hk, e⟩ := List.getElem?_eq_some_iff.1 h
  have hd : K.drop k = y :: K.drop (k + 1) := by rw [List.drop_eq_getElem_cons hk, e]
  unfold frL
  rw [hd, List.take_add_one, h]
  have hl : ((K.take k).map (fre c now)).length = k := by simp; omega
  rw [List.set_append_right _ _ (by omega), hl, Nat.sub_self]
  simp
inductive LInv (m q i a : Int) (xs : List Act) (n : Nat) (t t2 : Po) (r : Rs) (es : List Ef) (x : Act) (K : List Kc) : Nat → Sta → Prop
  | mk {k : Nat} : k ≤ K.length → LInv m q i a xs n t t2 r es x K (K.length - k)
      ⟨158, [(15, .i k), (13, .d (el es)), (7, .rw 7 (frL x.call t2.now K k).length), (8, .i n), (2, .ptr 2 0), (5, .ptr 5 0), (9, .ptr 9 0), (11, .ptr 11 0), (12, .ptr 12 0), (1, .d (al xs)), (4, .b false)],
        [(7, .row 55 5 ((frL x.call t2.now K k).map Kc.ds) false), (2, .box 47 [.i m, .i q, .i i, .i a]), (5, .box 31 t.cells), (9, .box 42 [.d (.v (.int .u8 x.what)), .i x.call, .i x.conn, .i x.at_, .b x.yes]), (11, .box 31 t2.cells), (12, .box 36 [.i r.kind, .i r.back, .i r.conn])]⟩
theorem kat_of {K : List Kc} {c : Int} (h : ∃ k ∈ K, k.id = c) : ∃ j k, KAt K c j k := by
  induction K with
  | nil => obtain ⟨k, hk, _⟩ := h; cases hk
  | cons y K ih =>
    by_cases hy : y.id = c
    · exact ⟨0, y, rfl, hy, fun j _ hj => absurd hj (Nat.not_lt_zero j)⟩
    · obtain ⟨k, hk, e⟩ := h
      rcases List.mem_cons.1 hk with rfl | hk
      · exact absurd e hy
      · obtain ⟨j, z, h1, h2, h3⟩ := ih ⟨k, hk, e⟩
        refine ⟨j + 1, z, h1, h2, fun jj u hj hu => ?_⟩
        cases jj with
        | zero =>
          have : y = u := by simpa using hu
          rw [← this]; exact hy
        | succ jj => exact h3 jj u (by omega) (by simpa using hu)
set_option maxHeartbeats 64000000 in
theorem once_m (m q i a : Int) (xs : List Act) (hx0 : ∀ x ∈ xs, 0 ≤ x.what) : Meets Tryz.prog 5 [.agg [.i m, .i q, .i i, .i a], .d (al xs)] [] (Ret (.b true)) := by
  refine meetsH [] tbOOk mixed Tryz.func5 pl5 rfl rfl ?_
  by_cases h60 : (60 : Int) < xs.length
  · simp [Tryz.ntmps5, h60]
    refine shown_m.mono ?_
    rintro _ rfl
    simp
    exact vcRet_of [] (by simp) rfl
  have hbg := begun_m m q i a
  simp at hbg
  simp [Tryz.ntmps5, h60]
  refine hbg.mono ?_
  rintro _ rfl
  cases hb : begB m q i a
  case false =>
    simp
    refine shown_m.mono ?_
    rintro _ rfl
    simp
    exact vcRet_of [] (by simp) rfl
  have hf0 := beg_fine hb
  obtain ⟨hz1, hz2, hz3⟩ : (beg m q i a).idle.idle = i ∧ (beg m q i a).idle.age = a ∧ here (beg m q i a) = [] := by
    have h := hb
    unfold begB at h
    unfold beg
    by_cases hf : fits 0 m q i a
    · rw [new_yes hf]; exact ⟨rfl, rfl, rfl⟩
    · rw [new_no hf] at h; simp at h
  have hK0 : KInv [] (here (beg m q i a)) := by rw [hz3]; exact ⟨by simp, .refl _⟩
  generalize beg m q i a = s at hf0 hz1 hz2 hK0 ⊢
  simp
  refine vc_loop (OnInv m q i a xs) ?_ ?_
  · exact ⟨_, _, .mk (n := 0) (K := []) (t := s) (Nat.zero_le _) (Nat.le_refl _) hf0 hz1 hz2 hK0, [.row 7 55 5], _, rfl, by simp⟩
  intro n' σ hI
  cases hI with
  | @mk n K t hn hKn hf hti hta hK =>
  by_cases hlt : n < xs.length
  case neg =>
    obtain rfl : n = xs.length := by omega
    have hkm := kept_m hK (by omega) (by have := hf.f.llen; omega) (by have := hf.f.ilen; omega)
    simp at hkm
    simp
    refine hkm.mono ?_
    rintro _ rfl
    simp
    refine shown_m.mono ?_
    rintro _ rfl
    simp
    exact vcRet_of [] (by simp) rfl
  obtain ⟨x, hx, e⟩ := at_lt hlt
  have wk := wrap_succ hlt (by omega)
  have hx00 := hx0 x (List.mem_of_getElem? hx)
  have hd := do_m t hf.f.held x hx00
  have hln := do_len (s := t) x
  have hft := do_fine hf x
  have hor := do_once hf (x := x) hK
  have her := do_err (s := t) x
  generalize doA t x = o at hd hln hft hor her
  obtain ⟨t2, r, es, er⟩ := o
  dsimp only at hd hln hft hor
  simp at hd
  have hnow := (timeOk_iff.1 hft.f.n.now).2
  have hmd : x.m = x.what.tmod 12 := rfl
  by_cases h4 : x.what.tmod 12 = 4
  · have h6 : ¬ (6 : Int) ≤ x.what.tmod 12 := by omega
    cases hy : x.yes
    · rw [hy] at hd
      simp [hlt, e, h4, hy]
      refine hd.mono ?_
      rintro _ rfl
      by_cases he : er = 0
      · have hor := hor (fun _ h => by rw [hy] at h; cases h) hx00
        have hkn : kn2 (kn1 K x t2.now) x t2.now = K := by rw [kn_mid (by omega), if_neg (by rw [hy]; simp)]
        obtain ⟨⟨l3, v, hg1, hg2, hE, hv⟩, hl1, hl2⟩ := hor he
        dsimp only at hg1 hg2 hE hv hl1 hl2
        rw [hkn] at hg1 hg2
        rw [hti, hta] at hg1 hE
        rw [hti] at hl1
        rw [hta] at hl2
        by_cases hk1 : r.kind = 1
        · obtain ⟨j, k, ha, a1, a2, a3, a4, a5, rfl⟩ := hg1 hk1
          have hgm := granted_m (ca := x.call) (m := m) (q := q) ha (by first | omega | (simp; omega)) a1 a2 a3 a4 a5 hnow
          simp at hgm
          simp [he, h4, hk1]
          refine hgm.mono ?_
          rintro _ rfl
          simp
          refine vc_loop (GInv m q i a xs n t t2 es v) ?_ ?_
          · exact ⟨_, _, .mk (j := 0) (w := (K).set j { k with call := x.call }) (Nat.zero_le _) (by first | omega | (simp; omega)) (by simpa using hE), [], _, rfl, by simp⟩
          intro n'' σ hI
          cases hI with
          | @mk j w hj hw hEj =>
          by_cases hlj : j < es.length
          · obtain ⟨y, hy, ey⟩ := at_lt hlj
            have wj := wrap_succ hlj hln
            have hdj : es.drop j = y :: es.drop (j + 1) := by rw [List.drop_eq_getElem_cons hlj, ey]
            rw [hdj] at hEj
            cases hEj with
            | other b1 b2 b3 =>
              have hm := other_m (l := w) (now := t2.now) (m := m) (q := q) (i := i) (a := a) b1 b2
              simp [hlj, ey]
              refine effCall hm ?_
              simp [wj]
              refine ⟨by kernel_rfl, _, ?_, _, .mk (j := j + 1) (w := w) hlj hw b3, [], _, rfl, by simp⟩
              omega
            | @close _ _ _ _ jj k b1 b2 b3 b4 b5 =>
              have hm := closeE_m (now := t2.now) (m := m) (q := q) (i := i) (a := a) b1 b2 (by omega) b3 b4
              simp at hm
              simp [hlj, ey]
              refine effCallN hm ?_
              simp [wj]
              refine ⟨by kernel_rfl, _, ?_, _, .mk (j := j + 1) (w := w.set jj { k with closed := true }) hlj (by simpa using hw) b5, [], _, rfl, by simp⟩
              omega
            | @grant _ _ _ _ jj k b1 b2 b3 b4 b5 b6 b7 b8 =>
              have hm := grantE_m (now := t2.now) (m := m) (q := q) (i := i) (a := a) b1 b2 (by omega) b3 b4 b5 b6 b7 hnow
              simp at hm
              simp [hlj, ey]
              refine effCallN hm ?_
              simp [wj]
              refine ⟨by kernel_rfl, _, ?_, _, .mk (j := j + 1) (w := w.set jj { k with call := y.call }) hlj (by simpa using hw) b8, [], _, rfl, by simp⟩
              omega
          obtain rfl : j = es.length := by omega
          have hve : w = v := by rw [List.drop_length] at hEj; cases hEj; rfl
          subst hve
          simp [wk]
          refine ⟨_, ?_, _, .mk (n := n + 1) (K := w) (t := t2) hlt hw hft hl1 hl2 hv, [], _, rfl, by simp⟩
          omega
        · have hl3 := hg2 hk1
          rw [hl3] at hE
          simp [he, h4, hk1]
          refine vc_loop (GInv m q i a xs n t t2 es v) ?_ ?_
          · exact ⟨_, _, .mk (j := 0) (w := K) (Nat.zero_le _) (by first | omega | (simp; omega)) (by simpa using hE), [], _, rfl, by simp⟩
          intro n'' σ hI
          cases hI with
          | @mk j w hj hw hEj =>
          by_cases hlj : j < es.length
          · obtain ⟨y, hy, ey⟩ := at_lt hlj
            have wj := wrap_succ hlj hln
            have hdj : es.drop j = y :: es.drop (j + 1) := by rw [List.drop_eq_getElem_cons hlj, ey]
            rw [hdj] at hEj
            cases hEj with
            | other b1 b2 b3 =>
              have hm := other_m (l := w) (now := t2.now) (m := m) (q := q) (i := i) (a := a) b1 b2
              simp [hlj, ey]
              refine effCall hm ?_
              simp [wj]
              refine ⟨by kernel_rfl, _, ?_, _, .mk (j := j + 1) (w := w) hlj hw b3, [], _, rfl, by simp⟩
              omega
            | @close _ _ _ _ jj k b1 b2 b3 b4 b5 =>
              have hm := closeE_m (now := t2.now) (m := m) (q := q) (i := i) (a := a) b1 b2 (by omega) b3 b4
              simp at hm
              simp [hlj, ey]
              refine effCallN hm ?_
              simp [wj]
              refine ⟨by kernel_rfl, _, ?_, _, .mk (j := j + 1) (w := w.set jj { k with closed := true }) hlj (by simpa using hw) b5, [], _, rfl, by simp⟩
              omega
            | @grant _ _ _ _ jj k b1 b2 b3 b4 b5 b6 b7 b8 =>
              have hm := grantE_m (now := t2.now) (m := m) (q := q) (i := i) (a := a) b1 b2 (by omega) b3 b4 b5 b6 b7 hnow
              simp at hm
              simp [hlj, ey]
              refine effCallN hm ?_
              simp [wj]
              refine ⟨by kernel_rfl, _, ?_, _, .mk (j := j + 1) (w := w.set jj { k with call := y.call }) hlj (by simpa using hw) b8, [], _, rfl, by simp⟩
              omega
          obtain rfl : j = es.length := by omega
          have hve : w = v := by rw [List.drop_length] at hEj; cases hEj; rfl
          subst hve
          simp [wk]
          refine ⟨_, ?_, _, .mk (n := n + 1) (K := w) (t := t2) hlt hw hft hl1 hl2 hv, [], _, rfl, by simp⟩
          omega
      · simp [he, wk]
        refine ⟨_, ?_, _, .mk (n := n + 1) (K := K) (t := t) hlt (by omega) hf hti hta hK, [], _, rfl, by simp⟩
        omega
    · by_cases hin : ∃ k ∈ K, k.id = x.conn
      · obtain ⟨j, k, hat⟩ := kat_of hin
        have hfm := found_at hat (by omega)
        have hj0 : (0 : Int) ≤ (j : Int) := by omega
        simp [hlt, e, h4, hy]
        refine hfm.mono ?_
        rintro _ rfl
        simp [hj0, wk]
        refine ⟨_, ?_, _, .mk (n := n + 1) (K := K) (t := t) hlt (by omega) hf hti hta hK, [], _, rfl, by simp⟩
        omega
      · have hno : ∀ k ∈ K, k.id ≠ x.conn := fun k hk h => hin ⟨k, hk, h⟩
        have hfm := found_not hno (by omega)
        rw [hy] at hd
        simp [hlt, e, h4, hy]
        refine hfm.mono ?_
        rintro _ rfl
        simp
        refine hd.mono ?_
        rintro _ rfl
        by_cases he : er = 0
        · have hor := hor (fun _ _ => hno) hx00
          have hkn : kn2 (kn1 K x t2.now) x t2.now = K ++ ([⟨x.conn, 0, t2.now, t2.now, false⟩] : List Kc) := by rw [kn_mid (by omega), if_pos hy]
          have hlm : K.length + 1 < 4294967296 := by omega
          obtain ⟨⟨l3, v, hg1, hg2, hE, hv⟩, hl1, hl2⟩ := hor he
          dsimp only at hg1 hg2 hE hv hl1 hl2
          rw [hkn] at hg1 hg2
          rw [hti, hta] at hg1 hE
          rw [hti] at hl1
          rw [hta] at hl2
          by_cases hk1 : r.kind = 1
          · obtain ⟨j, k, ha, a1, a2, a3, a4, a5, rfl⟩ := hg1 hk1
            have hgm := granted_m (ca := x.call) (m := m) (q := q) ha (by first | omega | (simp; omega)) a1 a2 a3 a4 a5 hnow
            simp at hgm
            simp [he, h4, hlm, hk1]
            refine hgm.mono ?_
            rintro _ rfl
            simp
            refine vc_loop (GInv m q i a xs n t t2 es v) ?_ ?_
            · exact ⟨_, _, .mk (j := 0) (w := (K ++ ([⟨x.conn, 0, t2.now, t2.now, false⟩] : List Kc)).set j { k with call := x.call }) (Nat.zero_le _) (by first | omega | (simp; omega)) (by simpa using hE), [], _, rfl, by simp⟩
            intro n'' σ hI
            cases hI with
            | @mk j w hj hw hEj =>
            by_cases hlj : j < es.length
            · obtain ⟨y, hy, ey⟩ := at_lt hlj
              have wj := wrap_succ hlj hln
              have hdj : es.drop j = y :: es.drop (j + 1) := by rw [List.drop_eq_getElem_cons hlj, ey]
              rw [hdj] at hEj
              cases hEj with
              | other b1 b2 b3 =>
                have hm := other_m (l := w) (now := t2.now) (m := m) (q := q) (i := i) (a := a) b1 b2
                simp [hlj, ey]
                refine effCall hm ?_
                simp [wj]
                refine ⟨by kernel_rfl, _, ?_, _, .mk (j := j + 1) (w := w) hlj hw b3, [], _, rfl, by simp⟩
                omega
              | @close _ _ _ _ jj k b1 b2 b3 b4 b5 =>
                have hm := closeE_m (now := t2.now) (m := m) (q := q) (i := i) (a := a) b1 b2 (by omega) b3 b4
                simp at hm
                simp [hlj, ey]
                refine effCallN hm ?_
                simp [wj]
                refine ⟨by kernel_rfl, _, ?_, _, .mk (j := j + 1) (w := w.set jj { k with closed := true }) hlj (by simpa using hw) b5, [], _, rfl, by simp⟩
                omega
              | @grant _ _ _ _ jj k b1 b2 b3 b4 b5 b6 b7 b8 =>
                have hm := grantE_m (now := t2.now) (m := m) (q := q) (i := i) (a := a) b1 b2 (by omega) b3 b4 b5 b6 b7 hnow
                simp at hm
                simp [hlj, ey]
                refine effCallN hm ?_
                simp [wj]
                refine ⟨by kernel_rfl, _, ?_, _, .mk (j := j + 1) (w := w.set jj { k with call := y.call }) hlj (by simpa using hw) b8, [], _, rfl, by simp⟩
                omega
            obtain rfl : j = es.length := by omega
            have hve : w = v := by rw [List.drop_length] at hEj; cases hEj; rfl
            subst hve
            simp [wk]
            refine ⟨_, ?_, _, .mk (n := n + 1) (K := w) (t := t2) hlt hw hft hl1 hl2 hv, [], _, rfl, by simp⟩
            omega
          · have hl3 := hg2 hk1
            rw [hl3] at hE
            simp [he, h4, hlm, hk1]
            refine vc_loop (GInv m q i a xs n t t2 es v) ?_ ?_
            · exact ⟨_, _, .mk (j := 0) (w := K ++ ([⟨x.conn, 0, t2.now, t2.now, false⟩] : List Kc)) (Nat.zero_le _) (by first | omega | (simp; omega)) (by simpa using hE), [], _, rfl, by simp⟩
            intro n'' σ hI
            cases hI with
            | @mk j w hj hw hEj =>
            by_cases hlj : j < es.length
            · obtain ⟨y, hy, ey⟩ := at_lt hlj
              have wj := wrap_succ hlj hln
              have hdj : es.drop j = y :: es.drop (j + 1) := by rw [List.drop_eq_getElem_cons hlj, ey]
              rw [hdj] at hEj
              cases hEj with
              | other b1 b2 b3 =>
                have hm := other_m (l := w) (now := t2.now) (m := m) (q := q) (i := i) (a := a) b1 b2
                simp [hlj, ey]
                refine effCall hm ?_
                simp [wj]
                refine ⟨by kernel_rfl, _, ?_, _, .mk (j := j + 1) (w := w) hlj hw b3, [], _, rfl, by simp⟩
                omega
              | @close _ _ _ _ jj k b1 b2 b3 b4 b5 =>
                have hm := closeE_m (now := t2.now) (m := m) (q := q) (i := i) (a := a) b1 b2 (by omega) b3 b4
                simp at hm
                simp [hlj, ey]
                refine effCallN hm ?_
                simp [wj]
                refine ⟨by kernel_rfl, _, ?_, _, .mk (j := j + 1) (w := w.set jj { k with closed := true }) hlj (by simpa using hw) b5, [], _, rfl, by simp⟩
                omega
              | @grant _ _ _ _ jj k b1 b2 b3 b4 b5 b6 b7 b8 =>
                have hm := grantE_m (now := t2.now) (m := m) (q := q) (i := i) (a := a) b1 b2 (by omega) b3 b4 b5 b6 b7 hnow
                simp at hm
                simp [hlj, ey]
                refine effCallN hm ?_
                simp [wj]
                refine ⟨by kernel_rfl, _, ?_, _, .mk (j := j + 1) (w := w.set jj { k with call := y.call }) hlj (by simpa using hw) b8, [], _, rfl, by simp⟩
                omega
            obtain rfl : j = es.length := by omega
            have hve : w = v := by rw [List.drop_length] at hEj; cases hEj; rfl
            subst hve
            simp [wk]
            refine ⟨_, ?_, _, .mk (n := n + 1) (K := w) (t := t2) hlt hw hft hl1 hl2 hv, [], _, rfl, by simp⟩
            omega
        · simp [he, wk]
          refine ⟨_, ?_, _, .mk (n := n + 1) (K := K) (t := t) hlt (by omega) hf hti hta hK, [], _, rfl, by simp⟩
          omega
  by_cases h5 : x.what.tmod 12 = 5
  · have h6 : ¬ (6 : Int) ≤ x.what.tmod 12 := by omega
    cases hy : x.yes
    · rw [hy] at hd
      simp [hlt, e, h5, hy]
      refine hd.mono ?_
      rintro _ rfl
      by_cases he : er = 0
      · have hor := hor (fun _ h => by rw [hy] at h; cases h) hx00
        have hkn : kn2 (kn1 K x t2.now) x t2.now = K := by rw [kn_mid (by omega), if_neg (by rw [hy]; simp)]
        obtain ⟨⟨l3, v, hg1, hg2, hE, hv⟩, hl1, hl2⟩ := hor he
        dsimp only at hg1 hg2 hE hv hl1 hl2
        rw [hkn] at hg1 hg2
        rw [hti, hta] at hg1 hE
        rw [hti] at hl1
        rw [hta] at hl2
        by_cases hk1 : r.kind = 1
        · obtain ⟨j, k, ha, a1, a2, a3, a4, a5, rfl⟩ := hg1 hk1
          have hgm := granted_m (ca := x.call) (m := m) (q := q) ha (by first | omega | (simp; omega)) a1 a2 a3 a4 a5 hnow
          simp at hgm
          simp [he, h5, hk1]
          refine hgm.mono ?_
          rintro _ rfl
          simp
          refine vc_loop (GInv m q i a xs n t t2 es v) ?_ ?_
          · exact ⟨_, _, .mk (j := 0) (w := (K).set j { k with call := x.call }) (Nat.zero_le _) (by first | omega | (simp; omega)) (by simpa using hE), [], _, rfl, by simp⟩
          intro n'' σ hI
          cases hI with
          | @mk j w hj hw hEj =>
          by_cases hlj : j < es.length
          · obtain ⟨y, hy, ey⟩ := at_lt hlj
            have wj := wrap_succ hlj hln
            have hdj : es.drop j = y :: es.drop (j + 1) := by rw [List.drop_eq_getElem_cons hlj, ey]
            rw [hdj] at hEj
            cases hEj with
            | other b1 b2 b3 =>
              have hm := other_m (l := w) (now := t2.now) (m := m) (q := q) (i := i) (a := a) b1 b2
              simp [hlj, ey]
              refine effCall hm ?_
              simp [wj]
              refine ⟨by kernel_rfl, _, ?_, _, .mk (j := j + 1) (w := w) hlj hw b3, [], _, rfl, by simp⟩
              omega
            | @close _ _ _ _ jj k b1 b2 b3 b4 b5 =>
              have hm := closeE_m (now := t2.now) (m := m) (q := q) (i := i) (a := a) b1 b2 (by omega) b3 b4
              simp at hm
              simp [hlj, ey]
              refine effCallN hm ?_
              simp [wj]
              refine ⟨by kernel_rfl, _, ?_, _, .mk (j := j + 1) (w := w.set jj { k with closed := true }) hlj (by simpa using hw) b5, [], _, rfl, by simp⟩
              omega
            | @grant _ _ _ _ jj k b1 b2 b3 b4 b5 b6 b7 b8 =>
              have hm := grantE_m (now := t2.now) (m := m) (q := q) (i := i) (a := a) b1 b2 (by omega) b3 b4 b5 b6 b7 hnow
              simp at hm
              simp [hlj, ey]
              refine effCallN hm ?_
              simp [wj]
              refine ⟨by kernel_rfl, _, ?_, _, .mk (j := j + 1) (w := w.set jj { k with call := y.call }) hlj (by simpa using hw) b8, [], _, rfl, by simp⟩
              omega
          obtain rfl : j = es.length := by omega
          have hve : w = v := by rw [List.drop_length] at hEj; cases hEj; rfl
          subst hve
          simp [wk]
          refine ⟨_, ?_, _, .mk (n := n + 1) (K := w) (t := t2) hlt hw hft hl1 hl2 hv, [], _, rfl, by simp⟩
          omega
        · have hl3 := hg2 hk1
          rw [hl3] at hE
          simp [he, h5, hk1]
          refine vc_loop (GInv m q i a xs n t t2 es v) ?_ ?_
          · exact ⟨_, _, .mk (j := 0) (w := K) (Nat.zero_le _) (by first | omega | (simp; omega)) (by simpa using hE), [], _, rfl, by simp⟩
          intro n'' σ hI
          cases hI with
          | @mk j w hj hw hEj =>
          by_cases hlj : j < es.length
          · obtain ⟨y, hy, ey⟩ := at_lt hlj
            have wj := wrap_succ hlj hln
            have hdj : es.drop j = y :: es.drop (j + 1) := by rw [List.drop_eq_getElem_cons hlj, ey]
            rw [hdj] at hEj
            cases hEj with
            | other b1 b2 b3 =>
              have hm := other_m (l := w) (now := t2.now) (m := m) (q := q) (i := i) (a := a) b1 b2
              simp [hlj, ey]
              refine effCall hm ?_
              simp [wj]
              refine ⟨by kernel_rfl, _, ?_, _, .mk (j := j + 1) (w := w) hlj hw b3, [], _, rfl, by simp⟩
              omega
            | @close _ _ _ _ jj k b1 b2 b3 b4 b5 =>
              have hm := closeE_m (now := t2.now) (m := m) (q := q) (i := i) (a := a) b1 b2 (by omega) b3 b4
              simp at hm
              simp [hlj, ey]
              refine effCallN hm ?_
              simp [wj]
              refine ⟨by kernel_rfl, _, ?_, _, .mk (j := j + 1) (w := w.set jj { k with closed := true }) hlj (by simpa using hw) b5, [], _, rfl, by simp⟩
              omega
            | @grant _ _ _ _ jj k b1 b2 b3 b4 b5 b6 b7 b8 =>
              have hm := grantE_m (now := t2.now) (m := m) (q := q) (i := i) (a := a) b1 b2 (by omega) b3 b4 b5 b6 b7 hnow
              simp at hm
              simp [hlj, ey]
              refine effCallN hm ?_
              simp [wj]
              refine ⟨by kernel_rfl, _, ?_, _, .mk (j := j + 1) (w := w.set jj { k with call := y.call }) hlj (by simpa using hw) b8, [], _, rfl, by simp⟩
              omega
          obtain rfl : j = es.length := by omega
          have hve : w = v := by rw [List.drop_length] at hEj; cases hEj; rfl
          subst hve
          simp [wk]
          refine ⟨_, ?_, _, .mk (n := n + 1) (K := w) (t := t2) hlt hw hft hl1 hl2 hv, [], _, rfl, by simp⟩
          omega
      · simp [he, wk]
        refine ⟨_, ?_, _, .mk (n := n + 1) (K := K) (t := t) hlt (by omega) hf hti hta hK, [], _, rfl, by simp⟩
        omega
    · by_cases hin : ∃ k ∈ K, k.id = x.conn
      · obtain ⟨j, k, hat⟩ := kat_of hin
        have hfm := found_at hat (by omega)
        have hj0 : (0 : Int) ≤ (j : Int) := by omega
        simp [hlt, e, h5, hy]
        refine hfm.mono ?_
        rintro _ rfl
        simp [hj0, wk]
        refine ⟨_, ?_, _, .mk (n := n + 1) (K := K) (t := t) hlt (by omega) hf hti hta hK, [], _, rfl, by simp⟩
        omega
      · have hno : ∀ k ∈ K, k.id ≠ x.conn := fun k hk h => hin ⟨k, hk, h⟩
        have hfm := found_not hno (by omega)
        rw [hy] at hd
        simp [hlt, e, h5, hy]
        refine hfm.mono ?_
        rintro _ rfl
        simp
        refine hd.mono ?_
        rintro _ rfl
        by_cases he : er = 0
        · have hor := hor (fun _ _ => hno) hx00
          have hkn : kn2 (kn1 K x t2.now) x t2.now = K ++ ([⟨x.conn, 0, t2.now, t2.now, false⟩] : List Kc) := by rw [kn_mid (by omega), if_pos hy]
          have hlm : K.length + 1 < 4294967296 := by omega
          obtain ⟨⟨l3, v, hg1, hg2, hE, hv⟩, hl1, hl2⟩ := hor he
          dsimp only at hg1 hg2 hE hv hl1 hl2
          rw [hkn] at hg1 hg2
          rw [hti, hta] at hg1 hE
          rw [hti] at hl1
          rw [hta] at hl2
          by_cases hk1 : r.kind = 1
          · obtain ⟨j, k, ha, a1, a2, a3, a4, a5, rfl⟩ := hg1 hk1
            have hgm := granted_m (ca := x.call) (m := m) (q := q) ha (by first | omega | (simp; omega)) a1 a2 a3 a4 a5 hnow
            simp at hgm
            simp [he, h5, hlm, hk1]
            refine hgm.mono ?_
            rintro _ rfl
            simp
            refine vc_loop (GInv m q i a xs n t t2 es v) ?_ ?_
            · exact ⟨_, _, .mk (j := 0) (w := (K ++ ([⟨x.conn, 0, t2.now, t2.now, false⟩] : List Kc)).set j { k with call := x.call }) (Nat.zero_le _) (by first | omega | (simp; omega)) (by simpa using hE), [], _, rfl, by simp⟩
            intro n'' σ hI
            cases hI with
            | @mk j w hj hw hEj =>
            by_cases hlj : j < es.length
            · obtain ⟨y, hy, ey⟩ := at_lt hlj
              have wj := wrap_succ hlj hln
              have hdj : es.drop j = y :: es.drop (j + 1) := by rw [List.drop_eq_getElem_cons hlj, ey]
              rw [hdj] at hEj
              cases hEj with
              | other b1 b2 b3 =>
                have hm := other_m (l := w) (now := t2.now) (m := m) (q := q) (i := i) (a := a) b1 b2
                simp [hlj, ey]
                refine effCall hm ?_
                simp [wj]
                refine ⟨by kernel_rfl, _, ?_, _, .mk (j := j + 1) (w := w) hlj hw b3, [], _, rfl, by simp⟩
                omega
              | @close _ _ _ _ jj k b1 b2 b3 b4 b5 =>
                have hm := closeE_m (now := t2.now) (m := m) (q := q) (i := i) (a := a) b1 b2 (by omega) b3 b4
                simp at hm
                simp [hlj, ey]
                refine effCallN hm ?_
                simp [wj]
                refine ⟨by kernel_rfl, _, ?_, _, .mk (j := j + 1) (w := w.set jj { k with closed := true }) hlj (by simpa using hw) b5, [], _, rfl, by simp⟩
                omega
              | @grant _ _ _ _ jj k b1 b2 b3 b4 b5 b6 b7 b8 =>
                have hm := grantE_m (now := t2.now) (m := m) (q := q) (i := i) (a := a) b1 b2 (by omega) b3 b4 b5 b6 b7 hnow
                simp at hm
                simp [hlj, ey]
                refine effCallN hm ?_
                simp [wj]
                refine ⟨by kernel_rfl, _, ?_, _, .mk (j := j + 1) (w := w.set jj { k with call := y.call }) hlj (by simpa using hw) b8, [], _, rfl, by simp⟩
                omega
            obtain rfl : j = es.length := by omega
            have hve : w = v := by rw [List.drop_length] at hEj; cases hEj; rfl
            subst hve
            simp [wk]
            refine ⟨_, ?_, _, .mk (n := n + 1) (K := w) (t := t2) hlt hw hft hl1 hl2 hv, [], _, rfl, by simp⟩
            omega
          · have hl3 := hg2 hk1
            rw [hl3] at hE
            simp [he, h5, hlm, hk1]
            refine vc_loop (GInv m q i a xs n t t2 es v) ?_ ?_
            · exact ⟨_, _, .mk (j := 0) (w := K ++ ([⟨x.conn, 0, t2.now, t2.now, false⟩] : List Kc)) (Nat.zero_le _) (by first | omega | (simp; omega)) (by simpa using hE), [], _, rfl, by simp⟩
            intro n'' σ hI
            cases hI with
            | @mk j w hj hw hEj =>
            by_cases hlj : j < es.length
            · obtain ⟨y, hy, ey⟩ := at_lt hlj
              have wj := wrap_succ hlj hln
              have hdj : es.drop j = y :: es.drop (j + 1) := by rw [List.drop_eq_getElem_cons hlj, ey]
              rw [hdj] at hEj
              cases hEj with
              | other b1 b2 b3 =>
                have hm := other_m (l := w) (now := t2.now) (m := m) (q := q) (i := i) (a := a) b1 b2
                simp [hlj, ey]
                refine effCall hm ?_
                simp [wj]
                refine ⟨by kernel_rfl, _, ?_, _, .mk (j := j + 1) (w := w) hlj hw b3, [], _, rfl, by simp⟩
                omega
              | @close _ _ _ _ jj k b1 b2 b3 b4 b5 =>
                have hm := closeE_m (now := t2.now) (m := m) (q := q) (i := i) (a := a) b1 b2 (by omega) b3 b4
                simp at hm
                simp [hlj, ey]
                refine effCallN hm ?_
                simp [wj]
                refine ⟨by kernel_rfl, _, ?_, _, .mk (j := j + 1) (w := w.set jj { k with closed := true }) hlj (by simpa using hw) b5, [], _, rfl, by simp⟩
                omega
              | @grant _ _ _ _ jj k b1 b2 b3 b4 b5 b6 b7 b8 =>
                have hm := grantE_m (now := t2.now) (m := m) (q := q) (i := i) (a := a) b1 b2 (by omega) b3 b4 b5 b6 b7 hnow
                simp at hm
                simp [hlj, ey]
                refine effCallN hm ?_
                simp [wj]
                refine ⟨by kernel_rfl, _, ?_, _, .mk (j := j + 1) (w := w.set jj { k with call := y.call }) hlj (by simpa using hw) b8, [], _, rfl, by simp⟩
                omega
            obtain rfl : j = es.length := by omega
            have hve : w = v := by rw [List.drop_length] at hEj; cases hEj; rfl
            subst hve
            simp [wk]
            refine ⟨_, ?_, _, .mk (n := n + 1) (K := w) (t := t2) hlt hw hft hl1 hl2 hv, [], _, rfl, by simp⟩
            omega
        · simp [he, wk]
          refine ⟨_, ?_, _, .mk (n := n + 1) (K := K) (t := t) hlt (by omega) hf hti hta hK, [], _, rfl, by simp⟩
          omega
  have hdn : (x.m = 4 ∨ x.m = 5) → x.yes = true → ∀ k ∈ K, k.id ≠ x.conn := fun h => by omega
  by_cases h6 : (6 : Int) ≤ x.what.tmod 12
  · by_cases h8 : x.what.tmod 12 ≤ 8
    · simp [hlt, e, h4, h5]
      refine hd.mono ?_
      rintro _ rfl
      by_cases he : er = 0
      · have hor := hor hdn hx00
        have hkn : kn2 (kn1 K x t2.now) x t2.now = K.map (fre x.call t2.now) := by unfold kn2 kn1; rw [if_pos (by omega), if_neg (by omega)]
        simp [he, h6, h8]
        refine vc_loop (LInv m q i a xs n t t2 r es x K) ?_ ?_
        · exact ⟨_, _, .mk (k := 0) (Nat.zero_le _), [], _, rfl, by simp [frL_zero]⟩
        intro n'' σ hI
        cases hI with
        | @mk k hk =>
        have hfl := frL_len x.call t2.now K k
        by_cases hlk : k < K.length
        · obtain ⟨y, hy, ey⟩ := at_lt hlk
          have wl := wrap_succ hlk (by omega)
          have hat := frL_at (c := x.call) (now := t2.now) hy
          have hsc := frL_succ (c := x.call) (now := t2.now) hy
          have hfl2 := frL_len x.call t2.now K (k + 1)
          generalize frL x.call t2.now K k = F at hfl hat hsc ⊢
          have hlF : k < F.length := by omega
          have eF : F[k] = y := by rw [List.getElem?_eq_getElem hlF] at hat; exact Option.some.inj hat
          by_cases hc : y.call = x.call
          · have hfr : fre x.call t2.now y = { y with call := 0, since := t2.now } := by unfold fre; rw [if_pos hc]
            rw [hfr] at hsc
            simp [hlF, eF, hc]
            refine ⟨by kernel_rfl, ?_⟩
            simp [wl]
            refine ⟨by kernel_rfl, _, ?_, _, .mk (k := k + 1) hlk, [], _, rfl, by simp [hsc]⟩
            omega
          · have hfr : fre x.call t2.now y = y := by unfold fre; rw [if_neg hc]
            have hst : F.set k y = F := by rw [← eF]; exact List.set_getElem_self hlF
            rw [hfr, hst] at hsc
            simp [hlF, eF, hc, wl]
            refine ⟨by kernel_rfl, _, ?_, _, .mk (k := k + 1) hlk, [], _, rfl, by simp [hsc]⟩
            omega
        obtain rfl : k = K.length := by omega
        rw [frL_end] at hfl ⊢
        simp
        obtain ⟨⟨l3, v, hg1, hg2, hE, hv⟩, hl1, hl2⟩ := hor he
        dsimp only at hg1 hg2 hE hv hl1 hl2
        rw [hkn] at hg1 hg2
        rw [hti, hta] at hg1 hE
        rw [hti] at hl1
        rw [hta] at hl2
        by_cases hk1 : r.kind = 1
        · obtain ⟨j, k, ha, a1, a2, a3, a4, a5, rfl⟩ := hg1 hk1
          have hgm := granted_m (ca := x.call) (m := m) (q := q) ha (by first | omega | (simp; omega)) a1 a2 a3 a4 a5 hnow
          simp at hgm
          simp [hk1]
          refine hgm.mono ?_
          rintro _ rfl
          simp
          refine vc_loop (GInv m q i a xs n t t2 es v) ?_ ?_
          · exact ⟨_, _, .mk (j := 0) (w := (K.map (fre x.call t2.now)).set j { k with call := x.call }) (Nat.zero_le _) (by first | omega | (simp; omega)) (by simpa using hE), [], _, rfl, by simp⟩
          intro n'' σ hI
          cases hI with
          | @mk j w hj hw hEj =>
          by_cases hlj : j < es.length
          · obtain ⟨y, hy, ey⟩ := at_lt hlj
            have wj := wrap_succ hlj hln
            have hdj : es.drop j = y :: es.drop (j + 1) := by rw [List.drop_eq_getElem_cons hlj, ey]
            rw [hdj] at hEj
            cases hEj with
            | other b1 b2 b3 =>
              have hm := other_m (l := w) (now := t2.now) (m := m) (q := q) (i := i) (a := a) b1 b2
              simp [hlj, ey]
              refine effCall hm ?_
              simp [wj]
              refine ⟨by kernel_rfl, _, ?_, _, .mk (j := j + 1) (w := w) hlj hw b3, [], _, rfl, by simp⟩
              omega
            | @close _ _ _ _ jj k b1 b2 b3 b4 b5 =>
              have hm := closeE_m (now := t2.now) (m := m) (q := q) (i := i) (a := a) b1 b2 (by omega) b3 b4
              simp at hm
              simp [hlj, ey]
              refine effCallN hm ?_
              simp [wj]
              refine ⟨by kernel_rfl, _, ?_, _, .mk (j := j + 1) (w := w.set jj { k with closed := true }) hlj (by simpa using hw) b5, [], _, rfl, by simp⟩
              omega
            | @grant _ _ _ _ jj k b1 b2 b3 b4 b5 b6 b7 b8 =>
              have hm := grantE_m (now := t2.now) (m := m) (q := q) (i := i) (a := a) b1 b2 (by omega) b3 b4 b5 b6 b7 hnow
              simp at hm
              simp [hlj, ey]
              refine effCallN hm ?_
              simp [wj]
              refine ⟨by kernel_rfl, _, ?_, _, .mk (j := j + 1) (w := w.set jj { k with call := y.call }) hlj (by simpa using hw) b8, [], _, rfl, by simp⟩
              omega
          obtain rfl : j = es.length := by omega
          have hve : w = v := by rw [List.drop_length] at hEj; cases hEj; rfl
          subst hve
          simp [wk]
          refine ⟨_, ?_, _, .mk (n := n + 1) (K := w) (t := t2) hlt hw hft hl1 hl2 hv, [], _, rfl, by simp⟩
          omega
        · have hl3 := hg2 hk1
          rw [hl3] at hE
          simp [hk1]
          refine vc_loop (GInv m q i a xs n t t2 es v) ?_ ?_
          · exact ⟨_, _, .mk (j := 0) (w := K.map (fre x.call t2.now)) (Nat.zero_le _) (by first | omega | (simp; omega)) (by simpa using hE), [], _, rfl, by simp⟩
          intro n'' σ hI
          cases hI with
          | @mk j w hj hw hEj =>
          by_cases hlj : j < es.length
          · obtain ⟨y, hy, ey⟩ := at_lt hlj
            have wj := wrap_succ hlj hln
            have hdj : es.drop j = y :: es.drop (j + 1) := by rw [List.drop_eq_getElem_cons hlj, ey]
            rw [hdj] at hEj
            cases hEj with
            | other b1 b2 b3 =>
              have hm := other_m (l := w) (now := t2.now) (m := m) (q := q) (i := i) (a := a) b1 b2
              simp [hlj, ey]
              refine effCall hm ?_
              simp [wj]
              refine ⟨by kernel_rfl, _, ?_, _, .mk (j := j + 1) (w := w) hlj hw b3, [], _, rfl, by simp⟩
              omega
            | @close _ _ _ _ jj k b1 b2 b3 b4 b5 =>
              have hm := closeE_m (now := t2.now) (m := m) (q := q) (i := i) (a := a) b1 b2 (by omega) b3 b4
              simp at hm
              simp [hlj, ey]
              refine effCallN hm ?_
              simp [wj]
              refine ⟨by kernel_rfl, _, ?_, _, .mk (j := j + 1) (w := w.set jj { k with closed := true }) hlj (by simpa using hw) b5, [], _, rfl, by simp⟩
              omega
            | @grant _ _ _ _ jj k b1 b2 b3 b4 b5 b6 b7 b8 =>
              have hm := grantE_m (now := t2.now) (m := m) (q := q) (i := i) (a := a) b1 b2 (by omega) b3 b4 b5 b6 b7 hnow
              simp at hm
              simp [hlj, ey]
              refine effCallN hm ?_
              simp [wj]
              refine ⟨by kernel_rfl, _, ?_, _, .mk (j := j + 1) (w := w.set jj { k with call := y.call }) hlj (by simpa using hw) b8, [], _, rfl, by simp⟩
              omega
          obtain rfl : j = es.length := by omega
          have hve : w = v := by rw [List.drop_length] at hEj; cases hEj; rfl
          subst hve
          simp [wk]
          refine ⟨_, ?_, _, .mk (n := n + 1) (K := w) (t := t2) hlt hw hft hl1 hl2 hv, [], _, rfl, by simp⟩
          omega
      · simp [he, wk]
        refine ⟨_, ?_, _, .mk (n := n + 1) (K := K) (t := t) hlt (by omega) hf hti hta hK, [], _, rfl, by simp⟩
        omega
    · simp [hlt, e, h4, h5]
      refine hd.mono ?_
      rintro _ rfl
      by_cases he : er = 0
      · have hor := hor hdn hx00
        have hkn : kn2 (kn1 K x t2.now) x t2.now = K := kn_low (.inr (by omega))
        obtain ⟨⟨l3, v, hg1, hg2, hE, hv⟩, hl1, hl2⟩ := hor he
        dsimp only at hg1 hg2 hE hv hl1 hl2
        rw [hkn] at hg1 hg2
        rw [hti, hta] at hg1 hE
        rw [hti] at hl1
        rw [hta] at hl2
        by_cases hk1 : r.kind = 1
        · obtain ⟨j, k, ha, a1, a2, a3, a4, a5, rfl⟩ := hg1 hk1
          have hgm := granted_m (ca := x.call) (m := m) (q := q) ha (by first | omega | (simp; omega)) a1 a2 a3 a4 a5 hnow
          simp at hgm
          simp [he, h6, h8, hk1]
          refine hgm.mono ?_
          rintro _ rfl
          simp
          refine vc_loop (GInv m q i a xs n t t2 es v) ?_ ?_
          · exact ⟨_, _, .mk (j := 0) (w := (K).set j { k with call := x.call }) (Nat.zero_le _) (by first | omega | (simp; omega)) (by simpa using hE), [], _, rfl, by simp⟩
          intro n'' σ hI
          cases hI with
          | @mk j w hj hw hEj =>
          by_cases hlj : j < es.length
          · obtain ⟨y, hy, ey⟩ := at_lt hlj
            have wj := wrap_succ hlj hln
            have hdj : es.drop j = y :: es.drop (j + 1) := by rw [List.drop_eq_getElem_cons hlj, ey]
            rw [hdj] at hEj
            cases hEj with
            | other b1 b2 b3 =>
              have hm := other_m (l := w) (now := t2.now) (m := m) (q := q) (i := i) (a := a) b1 b2
              simp [hlj, ey]
              refine effCall hm ?_
              simp [wj]
              refine ⟨by kernel_rfl, _, ?_, _, .mk (j := j + 1) (w := w) hlj hw b3, [], _, rfl, by simp⟩
              omega
            | @close _ _ _ _ jj k b1 b2 b3 b4 b5 =>
              have hm := closeE_m (now := t2.now) (m := m) (q := q) (i := i) (a := a) b1 b2 (by omega) b3 b4
              simp at hm
              simp [hlj, ey]
              refine effCallN hm ?_
              simp [wj]
              refine ⟨by kernel_rfl, _, ?_, _, .mk (j := j + 1) (w := w.set jj { k with closed := true }) hlj (by simpa using hw) b5, [], _, rfl, by simp⟩
              omega
            | @grant _ _ _ _ jj k b1 b2 b3 b4 b5 b6 b7 b8 =>
              have hm := grantE_m (now := t2.now) (m := m) (q := q) (i := i) (a := a) b1 b2 (by omega) b3 b4 b5 b6 b7 hnow
              simp at hm
              simp [hlj, ey]
              refine effCallN hm ?_
              simp [wj]
              refine ⟨by kernel_rfl, _, ?_, _, .mk (j := j + 1) (w := w.set jj { k with call := y.call }) hlj (by simpa using hw) b8, [], _, rfl, by simp⟩
              omega
          obtain rfl : j = es.length := by omega
          have hve : w = v := by rw [List.drop_length] at hEj; cases hEj; rfl
          subst hve
          simp [wk]
          refine ⟨_, ?_, _, .mk (n := n + 1) (K := w) (t := t2) hlt hw hft hl1 hl2 hv, [], _, rfl, by simp⟩
          omega
        · have hl3 := hg2 hk1
          rw [hl3] at hE
          simp [he, h6, h8, hk1]
          refine vc_loop (GInv m q i a xs n t t2 es v) ?_ ?_
          · exact ⟨_, _, .mk (j := 0) (w := K) (Nat.zero_le _) (by first | omega | (simp; omega)) (by simpa using hE), [], _, rfl, by simp⟩
          intro n'' σ hI
          cases hI with
          | @mk j w hj hw hEj =>
          by_cases hlj : j < es.length
          · obtain ⟨y, hy, ey⟩ := at_lt hlj
            have wj := wrap_succ hlj hln
            have hdj : es.drop j = y :: es.drop (j + 1) := by rw [List.drop_eq_getElem_cons hlj, ey]
            rw [hdj] at hEj
            cases hEj with
            | other b1 b2 b3 =>
              have hm := other_m (l := w) (now := t2.now) (m := m) (q := q) (i := i) (a := a) b1 b2
              simp [hlj, ey]
              refine effCall hm ?_
              simp [wj]
              refine ⟨by kernel_rfl, _, ?_, _, .mk (j := j + 1) (w := w) hlj hw b3, [], _, rfl, by simp⟩
              omega
            | @close _ _ _ _ jj k b1 b2 b3 b4 b5 =>
              have hm := closeE_m (now := t2.now) (m := m) (q := q) (i := i) (a := a) b1 b2 (by omega) b3 b4
              simp at hm
              simp [hlj, ey]
              refine effCallN hm ?_
              simp [wj]
              refine ⟨by kernel_rfl, _, ?_, _, .mk (j := j + 1) (w := w.set jj { k with closed := true }) hlj (by simpa using hw) b5, [], _, rfl, by simp⟩
              omega
            | @grant _ _ _ _ jj k b1 b2 b3 b4 b5 b6 b7 b8 =>
              have hm := grantE_m (now := t2.now) (m := m) (q := q) (i := i) (a := a) b1 b2 (by omega) b3 b4 b5 b6 b7 hnow
              simp at hm
              simp [hlj, ey]
              refine effCallN hm ?_
              simp [wj]
              refine ⟨by kernel_rfl, _, ?_, _, .mk (j := j + 1) (w := w.set jj { k with call := y.call }) hlj (by simpa using hw) b8, [], _, rfl, by simp⟩
              omega
          obtain rfl : j = es.length := by omega
          have hve : w = v := by rw [List.drop_length] at hEj; cases hEj; rfl
          subst hve
          simp [wk]
          refine ⟨_, ?_, _, .mk (n := n + 1) (K := w) (t := t2) hlt hw hft hl1 hl2 hv, [], _, rfl, by simp⟩
          omega
      · simp [he, wk]
        refine ⟨_, ?_, _, .mk (n := n + 1) (K := K) (t := t) hlt (by omega) hf hti hta hK, [], _, rfl, by simp⟩
        omega
  · simp [hlt, e, h4, h5]
    refine hd.mono ?_
    rintro _ rfl
    by_cases he : er = 0
    · have hor := hor hdn hx00
      have hkn : kn2 (kn1 K x t2.now) x t2.now = K := kn_low (.inl (by omega))
      obtain ⟨⟨l3, v, hg1, hg2, hE, hv⟩, hl1, hl2⟩ := hor he
      dsimp only at hg1 hg2 hE hv hl1 hl2
      rw [hkn] at hg1 hg2
      rw [hti, hta] at hg1 hE
      rw [hti] at hl1
      rw [hta] at hl2
      by_cases hk1 : r.kind = 1
      · obtain ⟨j, k, ha, a1, a2, a3, a4, a5, rfl⟩ := hg1 hk1
        have hgm := granted_m (ca := x.call) (m := m) (q := q) ha (by first | omega | (simp; omega)) a1 a2 a3 a4 a5 hnow
        simp at hgm
        simp [he, h6, hk1]
        refine hgm.mono ?_
        rintro _ rfl
        simp
        refine vc_loop (GInv m q i a xs n t t2 es v) ?_ ?_
        · exact ⟨_, _, .mk (j := 0) (w := (K).set j { k with call := x.call }) (Nat.zero_le _) (by first | omega | (simp; omega)) (by simpa using hE), [], _, rfl, by simp⟩
        intro n'' σ hI
        cases hI with
        | @mk j w hj hw hEj =>
        by_cases hlj : j < es.length
        · obtain ⟨y, hy, ey⟩ := at_lt hlj
          have wj := wrap_succ hlj hln
          have hdj : es.drop j = y :: es.drop (j + 1) := by rw [List.drop_eq_getElem_cons hlj, ey]
          rw [hdj] at hEj
          cases hEj with
          | other b1 b2 b3 =>
            have hm := other_m (l := w) (now := t2.now) (m := m) (q := q) (i := i) (a := a) b1 b2
            simp [hlj, ey]
            refine effCall hm ?_
            simp [wj]
            refine ⟨by kernel_rfl, _, ?_, _, .mk (j := j + 1) (w := w) hlj hw b3, [], _, rfl, by simp⟩
            omega
          | @close _ _ _ _ jj k b1 b2 b3 b4 b5 =>
            have hm := closeE_m (now := t2.now) (m := m) (q := q) (i := i) (a := a) b1 b2 (by omega) b3 b4
            simp at hm
            simp [hlj, ey]
            refine effCallN hm ?_
            simp [wj]
            refine ⟨by kernel_rfl, _, ?_, _, .mk (j := j + 1) (w := w.set jj { k with closed := true }) hlj (by simpa using hw) b5, [], _, rfl, by simp⟩
            omega
          | @grant _ _ _ _ jj k b1 b2 b3 b4 b5 b6 b7 b8 =>
            have hm := grantE_m (now := t2.now) (m := m) (q := q) (i := i) (a := a) b1 b2 (by omega) b3 b4 b5 b6 b7 hnow
            simp at hm
            simp [hlj, ey]
            refine effCallN hm ?_
            simp [wj]
            refine ⟨by kernel_rfl, _, ?_, _, .mk (j := j + 1) (w := w.set jj { k with call := y.call }) hlj (by simpa using hw) b8, [], _, rfl, by simp⟩
            omega
        obtain rfl : j = es.length := by omega
        have hve : w = v := by rw [List.drop_length] at hEj; cases hEj; rfl
        subst hve
        simp [wk]
        refine ⟨_, ?_, _, .mk (n := n + 1) (K := w) (t := t2) hlt hw hft hl1 hl2 hv, [], _, rfl, by simp⟩
        omega
      · have hl3 := hg2 hk1
        rw [hl3] at hE
        simp [he, h6, hk1]
        refine vc_loop (GInv m q i a xs n t t2 es v) ?_ ?_
        · exact ⟨_, _, .mk (j := 0) (w := K) (Nat.zero_le _) (by first | omega | (simp; omega)) (by simpa using hE), [], _, rfl, by simp⟩
        intro n'' σ hI
        cases hI with
        | @mk j w hj hw hEj =>
        by_cases hlj : j < es.length
        · obtain ⟨y, hy, ey⟩ := at_lt hlj
          have wj := wrap_succ hlj hln
          have hdj : es.drop j = y :: es.drop (j + 1) := by rw [List.drop_eq_getElem_cons hlj, ey]
          rw [hdj] at hEj
          cases hEj with
          | other b1 b2 b3 =>
            have hm := other_m (l := w) (now := t2.now) (m := m) (q := q) (i := i) (a := a) b1 b2
            simp [hlj, ey]
            refine effCall hm ?_
            simp [wj]
            refine ⟨by kernel_rfl, _, ?_, _, .mk (j := j + 1) (w := w) hlj hw b3, [], _, rfl, by simp⟩
            omega
          | @close _ _ _ _ jj k b1 b2 b3 b4 b5 =>
            have hm := closeE_m (now := t2.now) (m := m) (q := q) (i := i) (a := a) b1 b2 (by omega) b3 b4
            simp at hm
            simp [hlj, ey]
            refine effCallN hm ?_
            simp [wj]
            refine ⟨by kernel_rfl, _, ?_, _, .mk (j := j + 1) (w := w.set jj { k with closed := true }) hlj (by simpa using hw) b5, [], _, rfl, by simp⟩
            omega
          | @grant _ _ _ _ jj k b1 b2 b3 b4 b5 b6 b7 b8 =>
            have hm := grantE_m (now := t2.now) (m := m) (q := q) (i := i) (a := a) b1 b2 (by omega) b3 b4 b5 b6 b7 hnow
            simp at hm
            simp [hlj, ey]
            refine effCallN hm ?_
            simp [wj]
            refine ⟨by kernel_rfl, _, ?_, _, .mk (j := j + 1) (w := w.set jj { k with call := y.call }) hlj (by simpa using hw) b8, [], _, rfl, by simp⟩
            omega
        obtain rfl : j = es.length := by omega
        have hve : w = v := by rw [List.drop_length] at hEj; cases hEj; rfl
        subst hve
        simp [wk]
        refine ⟨_, ?_, _, .mk (n := n + 1) (K := w) (t := t2) hlt hw hft hl1 hl2 hv, [], _, rfl, by simp⟩
        omega
    · simp [he, wk]
      refine ⟨_, ?_, _, .mk (n := n + 1) (K := K) (t := t) hlt (by omega) hf hti hta hK, [], _, rfl, by simp⟩
      omega
end Go.Proofs.YtajjmhpdiikjhaaGreat.Po
