/- The law PoolEnds. No condition. -/
import Derived.Test.YtajjmhpdiikjhaaGreatN15
import Derived.Test.YtajjmhpdiikjhaaGreatN16
namespace Go.Proofs.YtajjmhpdiikjhaaGreat.Po
set_option maxRecDepth 100000
open Go.RowKit

/-- A list that holds the numbers from 1 to n has n elements. -/
theorem holds_len : ∀ {n : Nat} {l : List Int}, (∀ k : Int, 1 ≤ k → k ≤ n → k ∈ l) → n ≤ l.length
  | 0, _, _ => Nat.zero_le _
  | n + 1, l, h => by
    have h1 : ((n + 1 : Nat) : Int) ∈ l := h _ (by omega) (by omega)
    have h2 := holds_len (n := n) (l := l.erase ((n + 1 : Nat) : Int)) fun k k1 k2 => (List.mem_erase_of_ne (by omega)).2 (h k k1 (by omega))
    rw [List.length_erase_of_mem h1] at h2
    have := List.length_pos_of_mem h1
    omega
structure UInv (l : List Ls) (n k : Nat) : Prop where
  one : 1 ≤ n
  all : ∀ c : Int, 1 ≤ c → c < n → c ∈ l.map Ls.conn
  no : ∀ x ∈ l.take k, x.conn ≠ n
  le : k ≤ l.length
theorem UInv.len {l : List Ls} {n k : Nat} (h : UInv l n k) : n ≤ l.length + 1 := by
  have := holds_len (n := n - 1) (l := l.map Ls.conn) fun c h1 h2 => h.all c h1 (by omega)
  rw [List.length_map] at this; omega
theorem UInv.next {l : List Ls} {n k : Nat} {x : Ls} (h : UInv l n k) (hx : l[k]? = some x) (hc : x.conn ≠ n) : UInv l n (k + 1) :=
  ⟨h.one, h.all, fun y hy => by
    rw [List.take_add_one, hx] at hy
    rcases List.mem_append.1 hy with hy | hy
    · exact h.no y hy
    · have : y = x := by simpa using hy
      rw [this]; exact hc, (List.getElem?_eq_some_iff.1 hx).1⟩
theorem UInv.up {l : List Ls} {n k : Nat} {x : Ls} (h : UInv l n k) (hx : l[k]? = some x) (hc : x.conn = n) : UInv l (n + 1) 0 :=
  ⟨by omega, fun c h1 h2 => by
    by_cases e : c = n
    · rw [e, ← hc]; exact List.mem_map_of_mem (List.mem_of_getElem? hx)
    · exact h.all c h1 (by omega), fun y hy => by simp at hy, Nat.zero_le _⟩
structure IsUn (l : List Ls) (n : Nat) : Prop where
  one : 1 ≤ n
  all : ∀ c : Int, 1 ≤ c → c < n → c ∈ l.map Ls.conn
  no : ∀ x ∈ l, x.conn ≠ n
theorem IsUn.le {l : List Ls} {n k : Nat} (h : IsUn l n) (h' : IsUn l k) : n ≤ k := by
  apply Classical.byContradiction
  intro hn
  obtain ⟨x, hx, e⟩ := List.mem_map.1 (h.all k (by have := h'.one; omega) (by omega))
  exact h'.no x hx e
theorem un_ex (l : List Ls) : ∃ n, IsUn l n := by
  apply Classical.byContradiction
  intro hne
  have h : ∀ n : Nat, ∀ c : Int, 1 ≤ c → c ≤ n → c ∈ l.map Ls.conn := by
    intro n
    induction n with
    | zero => intro c h1 h2; omega
    | succ n ih =>
      intro c h1 h2
      by_cases hc : c ≤ n
      · exact ih c h1 hc
      · have e : c = (n + 1 : Nat) := by omega
        apply Classical.byContradiction
        intro hn
        exact hne ⟨n + 1, by omega, fun d d1 d2 => ih d d1 (by omega), fun x hx ex => hn (by rw [e, ← ex]; exact List.mem_map_of_mem hx)⟩
  have := holds_len (h (l.length + 1))
  rw [List.length_map] at this
  omega
/-- The least number that no lease has. -/
noncomputable def un (l : List Ls) : Nat := (un_ex l).choose
theorem un_is (l : List Ls) : IsUn l (un l) := (un_ex l).choose_spec
theorem un_len (l : List Ls) : un l ≤ l.length + 1 := by
  have := holds_len (n := un l - 1) (l := l.map Ls.conn) fun c h1 h2 => (un_is l).all c h1 (by have := (un_is l).one; omega)
  rw [List.length_map] at this; omega
theorem UInv.done {l : List Ls} {n : Nat} (h : UInv l n l.length) : n = un l := by
  have h1 : IsUn l n := ⟨h.one, h.all, fun x hx => h.no x (by rw [List.take_length]; exact hx)⟩
  have h2 := h1.le (un_is l)
  have h3 := (un_is l).le h1
  omega
set_option maxHeartbeats 4000000 in
theorem unused_m (s : Po) (hl : s.ls.length < 4294967290) : Meets Tryz.prog 25 [s.pv] [] (Ret (.i (un s.ls))) := by
  refine meetsH [] tbOk mixed Tryz.func25 pl25 rfl rfl ?_
  simp [Tryz.ntmps25]
  refine vc_loop (fun m σ => ∃ n k : Nat, m = (s.ls.length + 1 - n) * (s.ls.length + 2) + (s.ls.length + 1 - k) ∧ UInv s.ls n k ∧ σ = ⟨23, [(4, .i k), (3, .i n), (1, .ptr 1 0)], [(1, .box 31 s.cells)]⟩) ?_ ?_
  · exact ⟨_, _, ⟨1, 0, rfl, ⟨Nat.le_refl _, fun c h1 h2 => by omega, fun y hy => by simp at hy, Nat.zero_le _⟩, rfl⟩, [], _, rfl, by simp⟩
  rintro m σ ⟨n, k, rfl, hu, rfl⟩
  have hle := hu.len
  by_cases hlt : k < s.ls.length
  · obtain ⟨x, hx, e⟩ := at_lt hlt
    have wk := wrap_succ hlt (by omega)
    have wn : IntKind.i64.wrap ((n : Int) + 1) = (n : Int) + 1 := IntWalk.i64_in _ (by omega)
    have w0 : IntKind.i64.wrap 0 = 0 := by decide
    by_cases hc : x.conn = n
    · have hu2 := hu.up hx hc
      have hle2 := hu2.len
      simp [hlt, e, hc, wn]
      refine ⟨_, ?_, _, ⟨n + 1, 0, rfl, hu2, rfl⟩, [], _, rfl, by simp [w0]⟩
      have : s.ls.length + 1 - n = (s.ls.length + 1 - (n + 1)) + 1 := by omega
      rw [this, Nat.add_mul]
      omega
    · have hu2 := hu.next hx hc
      simp [hlt, e, hc, wk]
      refine ⟨_, ?_, _, ⟨n, k + 1, rfl, hu2, rfl⟩, [], _, rfl, by simp⟩
      omega
  have hk : k = s.ls.length := by have := hu.le; omega
  subst hk
  simp
  refine vcRet_of [] ?_ rfl
  simp [← hu.done]
/-- How many are closed. -/
def cls (es : List Ef) : Nat := (es.filter fun y => y.kind == 11).length
theorem cls_one (s : Po) (a c : Int) : cls [ef s 11 a c] = 1 := rfl
theorem cls_nil : cls [] = 0 := rfl
theorem cls_succ {es : List Ef} {k : Nat} {y : Ef} (hy : es[k]? = some y) : cls (es.take (k + 1)) = cls (es.take k) + if y.kind = 11 then 1 else 0 := by
  rw [cls, List.take_add_one, hy, List.filter_append, List.length_append]
  show _ + ([y].filter fun y => y.kind == 11).length = _
  by_cases h : y.kind = 11 <;> simp [cls, h]
theorem cls_le (es : List Ef) (k : Nat) : cls (es.take k) ≤ k := Nat.le_trans (List.length_filter_le _ _) (by simp; omega)
set_option maxHeartbeats 4000000 in
theorem closes_m (es : List Ef) (hl : es.length < 4294967296) : Meets Tryz.prog 26 [.d (el es)] [] (Ret (.i (cls es))) := by
  refine meetsH [] tbOk mixed Tryz.func26 pl26 rfl rfl ?_
  simp [Tryz.ntmps26]
  refine vc_loop (fun m σ => ∃ k : Nat, m = es.length - k ∧ k ≤ es.length ∧ σ = ⟨20, [(4, .i k), (3, .i (cls (es.take k) : Nat)), (0, .d (el es))], []⟩) ?_ ?_
  · exact ⟨_, _, ⟨0, rfl, Nat.zero_le _, rfl⟩, [], _, rfl, by simp [cls]⟩
  rintro m σ ⟨k, rfl, hk, rfl⟩
  by_cases hlt : k < es.length
  · obtain ⟨y, hy, e⟩ := at_lt hlt
    have wk := wrap_succ hlt hl
    have hcs := cls_succ hy
    have hcl := cls_le es k
    have wc : IntKind.i64.wrap ((cls (es.take k) : Int) + 1) = (cls (es.take k) : Int) + 1 := IntWalk.i64_in _ (by omega)
    by_cases h11 : y.kind = 11
    · rw [if_pos h11] at hcs
      simp [hlt, e, h11, wk, wc]
      refine ⟨_, ?_, _, ⟨k + 1, rfl, hlt, rfl⟩, [], _, rfl, by simp [hcs]⟩
      omega
    · rw [if_neg h11] at hcs
      simp [hlt, e, h11, wk]
      refine ⟨_, ?_, _, ⟨k + 1, rfl, hlt, rfl⟩, [], _, rfl, by simp [hcs]⟩
      omega
  obtain rfl : k = es.length := by omega
  simp
  exact vcRet_of [] (by simp) rfl
/-- A pool that was shut. -/
structure Over (s : Po) : Prop where
  f : Fine s
  shut : s.shut = true
theorem Over.ws {s : Po} (h : Over s) : s.wt.ws = [] := (h.f.shut h.shut).1
theorem Over.cs {s : Po} (h : Over s) : s.idle.cs = [] := (h.f.shut h.shut).2
theorem rs_kind7 (s : Po) : (rs s 7 0).kind = 7 := rfl
theorem shut_over {s : Po} (h : Fine s) : Over (shut s).1 ∧ (shut s).2.1.kind = 7 ∧ (shut s).2.2.2 = 0 := by
  unfold shut guarded
  rw [if_pos h]
  exact ⟨⟨shut_fine h, rfl⟩, rs_kind7 s, rfl⟩
theorem giveS_over {t : Po} (h1 : t.shut = true) (h2 : t.wt.ws = []) (c b : Int) (re : Bool) : giveS t c b re = (t, [ef t 11 0 c]) := by
  have hp : passS t = (t, []) := by unfold passS; rw [h2]
  unfold giveS
  rw [if_pos (.inl h1), hp]
theorem over_dial {s : Po} (h : Over s) {d : Dl} {ds : List Dl} (e : s.ds = d :: ds) {n : Int} (h1 : 1 ≤ n) (h2 : n ≤ 1000000000000000) (hno : ∀ x ∈ s.ls, x.conn ≠ n) (yes : Bool) :
    ∃ k : Int, (k = 7 ∨ k = 10 ∨ k = 6) ∧ dialled s d.call n yes = ({ s with ds := ds }, rs s k 0, if yes = true then [ef s 11 0 n] else [], 0) := by
  have hdc : numOk d.call = true := h.f.f.ds d (by rw [e]; simp)
  have hn : numOk n = true := numOk_iff.2 ⟨h1, h2⟩
  have hd0 : s.ds[0]? = some d := by rw [e]; rfl
  have hdrop : dropD s.ds d.call = ds := by rw [dropD_at h.f.f.du hd0, e]; rfl
  have hfind : findD s.ds d.call = d := findD_at h.f.f.du hd0
  have hany : s.ds.any (fun x => x.call == d.call) = true := by rw [e]; simp
  have hth : there s n = false := by
    unfold there
    rw [h.cs, Bool.or_eq_false_iff, List.any_eq_false]
    exact ⟨fun x hx => by simpa using hno x hx, rfl⟩
  unfold dialled guarded
  rw [if_pos h.f]
  unfold dialledK
  rw [if_neg (by rw [hdc, hn]; simp), if_neg (by rw [hany]; simp), if_neg (by rw [hth]; simp)]
  unfold dialledT
  rw [hdrop, hfind]
  have hp : passS { s with ds := ds } = ({ s with ds := ds }, []) := by unfold passS; dsimp only; rw [h.ws]
  have hg := giveS_over (t := { s with ds := ds }) h.shut h.ws n s.now true
  cases yes
  · exact ⟨if d.gone = true then 7 else 10, by split <;> simp, by dsimp only; rw [if_pos rfl, hp]; rfl⟩
  · by_cases hgo : d.gone = true
    · exact ⟨7, .inl rfl, by dsimp only; rw [if_neg (by simp), if_pos hgo, hg]; rfl⟩
    · exact ⟨6, .inr (.inr rfl), by dsimp only; rw [if_neg (by simp), if_neg hgo, if_pos h.shut]; rfl⟩
theorem over_free {s : Po} (h : Over s) {x : Ls} {ls : List Ls} (e : s.ls = x :: ls) (re : Bool) : free s x.call re = ({ s with ls := ls }, rs s 7 0, [ef s 11 0 x.conn], 0) := by
  have hxc : numOk x.call = true := (h.f.f.ls x (by rw [e]; simp)).1
  have hd0 : s.ls[0]? = some x := by rw [e]; rfl
  have hdrop : dropL s.ls x.call = ls := by rw [dropL_at h.f.f.lu hd0, e]; rfl
  have hfind : findL s.ls x.call = x := findL_at h.f.f.lu hd0
  have hany : s.ls.any (fun y => y.call == x.call) = true := by rw [e]; simp
  unfold free guarded
  rw [if_pos h.f]
  unfold freeK
  rw [if_neg (by rw [hxc]; simp), if_neg (by rw [hany]; simp)]
  dsimp only
  rw [hdrop, hfind, giveS_over (t := { s with ls := ls }) h.shut h.ws]
  rfl
theorem over_dialled {s : Po} (h : Over s) {d : Dl} {ds : List Dl} (e : s.ds = d :: ds) : Over { s with ds := ds } := by
  have hd0 : s.ds[0]? = some d := by rw [e]; rfl
  have hdrop : dropD s.ds d.call = ds := by rw [dropD_at h.f.f.du hd0, e]; rfl
  have hh := h.f.holeD hd0
  rw [hdrop] at hh
  exact ⟨hh.fine h.ws, h.shut⟩
theorem over_freed {s : Po} (h : Over s) {x : Ls} {ls : List Ls} (e : s.ls = x :: ls) : Over { s with ls := ls } := by
  have hf := over_free h e true
  have hF : Fine (free s x.call true).1 := by unfold free; rw [guarded, if_pos h.f]; exact free_fine h.f _ _
  rw [hf] at hF
  exact ⟨hF, h.shut⟩
theorem over_ask {s : Po} (h : Over s) (h1 : s.ls = []) (h2 : s.ds = []) : ask s 5 1000000000000 = (s, rs s 6 0, [], 0) := by
  unfold ask guarded
  rw [if_pos h.f]
  unfold askK
  rw [if_neg (by decide), if_neg (by unfold role; rw [h1, h2, h.ws]; decide), if_pos h.shut]
def cn (yes : Bool) (j : Nat) : Nat := if yes = true then j else 0
theorem cn_le (yes : Bool) (j : Nat) : cn yes j ≤ j := by unfold cn; split <;> omega
theorem cn_zero (yes : Bool) : cn yes 0 = 0 := by unfold cn; split <;> rfl
theorem cn_succ (yes : Bool) (j : Nat) : cn yes (j + 1) = cn yes j + if yes = true then 1 else 0 := by unfold cn; split <;> rfl
theorem ef_cls (s : Po) (n : Int) (yes : Bool) : cls (if yes = true then [ef s 11 0 n] else []) = if yes = true then 1 else 0 := by cases yes <;> rfl
def dd (t : Po) (j : Nat) : Po := { t with ds := t.ds.drop j }
def ff (t : Po) (j : Nat) : Po := { t with ds := [], ls := t.ls.drop j }
theorem dd_next {t : Po} {j : Nat} {d : Dl} {ds : List Dl} (e : (dd t j).ds = d :: ds) : ({ dd t j with ds := ds } : Po) = dd t (j + 1) := by
  have e : t.ds.drop j = d :: ds := e
  have : t.ds.drop (j + 1) = ds := by rw [← List.tail_drop, e]; rfl
  unfold dd
  rw [this]
theorem ff_next {t : Po} {j : Nat} {d : Ls} {ls : List Ls} (e : (ff t j).ls = d :: ls) : ({ ff t j with ls := ls } : Po) = ff t (j + 1) := by
  have e : t.ls.drop j = d :: ls := e
  have : t.ls.drop (j + 1) = ls := by rw [← List.tail_drop, e]; rfl
  unfold ff
  rw [this]
theorem dd_over {t : Po} (h : Over t) : ∀ j, Over (dd t j)
  | 0 => h
  | j + 1 => by
    have ih := dd_over h j
    cases e : (dd t j).ds with
    | nil =>
      have e' : t.ds.drop j = [] := e
      have : dd t (j + 1) = dd t j := by unfold dd; rw [← List.tail_drop, e']; rfl
      rw [this]; exact ih
    | cons d ds => rw [← dd_next e]; exact over_dialled ih e
theorem dd_end {t : Po} : dd t t.ds.length = ff t 0 := by unfold dd ff; rw [List.drop_length]; rfl
theorem ff_over {t : Po} (h : Over t) : ∀ j, Over (ff t j)
  | 0 => by rw [← dd_end]; exact dd_over h _
  | j + 1 => by
    have ih := ff_over h j
    cases e : (ff t j).ls with
    | nil =>
      have e' : t.ls.drop j = [] := e
      have : ff t (j + 1) = ff t j := by unfold ff; rw [← List.tail_drop, e']; rfl
      rw [this]; exact ih
    | cons d ls => rw [← ff_next e]; exact over_freed ih e
end Go.Proofs.YtajjmhpdiikjhaaGreat.Po
namespace Go.Proofs.YtajjmhpdiikjhaaGreat.Po
set_option maxRecDepth 100000
open Go.RowKit

theorem Over.held {s : Po} (h : Over s) : Held s := h.f.f.held
inductive EInv (m q i a : Int) (t : Po) (yes : Bool) : Nat → Sta → Prop
  | mk {j : Nat} {k rb rc : Int} : j ≤ t.ds.length → EInv m q i a t yes (t.ds.length - j) ⟨228, [(15, .i j), (14, .i (cn yes j : Nat)), (13, .i ((t.ls.length : Int) + (cn yes j : Nat))), (3, .ptr 3 0), (7, .ptr 7 0), (10, .ptr 10 0), (2, .b yes), (6, .b false)],
      [(3, .box 47 [.i m, .i q, .i i, .i a]), (7, .box 31 (dd t j).cells), (10, .box 36 [.i k, .i rb, .i rc])]⟩
inductive FInv (m q i a : Int) (t : Po) (yes : Bool) (N : Nat) : Nat → Sta → Prop
  | mk {j : Nat} {k rb rc : Int} : j ≤ t.ls.length → FInv m q i a t yes N (t.ls.length - j) ⟨228, [(16, .i j), (14, .i ((N : Int) + j)), (13, .i ((t.ls.length : Int) + N)), (3, .ptr 3 0), (7, .ptr 7 0), (10, .ptr 10 0), (2, .b yes), (6, .b false)],
      [(3, .box 47 [.i m, .i q, .i i, .i a]), (7, .box 31 (ff t j).cells), (10, .box 36 [.i k, .i rb, .i rc])]⟩
set_option maxHeartbeats 16000000 in
theorem ends_m (m q i a : Int) (xs : List Act) (yes : Bool) (hx0 : ∀ x ∈ xs, 0 ≤ x.what) : Meets Tryz.prog 8 [.agg [.i m, .i q, .i i, .i a], .d (al xs), .b yes] [] (Ret (.b true)) := by
  refine meetsH [] tbOk mixed Tryz.func8 pl8 rfl rfl ?_
  by_cases h60 : (60 : Int) < xs.length
  · simp [Tryz.ntmps8, h60]
    refine shown_m.mono ?_
    rintro _ rfl
    simp
    exact vcRet_of [] (by simp) rfl
  have hbg := begun_m m q i a
  simp at hbg
  simp [Tryz.ntmps8, h60]
  refine hbg.mono ?_
  rintro _ rfl
  cases hb : begB m q i a
  case false =>
    simp
    refine shown_m.mono ?_
    rintro _ rfl
    simp
    exact vcRet_of [] (by simp) rfl
  have hf0 := beg_fine hb
  generalize beg m q i a = s at hf0 ⊢
  simp
  refine vc_loop (fun n σ => ∃ k : Nat, n = xs.length - k ∧ k ≤ xs.length ∧ σ = ⟨228, [(9, .i k), (3, .ptr 3 0), (7, .ptr 7 0), (1, .d (al xs)), (2, .b yes), (6, .b false)], [(3, .box 47 [.i m, .i q, .i i, .i a]), (7, .box 31 (stA s xs k).cells)]⟩) ?_ ?_
  · exact ⟨_, _, ⟨0, rfl, Nat.zero_le _, rfl⟩, [], _, rfl, by simp [stA]⟩
  rintro n σ ⟨k, rfl, hk, rfl⟩
  by_cases hlt : k < xs.length
  · obtain ⟨x, hx, e⟩ := at_lt hlt
    have wk := wrap_succ hlt (by omega)
    have e1 := st_succ (s := s) hx
    have hf := st_fine (xs := xs) hf0 k
    have hd := do_m (stA s xs k) hf.f.held x (hx0 x (List.mem_of_getElem? hx))
    simp at hd
    simp [hlt, e]
    refine effCall hd ?_
    simp [wk]
    refine ⟨by kernel_rfl, _, ?_, _, ⟨k + 1, rfl, hlt, rfl⟩, [], _, rfl, by simp [e1]⟩
    omega
  obtain rfl : k = xs.length := by omega
  have hfs := st_fine (xs := xs) hf0 xs.length
  have hsm := shut_m (stA s xs xs.length) hfs.f.held
  obtain ⟨ho, hk7, he0⟩ := shut_over hfs
  generalize shut (stA s xs xs.length) = o at hsm ho hk7 he0
  obtain ⟨t, r, es, er⟩ := o
  dsimp only at hsm ho hk7 he0
  subst he0
  obtain ⟨rk, rb, rc⟩ := r
  dsimp only at hk7
  subst hk7
  have hws := ho.ws
  have hcs := ho.cs
  have hmany := ho.f.f.n.many
  have hm1 := ho.f.f.n.m1
  have hld : ((t.ls.length : Int) + t.ds.length) ≤ 64 := by rw [hcs] at hmany; simp at hmany; omega
  have hwl : IntKind.i64.wrap ((t.ls.length : Int) + t.ds.length) = (t.ls.length : Int) + t.ds.length := IntWalk.i64_in _ (by omega)
  have hnl : ¬ (64 : Int) < (t.ls.length : Int) + t.ds.length := by omega
  simp at hsm
  simp
  refine hsm.mono ?_
  rintro _ rfl
  simp [hws, hcs, hwl, hnl]
  have hd0 : dd t 0 = t := rfl
  refine vc_loop (EInv m q i a t yes) ?_ ?_
  · exact ⟨_, _, .mk (j := 0) (k := 7) (rb := rb) (rc := rc) (Nat.zero_le _), [], _, rfl, by simp [hd0, cn_zero, hws, hcs]⟩
  intro n σ hI
  cases hI with
  | @mk j k rb rc hj =>
  have hov := dd_over ho j
  have hwj := hov.ws
  have hcj := hov.cs
  by_cases hlj : j < t.ds.length
  · obtain ⟨d, hdd, ed⟩ := at_lt hlj
    have hlen : (dd t j).ds.length = t.ds.length - j := List.length_drop ..
    have hls : (dd t j).ls = t.ls := rfl
    cases e : (dd t j).ds with
    | nil => rw [e] at hlen; simp at hlen; omega
    | cons d ds =>
      have hun := unused_m (dd t j) hov.held.l
      have hul := un_len t.ls
      have hu1 := (un_is t.ls).one
      have wr0 : IntKind.i64.wrap 0 = 0 := by decide
      have hj64 : (j : Int) < 64 := by omega
      have wj : IntKind.i64.wrap ((j : Int) + 1) = (j : Int) + 1 := IntWalk.i64_in _ (by omega)
      have wo1 : IntKind.i64.wrap ((t.ls.length : Int) + (j : Int) + 1) = (t.ls.length : Int) + (j : Int) + 1 := IntWalk.i64_in _ (by omega)
      have hdt : ∀ yes, ∃ kk b1 c1 : Int, (kk = 7 ∨ kk = 10 ∨ kk = 6) ∧ dialled (dd t j) d.call (un t.ls) yes = (dd t (j + 1), ⟨kk, b1, c1⟩, if yes = true then [ef (dd t j) 11 0 (un t.ls)] else [], 0) := fun yes => by
        obtain ⟨kk, hkk, hdl⟩ := over_dial hov e (n := (un t.ls : Int)) (by omega) (by omega) (by rw [hls]; exact (un_is t.ls).no) yes
        rw [dd_next e] at hdl
        exact ⟨kk, (rs (dd t j) kk 0).back, (rs (dd t j) kk 0).conn, hkk, by rw [hdl]; congr 2; unfold rs; split <;> simp_all⟩
      cases yes
      · obtain ⟨kk, b1, c1, hkk, hdl⟩ := hdt false
        have hdm := dialled_m (dd t j) hov.held d.call (un t.ls) false
        have hcl := closes_m [] (by simp)
        rw [hdl] at hdm
        simp [hls, e, hwj, hcj] at hun hdm hcl
        simp [e, hj64, hwj, hcj, hls]
        refine effCall hun ?_
        simp
        refine effCall hdm ?_
        rcases hkk with hq | hq | hq
        all_goals
          simp [hq]
          refine ⟨by kernel_rfl, ?_⟩
          refine hcl.mono ?_
          rintro _ rfl
          simp [wj, cls_nil]
          refine ⟨_, ?_, _, .mk (j := j + 1) (k := kk) (rb := b1) (rc := c1) hlj, [], _, rfl, by simp [cn, hq, wr0]⟩
          omega
      · obtain ⟨kk, b1, c1, hkk, hdl⟩ := hdt true
        have hdm := dialled_m (dd t j) hov.held d.call (un t.ls) true
        have hcl := closes_m [ef (dd t j) 11 0 (un t.ls)] (by simp)
        rw [hdl] at hdm
        simp [hls, e, hwj, hcj] at hun hdm hcl
        simp [e, hj64, hwj, hcj, hls, cn, wo1]
        refine effCall hun ?_
        simp
        refine effCall hdm ?_
        rcases hkk with hq | hq | hq
        all_goals
          simp [hq]
          refine ⟨by kernel_rfl, ?_⟩
          refine hcl.mono ?_
          rintro _ rfl
          simp [wj, cls_one]
          refine ⟨_, ?_, _, .mk (j := j + 1) (k := kk) (rb := b1) (rc := c1) hlj, [], _, rfl, by simp [cn, hq, Int.add_assoc]⟩
          omega
  obtain rfl : j = t.ds.length := by omega
  rw [dd_end] at hwj hcj ⊢
  have hfd : (ff t 0).ds = [] := rfl
  simp [hfd]
  have hcn := cn_le yes t.ds.length
  generalize cn yes t.ds.length = N at hcn ⊢
  refine vc_loop (FInv m q i a t yes N) ?_ ?_
  · exact ⟨_, _, .mk (j := 0) (k := k) (rb := rb) (rc := rc) (Nat.zero_le _), [], _, rfl, by simp [hfd, hwj, hcj]⟩
  intro n σ hI
  cases hI with
  | @mk j k rb rc hj =>
  have hov := ff_over ho j
  have hwj := hov.ws
  have hcj := hov.cs
  have hfd : (ff t j).ds = [] := rfl
  have hlen : (ff t j).ls.length = t.ls.length - j := List.length_drop ..
  by_cases hlj : j < t.ls.length
  · cases e : (ff t j).ls with
    | nil => rw [e] at hlen; simp at hlen; omega
    | cons d ls =>
      have hj64 : (j : Int) < 64 := by omega
      have wj : IntKind.i64.wrap ((j : Int) + 1) = (j : Int) + 1 := IntWalk.i64_in _ (by omega)
      have wo1 : IntKind.i64.wrap ((N : Int) + (j : Int) + 1) = (N : Int) + (j : Int) + 1 := IntWalk.i64_in _ (by omega)
      obtain ⟨b1, c1, hfr⟩ : ∃ b1 c1 : Int, free (ff t j) d.call yes = (ff t (j + 1), ⟨7, b1, c1⟩, [ef (ff t j) 11 0 d.conn], 0) :=
        ⟨0, 0, by rw [over_free hov e, ff_next e]; rfl⟩
      have hfm := free_m (ff t j) hov.held d.call yes
      have hcl := closes_m [ef (ff t j) 11 0 d.conn] (by simp)
      rw [hfr] at hfm
      simp [e, hwj, hcj, hfd] at hfm hcl
      simp [e, hj64, hwj, hcj, hfd]
      refine effCall hfm ?_
      simp
      refine ⟨by kernel_rfl, ?_⟩
      refine hcl.mono ?_
      rintro _ rfl
      simp [wj, cls_one, wo1]
      refine ⟨_, ?_, _, .mk (j := j + 1) (k := 7) (rb := b1) (rc := c1) hlj, [], _, rfl, by simp [Int.add_assoc]⟩
      omega
  obtain rfl : j = t.ls.length := by omega
  have hl0 : (ff t t.ls.length).ls = [] := List.drop_length ..
  have hcm := count_m (ff t t.ls.length) hov.held
  have ham := ask_m (ff t t.ls.length) hov.held 5 1000000000000
  rw [over_ask hov hl0 hfd] at ham
  rw [if_pos hov.f, if_pos hov.f, if_pos hov.f, if_pos hov.f, show chk (ff t t.ls.length) = 0 from if_pos hov.f] at hcm
  simp [hl0, hwj, hcj, hfd, rs] at hcm ham
  simp [hl0, hwj, hcj, hfd]
  refine hcm.mono ?_
  rintro _ rfl
  simp
  refine ham.mono ?_
  rintro _ rfl
  simp [Int.add_comm]
  refine shown_m.mono ?_
  rintro _ rfl
  simp
  exact vcRet_of [] (by simp) rfl
end Go.Proofs.YtajjmhpdiikjhaaGreat.Po
