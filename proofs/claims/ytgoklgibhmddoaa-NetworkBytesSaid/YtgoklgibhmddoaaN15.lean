/- Contracts: network 15. No condition. -/
import Derived.Test.YtgoklgibhmddoaaN11
import Derived.Test.YtgoklgibhmddoaaN13
namespace Go.Proofs.Ytgoklgibhmddoaa

structure Keeps (a b : Cn) : Prop where
  id : a.id = b.id
  be : a.backend = b.backend
  bo : a.born = b.born
  se : a.sent ≤ b.sent
  s2 : a.status = 2 → b.status = 2
  s3 : a.status = 3 → b.status = 3
  s1 : a.status = 1 → b.status = 1 ∨ b.status = 3
theorem Keeps.refl (a : Cn) : Keeps a a := ⟨rfl, rfl, rfl, Int.le_refl _, fun h => h, fun h => h, fun h => .inl h⟩
structure Grows (s t : Nw) : Prop where
  len : s.conns.length ≤ t.conns.length
  old : ∀ (k : Nat) (a b : Cn), s.conns[k]? = some a → t.conns[k]? = some b → Keeps a b
  new : ∀ (k : Nat) (b : Cn), s.conns.length ≤ k → t.conns[k]? = some b → b.id = s.next ∧ b.status = 0
theorem Grows.same {s t : Nw} (h : t.conns = s.conns) : Grows s t :=
  ⟨by rw [h]; exact Nat.le_refl _, fun k a b h1 h2 => by rw [h, h1] at h2; cases h2; exact .refl a, fun k b h1 h2 => by rw [h, List.getElem?_eq_none h1] at h2; cases h2⟩
theorem grows_change {s : Nw} {n : Int} {st : List Int} {F : Cn → Pl → Int × Cn} (hF : ∀ c p, c.status ∈ st → (F c p).1 = 0 → Keeps c (F c p).2) (hst : True) : Grows s (changeS s n st F).1 := by
  unfold changeS
  split
  · exact .same rfl
  · split
    · exact .same rfl
    · rename_i h2
      split
      · exact .same rfl
      · rename_i h3
        refine ⟨by simp, fun k a b h4 h5 => ?_, fun k b h4 h5 => ?_⟩
        · have h6 : (s.conns.set (findE s n).1.toNat (F (s.conns.getD (findE s n).1.toNat default) (s.plans.getD (s.conns.getD (findE s n).1.toNat default).backend.toNat default)).2)[k]? = some b := h5
          rw [List.getElem?_set] at h6
          split at h6
          · rename_i e
            subst e
            have hg : s.conns.getD (findE s n).1.toNat default = a := by rw [List.getD_eq_getElem?_getD, h4]; rfl
            split at h6
            · cases h6
              rw [hg] at h2 h3 ⊢
              exact hF _ _ (by simpa using h2) (by simpa using h3)
            · cases h6
          · rw [h4] at h6; cases h6; exact .refl a
        · have h5 : (s.conns.set (findE s n).1.toNat (F (s.conns.getD (findE s n).1.toNat default) (s.plans.getD (s.conns.getD (findE s n).1.toNat default).backend.toNat default)).2)[k]? = some b := h5
          rw [List.getElem?_eq_none (by simpa using h4)] at h5
          cases h5
theorem keeps_close {now : Int} {p : Pl} {c : Cn} (hs : c.status ∈ [0, 1]) : Keeps c (closeF now p c) := by
  have : c.status = 0 ∨ c.status = 1 := by simpa using hs
  exact ⟨rfl, rfl, rfl, Int.le_refl _, fun h => by omega, fun h => rfl, fun _ => .inr rfl⟩
theorem keeps_of {a b : Cn} (h1 : a.id = b.id) (h2 : a.backend = b.backend) (h3 : a.born = b.born) (h4 : a.sent ≤ b.sent) (h5 : b.status = a.status) : Keeps a b := ⟨h1, h2, h3, h4, fun h => by omega, fun h => by omega, fun h => .inl (by omega)⟩
theorem keeps_read {most : Int} {c : Cn} : Keeps c (readF most c).2.2 := by
  unfold readF
  split
  · exact .refl c
  · split
    · exact keeps_of rfl rfl rfl (Int.le_refl _) rfl
    · split
      · exact .refl c
      · split <;> exact .refl c
theorem keeps_write {now : Int} {b : List Int} {c : Cn} {p : Pl} : Keeps c (writeF now b c p).2.2 := by
  have hm : 0 ≤ manyW b c p := by unfold manyW roomW; omega
  unfold writeF
  split
  · exact .refl c
  · split
    · exact .refl c
    · split
      · exact .refl c
      · exact keeps_of rfl rfl rfl (by show c.sent ≤ c.sent + manyW b c p; omega) rfl
theorem keeps_ans {delay how many : Int} {G : Cn → Pl → Cn} {c : Cn} {p : Pl} (hG : Keeps c (G c p)) : Keeps c (ansF delay how many G c p).2 := by
  unfold ansF
  split
  · exact .refl c
  · split
    · exact .refl c
    · split
      · exact .refl c
      · split
        · exact .refl c
        · split
          · exact hG
          · exact .refl c
theorem grows_tick (s : Nw) (to : Int) : Grows s (tickS s to).1 := by
  unfold tickS
  split
  · exact .same rfl
  · split
    · refine ⟨by simp, fun k a b h4 h5 => ?_, fun k b h4 h5 => ?_⟩
      · have h5 : (s.conns.map (tickCn s.plans to))[k]? = some b := h5
        rw [List.getElem?_map, h4] at h5
        cases h5
        have hst : ∀ q, q ≠ 0 → a.status = q → tickSt s.plans to a = q := fun q hq h => by
          unfold tickSt; rw [if_neg (by omega)]; exact h
        exact ⟨rfl, rfl, rfl, Int.le_refl _, hst 2 (by decide), hst 3 (by decide), fun h => .inl (hst 1 (by decide) h)⟩
      · have h5 : (s.conns.map (tickCn s.plans to))[k]? = some b := h5
        rw [List.getElem?_eq_none (by simpa using h4)] at h5
        cases h5
    · exact .same rfl
theorem grows_dial (s : Nw) (b : Int) : Grows s (dialS s b).1 := by
  unfold dialS
  split
  · exact .same rfl
  · split
    · exact .same rfl
    · refine ⟨by simp, fun k a c h4 h5 => ?_, fun k c h4 h5 => ?_⟩
      · have h5 : (s.conns ++ [newC s b (s.plans.getD b.toNat default)])[k]? = some c := h5
        rw [List.getElem?_append_left (List.getElem?_eq_some_iff.1 h4).1, h4] at h5
        cases h5
        exact .refl a
      · have h5 : (s.conns ++ [newC s b (s.plans.getD b.toNat default)])[k]? = some c := h5
        rw [List.getElem?_append_right h4] at h5
        have := List.mem_of_getElem? h5
        rw [List.mem_singleton.1 this]
        exact ⟨rfl, rfl⟩
theorem grows_do (s : Nw) (x : Ac) : Grows s (doS s x) := by
  unfold doS
  split
  · exact grows_dial _ _
  split
  · exact grows_tick _ _
  split
  · unfold writeS; exact grows_change (fun c p _ _ => keeps_write) trivial
  split
  · unfold readS; exact grows_change (fun c p _ _ => keeps_read) trivial
  split
  · exact grows_change (fun c p hs _ => keeps_close hs) trivial
  split
  · unfold takeS; exact grows_change (fun c p _ _ => keeps_of rfl rfl rfl (Int.le_refl _) rfl) trivial
  split
  · exact grows_change (fun c p _ _ => keeps_ans (keeps_of rfl rfl rfl (Int.le_refl _) rfl)) trivial
  split
  · exact grows_change (fun c p _ _ => keeps_ans (keeps_of rfl rfl rfl (Int.le_refl _) rfl)) trivial
  split
  · unfold planS
    split
    · exact .same rfl
    · split
      · exact .same rfl
      · exact .same rfl
  · exact .same rfl
/-- How many connections are those of the first backends. -/
def below_ (k : Int) (l : List Cn) : Nat := l.countP fun c => decide (c.backend < k)
theorem below_step {l : List Cn} {k : Int} (h : ∀ c ∈ l, 0 ≤ c.status ∧ c.status ≤ 3) : below_ (k + 1) l = below_ k l + (cnt k 0 l + (cnt k 1 l + (cnt k 2 l + cnt k 3 l))) := by
  unfold below_ cnt
  induction l with
  | nil => rfl
  | cons c l ih =>
    have ih := ih fun d hd => h d (by simp [hd])
    have hc := h c (by simp)
    simp only [List.countP_cons]
    rw [ih]
    by_cases h1 : c.backend < k
    · have h2 : c.backend < k + 1 := by omega
      have h3 : ¬ c.backend = k := by omega
      simp [h1, h2, h3]; omega
    · by_cases h3 : c.backend = k
      · have h2 : c.backend < k + 1 := by omega
        have h4 : c.status = 0 ∨ c.status = 1 ∨ c.status = 2 ∨ c.status = 3 := by omega
        subst h3
        rcases h4 with h4 | h4 | h4 | h4 <;> simp [h2, h4] <;> omega
      · have h2 : ¬ c.backend < k + 1 := by omega
        simp [h1, h2, h3]
theorem below_zero_ {l : List Cn} (h : ∀ c ∈ l, 0 ≤ c.backend) : below_ 0 l = 0 := by
  unfold below_
  rw [List.countP_eq_zero]
  intro c hc
  have := h c hc
  simp; omega
theorem below_all {l : List Cn} {k : Int} (h : ∀ c ∈ l, c.backend < k) : below_ k l = l.length := by
  unfold below_
  rw [List.countP_eq_length]
  intro c hc
  simpa using h c hc
end Go.Proofs.Ytgoklgibhmddoaa
namespace Go.Proofs.Ytgoklgibhmddoaa
open Go.RowKit
set_option maxRecDepth 100000

set_option maxHeartbeats 16000000 in
theorem lawOver_m (x : Sp) (hx : x.Ok) (more : List Ac) (hl : more.length ≤ maxLen) (hw : ∀ y ∈ more, 0 ≤ y.what) : Meets Try.prog 7 [x.pv, .d (acs more)] [] (Ret (.b true)) := by
  refine meetsP [(59, [.only [1, 5, 7, 8, 10] [5, 8]]), (140, [.only [1, 5, 7, 8, 13] [5, 8]])] tbOk mixed Try.func7 pl7 rfl rfl ?_
  simp [Try.ntmps7]
  refine (played_m x.plans x.acts hx.1 hx.2.1 hx.2.2).mono ?_
  rintro _ rfl
  cases hp : (playS x.plans x.acts).2
  case false =>
    simp
    refine awake_m.mono ?_
    rintro _ rfl
    simp
    exact vcRet_of [] (by simp) rfl
  obtain ⟨hs0, _, _⟩ := play_ok hp
  generalize (playS x.plans x.acts).1 = s0 at hs0
  simp
  refine (big_m more hl).mono ?_
  rintro _ rfl
  cases hb : bigL more
  case true =>
    simp
    refine awake_m.mono ?_
    rintro _ rfl
    simp
    exact vcRet_of [] (by simp) rfl
  obtain ⟨hb1, hb2⟩ := bigL_false hb
  simp
  refine vc_loop (fun m σ => ∃ k : Nat, m = more.length - k ∧ k ≤ more.length ∧ ∃ s : Nw, NOk s ∧ σ = ⟨202, [(7, .i k), (5, .ptr 5 0), (1, .d (acs more))], [(5, s.box)]⟩) ?_ ?_
  · exact ⟨_, _, ⟨0, rfl, Nat.zero_le _, _, hs0, rfl⟩, [], _, rfl, by simp⟩
  rintro m σ ⟨k, rfl, hk, s, hs, rfl⟩
  have hck : chk s = 0 := nok_iff.2 hs
  by_cases hlt : k < more.length
  case neg =>
    obtain rfl : k = more.length := by omega
    simp
    have hcl := hs.cl
    have hst : ∀ c ∈ s.conns, 0 ≤ c.status ∧ c.status ≤ 3 := fun c hc => (hs.cs c hc).st
    refine vc_loop (fun m σ => ∃ k : Nat, m = s.plans.length - k ∧ k ≤ s.plans.length ∧ σ = ⟨202, [(15, .i k), (14, .i (below_ k s.conns)), (5, .ptr 5 0)], [(5, s.box)]⟩) ?_ ?_
    · exact ⟨_, _, ⟨0, rfl, Nat.zero_le _, rfl⟩, [], _, rfl, by simp [below_zero_ fun c hc => (hs.cs c hc).be.1]⟩
    rintro m σ ⟨k, rfl, hk, rfl⟩
    by_cases hlt : k < s.plans.length
    · have hpl := hs.pl
      have hkn : knownE s k = 0 := by unfold knownE; rw [if_neg (by simp [hck]), if_neg (by omega)]
      have hstep := below_step (l := s.conns) (k := k) hst
      have hle : below_ ((k : Int) + 1) s.conns ≤ s.conns.length := List.countP_le_length
      simp [hlt]
      refine (Count_m s (fits_of hck) k).mono ?_
      rintro _ rfl
      have w1 : IntKind.i64.wrap ((below_ k s.conns : Int) + cnt k 0 s.conns) = ((below_ k s.conns + cnt k 0 s.conns : Nat) : Int) := by rw [IntWalk.i64_in _ (by omega)]; omega
      have w2 : IntKind.i64.wrap (((below_ k s.conns + cnt k 0 s.conns : Nat) : Int) + cnt k 1 s.conns) = ((below_ k s.conns + cnt k 0 s.conns + cnt k 1 s.conns : Nat) : Int) := by rw [IntWalk.i64_in _ (by omega)]; omega
      have w3 : IntKind.i64.wrap (((below_ k s.conns + cnt k 0 s.conns + cnt k 1 s.conns : Nat) : Int) + cnt k 2 s.conns) = ((below_ k s.conns + cnt k 0 s.conns + cnt k 1 s.conns + cnt k 2 s.conns : Nat) : Int) := by rw [IntWalk.i64_in _ (by omega)]; omega
      have w4 : IntKind.i64.wrap (((below_ k s.conns + cnt k 0 s.conns + cnt k 1 s.conns + cnt k 2 s.conns : Nat) : Int) + cnt k 3 s.conns) = ((below_ ((k : Int) + 1) s.conns : Nat) : Int) := by rw [IntWalk.i64_in _ (by omega)]; omega
      simp only [Int.natCast_add] at w1 w2 w3 w4
      simp [hkn, w1, w2, w3, w4, wrap_succ hlt (show s.plans.length < 4294967296 by omega)]
      exact ⟨_, by omega, _, ⟨k + 1, rfl, hlt, rfl⟩, [], _, rfl, by simp⟩
    obtain rfl : k = s.plans.length := by omega
    have hall : below_ s.plans.length s.conns = s.conns.length := below_all fun c hc => by have := (hs.cs c hc).be; omega
    simp [hall]
    refine awake_m.mono ?_
    rintro _ rfl
    simp
    exact vcRet_of [] (by simp) rfl
  obtain ⟨y, hy, e⟩ := at_lt hlt
  have hym := List.mem_of_getElem? hy
  have hyb := hb1 y hym
  have G := grows_do s y
  have ht := nok_do hs y
  simp [hlt, e]
  refine effCall (do_m s hck y (hw y hym) (by omega)) ?_
  generalize doS s y = t at G ht
  have g1 : ¬ (t.conns.length : Int) < s.conns.length := by have := G.len; omega
  simp [g1]
  refine ⟨by kernel_rfl, ?_⟩
  have hsl := hs.cl
  have htl := ht.cl
  refine vc_loop (fun m σ => ∃ j : Nat, m = s.conns.length - j ∧ j ≤ s.conns.length ∧ σ = ⟨202, [(10, .i j), (7, .i k), (8, .ptr 8 0), (5, .ptr 5 0), (1, .d (acs more))], [(5, s.box), (8, t.box)]⟩) ?_ ?_
  · exact ⟨_, _, ⟨0, rfl, Nat.zero_le _, rfl⟩, [], _, rfl, by simp⟩
  rintro m σ ⟨j, rfl, hj, rfl⟩
  by_cases hjt : j < s.conns.length
  · have hjt2 : j < t.conns.length := by have := G.len; omega
    obtain ⟨a, ha, ea⟩ := at_lt hjt
    obtain ⟨b, hb', eb⟩ := at_lt hjt2
    have K := G.old j a b ha hb'
    have k4 : ¬ b.sent < a.sent := by have := K.se; omega
    by_cases s2 : a.status = 2
    · simp [Prep.run, hjt, hjt2, ea, eb, cn_explicit a, cn_explicit b, K.id, K.be, K.bo, k4, s2, K.s2 s2, wrap_succ hjt (show s.conns.length < 4294967296 by omega)]
      refine ⟨by kernel_rfl, ?_⟩
      exact ⟨_, by omega, _, ⟨j + 1, rfl, hjt, rfl⟩, [], _, rfl, by simp⟩
    by_cases s3 : a.status = 3
    · simp [Prep.run, hjt, hjt2, ea, eb, cn_explicit a, cn_explicit b, K.id, K.be, K.bo, k4, s3, K.s3 s3, wrap_succ hjt (show s.conns.length < 4294967296 by omega)]
      refine ⟨by kernel_rfl, ?_⟩
      exact ⟨_, by omega, _, ⟨j + 1, rfl, hjt, rfl⟩, [], _, rfl, by simp⟩
    by_cases s1 : a.status = 1
    · rcases K.s1 s1 with h1 | h1
      all_goals
        simp [Prep.run, hjt, hjt2, ea, eb, cn_explicit a, cn_explicit b, K.id, K.be, K.bo, k4, s1, h1, wrap_succ hjt (show s.conns.length < 4294967296 by omega)]
        refine ⟨by kernel_rfl, ?_⟩
        exact ⟨_, by omega, _, ⟨j + 1, rfl, hjt, rfl⟩, [], _, rfl, by simp⟩
    · simp [Prep.run, hjt, hjt2, ea, eb, cn_explicit a, cn_explicit b, K.id, K.be, K.bo, k4, s1, s2, s3, wrap_succ hjt (show s.conns.length < 4294967296 by omega)]
      refine ⟨by kernel_rfl, ?_⟩
      exact ⟨_, by omega, _, ⟨j + 1, rfl, hjt, rfl⟩, [], _, rfl, by simp⟩
  obtain rfl : j = s.conns.length := by omega
  simp [Prep.run]
  refine vc_loop (fun m σ => ∃ j : Nat, m = t.conns.length - j ∧ (s.conns.length ≤ j ∧ j ≤ t.conns.length) ∧ σ = ⟨202, [(13, .i j), (7, .i k), (8, .ptr 8 0), (5, .ptr 5 0), (1, .d (acs more))], [(5, s.box), (8, t.box)]⟩) ?_ ?_
  · exact ⟨_, _, ⟨s.conns.length, rfl, ⟨Nat.le_refl _, G.len⟩, rfl⟩, [], _, rfl, by simp⟩
  rintro m σ ⟨j, rfl, hj, rfl⟩
  by_cases hjt : j < t.conns.length
  · obtain ⟨b, hb', eb⟩ := at_lt hjt
    obtain ⟨n1, n2⟩ := G.new j b hj.1 hb'
    simp [Prep.run, hjt, eb, cn_explicit b, n1, n2, wrap_succ hjt (show t.conns.length < 4294967296 by omega)]
    refine ⟨by kernel_rfl, ?_⟩
    exact ⟨_, by omega, _, ⟨j + 1, rfl, ⟨by omega, hjt⟩, rfl⟩, [], _, rfl, by simp⟩
  obtain rfl : j = t.conns.length := by omega
  simp [Prep.run, wrap_succ hlt (show more.length < 4294967296 by omega)]
  exact ⟨_, by omega, _, ⟨k + 1, rfl, hlt, t, ht, rfl⟩, [], _, rfl, by simp⟩
end Go.Proofs.Ytgoklgibhmddoaa
