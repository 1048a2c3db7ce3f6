/- Contracts: the reference s copied, find, After, outcome and tick. No condition. -/
import Derived.Test.YticgikpccbgjbaaK5
namespace Go.Proofs.Yticgikpccbgjbaa
open Go.RowKit

/-- The first backend with a check. -/
def findP (bs : List Bk) (id : Int) : Int := match bs.findIdx? (fun b => decide (b.probe = id)) with
  | some i => (i : Int)
  | none => -1
theorem find_hit {bs : List Bk} {id : Int} {k : Nat} {b : Bk} (hb : bs[k]? = some b) (h : b.probe = id) (hn : noProbe bs id k) : findP bs id = k := by
  have hl := lt_some hb
  have e : bs.findIdx? (fun b => decide (b.probe = id)) = some k := by
    rw [List.findIdx?_eq_some_iff_getElem]
    refine ⟨hl, ?_, fun j hj => ?_⟩
    · have : bs[k] = b := by rw [List.getElem?_eq_getElem hl] at hb; exact Option.some.inj hb
      simp [this, h]
    · have := hn j _ hj (List.getElem?_eq_getElem (by omega))
      simpa using this
  rw [findP, e]
theorem find_miss {bs : List Bk} {id : Int} (hn : noProbe bs id bs.length) : findP bs id = -1 := by
  have e : bs.findIdx? (fun b => decide (b.probe = id)) = none := by
    rw [List.findIdx?_eq_none_iff]
    intro x hx
    obtain ⟨i, hi⟩ := List.getElem?_of_mem hx
    have := hn i x (lt_some hi) hi
    simpa using this
  rw [findP, e]
set_option maxHeartbeats 1000000 in
theorem find_m (s : Hs) (id : Int) (hl : s.bs.length < 4294967296) : Meets Try.prog 40 [s.pv, .i id] [] (Ret (.i (findP s.bs id))) := by
  refine meetsH [] tbOk mixed Try.func40 pl40 rfl rfl ?_
  simp [Try.ntmps40]
  refine vc_loop (fun n σ => ∃ k : Nat, n = s.bs.length - k ∧ k ≤ s.bs.length ∧ noProbe s.bs id k ∧ σ = ⟨22, [(5, .i k), (1, .i id), (2, .ptr 2 0)], [(2, .box 26 s.ps)]⟩) ?_ ?_
  · exact ⟨_, _, ⟨0, rfl, Nat.zero_le _, fun i y h => absurd h (by omega), rfl⟩, [], _, rfl, by simp⟩
  rintro n σ ⟨k, rfl, hk, hno, rfl⟩
  by_cases hlt : k < s.bs.length
  · obtain ⟨b, hb, e⟩ := at_lt hlt
    by_cases hp : b.probe = id
    · simp [hlt, e, hp]
      refine vcRet_of [] ?_ rfl
      simp [find_hit hb hp hno]
    · simp [hlt, e, hp, wrap_succ hlt hl]
      refine ⟨_, ?_, _, ⟨k + 1, rfl, hlt, fun i z hi hz => ?_, rfl⟩, [], _, rfl, by simp⟩
      · omega
      · by_cases hij : i = k
        · subst hij; rw [hb] at hz; cases hz; exact hp
        · exact hno i z (by omega) hz
  · obtain rfl : k = s.bs.length := by omega
    simp
    refine vcRet_of [] ?_ rfl
    simp [find_miss hno]
/-- The first time of a backend that is greater than a time. -/
def afterT (c : Cf) (i : Nat) (now : Int) : Int := if fst c i ≤ now then fst c i + ((now - fst c i) / c.iv + 1) * c.iv else fst c i
theorem after_wrap {c : Cf} (h : validC c = true) {i : Nat} (hi : (i : Int) ≤ c.n) {now : Int} (h1 : fst c i ≤ now) (h2 : now ≤ 1000000000000) :
    IntKind.i64.wrap (now - fst c i) = now - fst c i ∧ IntKind.i64.wrap ((now - fst c i).tdiv c.iv) = (now - fst c i) / c.iv ∧ IntKind.i64.wrap ((now - fst c i) / c.iv + 1) = (now - fst c i) / c.iv + 1 ∧
    IntKind.i64.wrap (((now - fst c i) / c.iv + 1) * c.iv) = ((now - fst c i) / c.iv + 1) * c.iv ∧ IntKind.i64.wrap (fst c i + ((now - fst c i) / c.iv + 1) * c.iv) = fst c i + ((now - fst c i) / c.iv + 1) * c.iv := by
  have g0 := fst_nonneg h i
  have g1 := fst_le h hi
  obtain ⟨_, ⟨v1, v2⟩, _⟩ := validC_iff.1 h
  have e1 := Int.emod_add_mul_ediv (now - fst c i) c.iv
  have e2 := Int.emod_nonneg (now - fst c i) (show c.iv ≠ 0 by omega)
  have e3 : 0 ≤ (now - fst c i) / c.iv := Int.ediv_nonneg (by omega) (by omega)
  have e4 : (now - fst c i) / c.iv ≤ now - fst c i := Int.ediv_le_self _ (by omega)
  have e5 : ((now - fst c i) / c.iv + 1) * c.iv = c.iv * ((now - fst c i) / c.iv) + c.iv := by rw [Int.add_mul, Int.one_mul, Int.mul_comm]
  have e6 : (now - fst c i).tdiv c.iv = (now - fst c i) / c.iv := Int.tdiv_eq_ediv_of_nonneg (by omega)
  have e7 : 0 ≤ c.iv * ((now - fst c i) / c.iv) := Int.mul_nonneg (by omega) e3
  rw [e6]
  exact ⟨small_wrap (by omega), small_wrap (by omega), small_wrap (by omega), small_wrap (by omega), small_wrap (by omega)⟩
set_option maxHeartbeats 1000000 in
theorem after_m (c : Cf) (h : validC c = true) (i : Nat) (hi : (i : Int) ≤ c.n) (now : Int) (h2 : now ≤ 1000000000000) : Meets Try.prog 41 [c.pv, .i i, .i now] [] (Ret (.i (afterT c i now))) := by
  refine meetsH [] tbOk mixed Try.func41 pl41 rfl rfl ?_
  obtain ⟨hn, hv, _⟩ := validC_iff.1 h
  have hv0 : c.iv ≠ 0 := by omega
  simp [Try.ntmps41]
  refine (refFirst_m c h i (by omega)).mono ?_
  rintro _ rfl
  by_cases h1 : fst c i ≤ now
  · obtain ⟨w1, w2, w3, w4, w5⟩ := after_wrap h hi h1 h2
    simp [h1, hv0, w1, w2, w3, w4, w5]
    refine ⟨by kernel_rfl, vcRet_of [] ?_ rfl⟩
    simp [afterT, h1]
  · simp [h1]
    refine vcRet_of [] ?_ rfl
    simp [afterT, h1]
theorem copied_m (s : Hs) (hl : s.bs.length < 4294967296) : Meets Try.prog 36 [s.pv] [] (fun r => r = ⟨.agg [.i s.c.n, .i s.c.iv, .i s.c.tm, .i s.c.ri, .i s.c.fa, .i s.now, .rw 2000000 s.bs.length], [], [.row 42 5 (s.bs.map Bk.ds) false]⟩) := by
  refine meetsH [] tbOk mixed Try.func36 pl36 rfl rfl ?_
  simp [Try.ntmps36]
  refine ⟨by omega, ?_⟩
  refine vcRet_of [3] ?_ rfl
  simp

/-- A backend after the outcome of its check. -/
def outB (c : Cf) (b : Bk) (ok : Bool) : Bk :=
  if ok = b.up then ⟨b.up, 0, b.next, 0, 0⟩
  else if b.run + 1 = lim c b.up then ⟨!b.up, 0, b.next, 0, 0⟩ else ⟨b.up, b.run + 1, b.next, 0, 0⟩
def outL (c : Cf) (b : Bk) (i : Nat) (ok : Bool) (t : Int) : List Ch := if ok = b.up then [] else if b.run + 1 = lim c b.up then [⟨i, !b.up, t⟩] else []
theorem set_map (bs : List Bk) (k : Nat) (b : Bk) : (bs.set k b).map Bk.ds = (bs.map Bk.ds).set k b.ds := List.map_set
set_option maxRecDepth 100000 in
set_option maxHeartbeats 2000000 in
theorem refOutcome_m (s : Hs) (hl : s.bs.length < 4294967296) {k : Nat} {b : Bk} (hb : s.bs[k]? = some b) (hr : 0 ≤ b.run ∧ b.run < 1000) (ok : Bool) (t : Int) :
    Meets Try.prog 42 [s.pv, .i k, .b ok, .i t] [] (Ret (.tup [(⟨s.c, s.now, s.bs.set k (outB s.c b ok)⟩ : Hs).pv, .d (chl (outL s.c b k ok t))])) := by
  refine meetsH [] tbOk mixed Try.func42 pl42 rfl rfl ?_
  have hlt := lt_some hb
  have e : s.bs[k] = b := by rw [List.getElem?_eq_getElem hlt] at hb; exact Option.some.inj hb
  have w1 : IntKind.i64.wrap (b.run + 1) = b.run + 1 := small_wrap (by omega)
  simp [Try.ntmps42]
  refine (copied_m s hl).mono ?_
  rintro _ rfl
  by_cases h1 : ok = b.up
  · simp [hlt, e, h1]
    refine vcRet_of [] ?_ rfl
    simp [outB, outL]
    exact List.take_of_length_le (by simp)
  simp [hlt, e, h1, w1]
  refine effCall (refLimit_m s.c b.up) ?_
  by_cases h2 : b.run + 1 = lim s.c b.up
  · simp [h2]
    refine ⟨by kernel_rfl, hlt, vcRet_of [] ?_ rfl⟩
    simp [outB, outL, h1, h2]
    exact List.take_of_length_le (by simp)
  · simp [h2]
    refine ⟨by kernel_rfl, hlt, vcRet_of [] ?_ rfl⟩
    simp [outB, outL, h1, h2]
    exact List.take_of_length_le (by simp)

def bgn (bs : List Bk) (f : Int) : Int := (bs.getD f.toNat default).began
/-- The first of those that began first. -/
def firstTo (bs : List Bk) : Nat → Int
  | 0 => -1
  | k + 1 => if (bs.getD k default).probe ≠ 0 ∧ (firstTo bs k < 0 ∨ (bs.getD k default).began < bgn bs (firstTo bs k)) then (k : Int) else firstTo bs k
theorem firstTo_succ {bs : List Bk} {k : Nat} {b : Bk} (h : bs[k]? = some b) : firstTo bs (k + 1) = if b.probe ≠ 0 ∧ (firstTo bs k < 0 ∨ b.began < bgn bs (firstTo bs k)) then (k : Int) else firstTo bs k := by rw [firstTo, getD_some h]
theorem firstTo_range (bs : List Bk) : ∀ k, k ≤ bs.length → firstTo bs k = -1 ∨ ∃ (f : Nat) (y : Bk), firstTo bs k = f ∧ f < k ∧ bs[f]? = some y ∧ y.probe ≠ 0
  | 0, _ => .inl rfl
  | k + 1, h => by
    obtain ⟨b, hb, _⟩ := at_lt (show k < bs.length by omega)
    rw [firstTo_succ hb]
    split
    · rename_i hc
      exact .inr ⟨k, b, rfl, by omega, hb, hc.1⟩
    · rcases firstTo_range bs k (by omega) with h1 | ⟨f, y, h1, h2, h3⟩
      · exact .inl h1
      · exact .inr ⟨f, y, h1, by omega, h3⟩
/-- How many checks are under way. -/
def busy (bs : List Bk) : Nat := (bs.filter fun b => decide (b.probe ≠ 0)).length
theorem busy_set : ∀ {bs : List Bk} {k : Nat} {b c : Bk}, bs[k]? = some b → b.probe ≠ 0 → c.probe = 0 → busy (bs.set k c) + 1 = busy bs
  | [], _, _, _, h, _, _ => by simp at h
  | x :: bs, 0, b, c, h, h1, h2 => by
    simp at h; subst h
    simp [busy, h1, h2]
  | x :: bs, k + 1, b, c, h, h1, h2 => by
    have ih := busy_set (bs := bs) (k := k) (c := c) (by simpa using h) h1 h2
    unfold busy at ih ⊢
    rw [List.set_cons_succ, List.filter_cons, List.filter_cons]
    split
    · simp only [List.length_cons]; omega
    · exact ih
theorem outB_probe (c : Cf) (b : Bk) (ok : Bool) : (outB c b ok).probe = 0 := by
  unfold outB
  split
  · rfl
  · split <;> rfl
/-- Ticks as the reference lets them pass: check by check. -/
def tickF : Nat → Hs → Int → Hs × List Ch
  | 0, s, now => (⟨s.c, now, s.bs⟩, [])
  | n + 1, s, now =>
    if firstTo s.bs s.bs.length < 0 ∨ now < bgn s.bs (firstTo s.bs s.bs.length) + s.c.tm then (⟨s.c, now, s.bs⟩, [])
    else
      let f := (firstTo s.bs s.bs.length).toNat
      let b := s.bs.getD f default
      let r := tickF n ⟨s.c, s.now, s.bs.set f (outB s.c b false)⟩ now
      (r.1, outL s.c b f false (b.began + s.c.tm) ++ r.2)
def tickR (s : Hs) (now : Int) : Hs × List Ch := tickF (busy s.bs + 1) s now

/-- What ticks need of the backends, and leave. -/
def RunOk (c : Cf) (bs : List Bk) : Prop := ∀ (k : Nat) (b : Bk), bs[k]? = some b → (0 ≤ b.run ∧ b.run < lim c b.up) ∧ 0 ≤ b.began ∧ b.began ≤ 1000000000000
theorem lim_le {c : Cf} (h : validC c = true) (up : Bool) : 1 ≤ lim c up ∧ lim c up ≤ 10 := by
  obtain ⟨_, _, _, h1, h2⟩ := validC_iff.1 h
  cases up
  · exact h1
  · exact h2
theorem outB_run {c : Cf} (h : validC c = true) {b : Bk} (ok : Bool) (hr : 0 ≤ b.run ∧ b.run < lim c b.up) : 0 ≤ (outB c b ok).run ∧ (outB c b ok).run < lim c (outB c b ok).up := by
  have h1 := lim_le h b.up
  have h2 := lim_le h (!b.up)
  unfold outB
  split
  · exact ⟨Int.le_refl _, by show 0 < lim c b.up; omega⟩
  · split
    · exact ⟨Int.le_refl _, by show 0 < lim c (!b.up); omega⟩
    · exact ⟨by show 0 ≤ b.run + 1; omega, by show b.run + 1 < lim c b.up; omega⟩
theorem outB_began (c : Cf) (b : Bk) (ok : Bool) : (outB c b ok).began = 0 := by
  unfold outB
  split
  · rfl
  · split <;> rfl
theorem RunOk.set {c : Cf} {bs : List Bk} (hv : validC c = true) (h : RunOk c bs) {f : Nat} {b : Bk} (hb : bs[f]? = some b) (ok : Bool) : RunOk c (bs.set f (outB c b ok)) := by
  intro k y hy
  rw [List.getElem?_set] at hy
  split at hy
  · split at hy
    · cases hy
      refine ⟨outB_run hv ok (h f b hb).1, ?_⟩
      rw [outB_began]; omega
    · cases hy
  · exact h k y hy
theorem chk_run {s : Hs} (h : chk s = 0) : RunOk s.c s.bs := fun k b hb => by
  have h1 := chk_num h hb
  refine ⟨⟨h1.1, h1.2.1⟩, ?_⟩
  by_cases h0 : b.probe = 0
  · rw [chk_idle h hb h0]; omega
  · have h2 := chk_busy h hb h0
    have := (chk_fine h).n1
    omega
set_option maxRecDepth 100000 in
set_option maxHeartbeats 8000000 in
theorem refTick_m (s : Hs) (hv : validC s.c = true) (hl : s.bs.length < 4294967296) (hr : RunOk s.c s.bs) (now : Int) :
    Meets Try.prog 38 [s.pv, .i now] [] (Ret (.tup [(tickR s now).1.pv, .d (chl (tickR s now).2)])) := by
  refine meetsH [] tbOk mixed Try.func38 pl38 rfl rfl ?_
  obtain ⟨_, _, ⟨htm1, htm2⟩, _⟩ := validC_iff.1 hv
  have hiv := (validC_iff.1 hv).2.1
  simp [Try.ntmps38]
  refine (copied_m s hl).mono ?_
  rintro _ rfl
  simp
  refine vc_loop (fun n σ => ∃ (bs : List Bk) (acc : List Ch), n = busy bs ∧ bs.length = s.bs.length ∧ acc.length + busy bs ≤ s.bs.length ∧ RunOk s.c bs ∧ tickR s now = ((tickF (busy bs + 1) ⟨s.c, s.now, bs⟩ now).1, acc ++ (tickF (busy bs + 1) ⟨s.c, s.now, bs⟩ now).2) ∧
    σ = ⟨87, [(2, .ptr 2 0), (4, .ptr 4 0), (1, .i now), (6, .rw 6 acc.length)], [(2, .box 26 (⟨s.c, s.now, bs⟩ : Hs).ps), (4, .box 26 [.any, .any, .any, .any, .any, .any, .any]), (6, .row 51 3 (acc.map Ch.ds) false)]⟩) ?_ ?_
  · refine ⟨_, _, ⟨s.bs, [], rfl, rfl, by simpa [busy] using List.length_filter_le _ s.bs, hr, by simp [tickR], rfl⟩, [.seen 2 6, .row 6 51 3], _, (by simp [Prep.all, Prep.run]; rfl), ?_⟩
    simp
    exact List.take_of_length_le (by simp)
  rintro n σ ⟨bs, acc, rfl, hlen, hac, hrun, hT, rfl⟩
  simp
  refine vc_loop (fun n σ => ∃ k : Nat, n = bs.length - k ∧ k ≤ bs.length ∧ σ = ⟨87, [(8, .i k), (7, .i (firstTo bs k)), (2, .ptr 2 0), (4, .ptr 4 0), (1, .i now), (6, .rw 6 acc.length)], [(2, .box 26 (⟨s.c, s.now, bs⟩ : Hs).ps), (4, .box 26 [.any, .any, .any, .any, .any, .any, .any]), (6, .row 51 3 (acc.map Ch.ds) false)]⟩) ?_ ?_
  · exact ⟨_, _, ⟨0, rfl, Nat.zero_le _, rfl⟩, [], _, rfl, by simp [firstTo]⟩
  rintro n σ ⟨k, rfl, hk, rfl⟩
  by_cases hlt : k < bs.length
  · obtain ⟨b, hb, e⟩ := at_lt hlt
    have w := wrap_succ hlt (by omega)
    have hs := firstTo_succ hb
    by_cases p0 : b.probe = 0
    · rw [if_neg (fun h => h.1 p0)] at hs
      simp [hlt, e, p0, w]
      refine ⟨by kernel_rfl, _, ?_, _, ⟨k + 1, rfl, hlt, rfl⟩, [], _, rfl, by simp [hs]⟩
      omega
    · rcases firstTo_range bs k (by omega) with hf | ⟨f, y, hf, hfk, hy, _⟩
      · rw [hf] at hs ⊢
        rw [if_pos ⟨p0, .inl (by omega)⟩] at hs
        simp [hlt, e, p0, w]
        refine ⟨by kernel_rfl, _, ?_, _, ⟨k + 1, rfl, hlt, rfl⟩, [], _, rfl, by simp [hs]⟩
        omega
      · rw [hf] at hs ⊢
        have hfl := lt_some hy
        have ey : bs[f] = y := by rw [List.getElem?_eq_getElem hfl] at hy; exact Option.some.inj hy
        have eb : bgn bs (f : Int) = y.began := by simp [bgn, List.getD, hy]
        rw [eb] at hs
        have nf : ¬ ((f : Int) < 0) := by omega
        by_cases hlt2 : b.began < y.began
        · rw [if_pos ⟨p0, .inr hlt2⟩] at hs
          simp [hlt, e, p0, nf, hfl, ey, hlt2, w]
          refine ⟨by kernel_rfl, _, ?_, _, ⟨k + 1, rfl, hlt, rfl⟩, [], _, rfl, by simp [hs]⟩
          omega
        · rw [if_neg (fun h => h.2.elim (by omega) hlt2)] at hs
          simp [hlt, e, p0, nf, hfl, ey, hlt2, w]
          refine ⟨by kernel_rfl, _, ?_, _, ⟨k + 1, rfl, hlt, rfl⟩, [], _, rfl, by simp [hs]⟩
          omega
  · obtain rfl : k = bs.length := by omega
    have stop : (firstTo bs bs.length < 0 ∨ now < bgn bs (firstTo bs bs.length) + s.c.tm) → tickR s now = (⟨s.c, now, bs⟩, acc) := fun h => by
      rw [hT, tickF, if_pos h, List.append_nil]
    rcases firstTo_range bs bs.length (Nat.le_refl _) with hf | ⟨f, y, hf, hfk, hy, hyp⟩
    · have hT2 := stop (.inl (by omega))
      rw [hf]
      simp
      refine ⟨by kernel_rfl, vcRet_of [] ?_ rfl⟩
      simp [hT2]
      exact List.take_of_length_le (by simp)
    · have ey : bs[f] = y := by rw [List.getElem?_eq_getElem hfk] at hy; exact Option.some.inj hy
      have eb : bgn bs (f : Int) = y.began := by simp [bgn, List.getD, hy]
      have hr2 := hrun f y hy
      have nf : ¬ ((f : Int) < 0) := by omega
      have w2 : IntKind.i64.wrap (y.began + s.c.tm) = y.began + s.c.tm := small_wrap (by omega)
      by_cases hlate : now < y.began + s.c.tm
      · have hT2 := stop (.inr (by rw [hf, eb]; exact hlate))
        rw [hf]
        simp [nf, hfk, ey, w2, hlate]
        refine ⟨by kernel_rfl, vcRet_of [] ?_ rfl⟩
        simp [hT2]
        exact List.take_of_length_le (by simp)
      · have hbz := busy_set hy hyp (outB_probe s.c y false)
        have hT3 : tickR s now = ((tickF (busy (bs.set f (outB s.c y false)) + 1) ⟨s.c, s.now, bs.set f (outB s.c y false)⟩ now).1, (acc ++ outL s.c y f false (y.began + s.c.tm)) ++ (tickF (busy (bs.set f (outB s.c y false)) + 1) ⟨s.c, s.now, bs.set f (outB s.c y false)⟩ now).2) := by
          rw [hT, tickF, if_neg (by show ¬ (firstTo bs bs.length < 0 ∨ now < bgn bs (firstTo bs bs.length) + s.c.tm); rw [hf, eb]; omega)]
          simp only [hf, Int.toNat_natCast, getD_some hy, hbz, List.append_assoc]
        rw [hf]
        simp [nf, hfk, ey, w2, hlate]
        refine ⟨by kernel_rfl, ?_⟩
        have h10 := lim_le hv y.up
        refine effCall (refOutcome_m ⟨s.c, s.now, bs⟩ (by show bs.length < _; omega) hy ⟨hr2.1.1, by omega⟩ false (y.began + s.c.tm)) ?_
        obtain ⟨O, hO⟩ : ∃ O, outL s.c y f false (y.began + s.c.tm) = O := ⟨_, rfl⟩
        have hOl : O.length ≤ 1 := by
          rw [← hO]; unfold outL
          split
          · simp
          · split <;> simp
        obtain ⟨y2, hy2⟩ : ∃ y2, outB s.c y false = y2 := ⟨_, rfl⟩
        simp [hO, hy2]
        rw [hy2] at hbz
        refine ⟨by kernel_rfl, by omega, _, ?_, _, ⟨bs.set f y2, rfl, by simpa using hlen, acc ++ O, ?_, ?_, ?_, rfl⟩, [], _, rfl, ?_⟩
        · omega
        · rw [List.length_append]; omega
        · rw [← hy2]; exact hrun.set hv hy false
        · rw [← hO, ← hy2]; exact hT3
        · simp
end Go.Proofs.Yticgikpccbgjbaa
