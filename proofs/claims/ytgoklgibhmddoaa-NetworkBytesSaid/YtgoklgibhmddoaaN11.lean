/- Contracts: network 11. No condition. -/
import Derived.Test.YtgoklgibhmddoaaN5
import Derived.Test.YtgoklgibhmddoaaN4
namespace Go.Proofs.Ytgoklgibhmddoaa

def Quiet (d : Dr) : Prop := d.ps = [] ∧ d.ar = [] ∧ d.e = 0 ∧ d.d = 0
structure DOk (ne born : Int) (d : Dr) : Prop where
  ord : ordTo born d.ps = true
  tge : d.e ≠ 0 → lastOf born d.ps ≤ d.t
  tz : d.e = 0 → d.t = 0
  ee : d.e ≠ ne
  dd : d.d ≠ ne
  fin : d.d = 0 ∨ (d.ps = [] ∧ d.e = 0)
  tms : ∀ p ∈ d.ps, 0 ≤ p.time ∧ p.time ≤ 1000000000000
  er : 0 ≤ d.e ∧ d.e ≤ 2
  dr : 0 ≤ d.d ∧ d.d ≤ 2
  tr : 0 ≤ d.t ∧ d.t ≤ 1000000000000
  long : d.n ≤ 1048576
structure COk (nx : Int) (np : Nat) (now : Int) (c : Cn) : Prop where
  id : 1 ≤ c.id ∧ c.id ≤ nx - 1
  be : 0 ≤ c.backend ∧ c.backend ≤ np - 1
  st : 0 ≤ c.status ∧ c.status ≤ 3
  bo : 0 ≤ c.born ∧ c.born ≤ 1000000000000
  bn : c.born ≤ now
  rd : 0 ≤ c.ready ∧ c.ready ≤ never
  se : 0 ≤ c.sent ∧ c.sent ≤ 1000000000000000
  up : DOk 2 c.born c.up
  dn : DOk (-1) c.born c.dn
  rst : c.dn.d = 2 → c.dn.ar = []
  sn : (c.up.n : Int) ≤ c.sent
  s1 : c.status = 1 → c.up.e = 0 ∧ c.up.d = 0
  s3 : c.status = 3 → Quiet c.dn
  s0 : c.status ≠ 1 → c.status ≠ 3 → Quiet c.up ∧ Quiet c.dn ∧ c.sent = 0
theorem inR_iff {n a b : Int} : inR n a b = true ↔ a ≤ n ∧ n ≤ b := by unfold inR; simp
theorem quiet_iff {d : Dr} : d.quiet = true ↔ Quiet d := by
  unfold Dr.quiet Dr.n Quiet
  cases hps : d.ps with
  | nil => simp [fly]
  | cons p r => simp
theorem dok_iff {ne born : Int} {d : Dr} : (d.formed ne born = true ∧ d.ranges = true ∧ d.n ≤ 1048576) ↔ DOk ne born d := by
  unfold Dr.formed Dr.ranges timeOk
  simp only [Bool.and_eq_true, Bool.not_eq_true', Bool.or_eq_false_iff, decide_eq_false_iff_not, List.all_eq_true, inR_iff, Bool.and_eq_false_iff, Bool.or_eq_true, decide_eq_true_eq]
  constructor
  · rintro ⟨⟨h1, ⟨⟨⟨h2, h3⟩, h4⟩, h5⟩, h6⟩, ⟨h7, h8, h9, h10⟩, h11⟩
    refine ⟨h1, fun he => by rw [if_neg he] at h2; omega, fun he => ?_, h4, h5, ?_, h7, h8, h9, h10, h11⟩
    · rcases h3 with h3 | h3
      · exact absurd he h3
      · simpa using h3
    · rcases h6 with h6 | h6
      · exact .inl h6
      · exact .inr ⟨List.length_eq_zero_iff.1 h6.1, h6.2⟩
  · rintro ⟨h1, h2, h3, h4, h5, h6, h7, h8, h9, h10, h11⟩
    refine ⟨⟨h1, ⟨⟨⟨?_, ?_⟩, h4⟩, h5⟩, ?_⟩, ⟨h7, h8, h9, h10⟩, h11⟩
    · split
      · omega
      · rename_i he; have := h2 he; omega
    · by_cases he : d.e = 0
      · right; simp [h3 he]
      · exact .inl he
    · rcases h6 with h6 | h6
      · exact .inl h6
      · exact .inr ⟨by rw [h6.1]; rfl, h6.2⟩
theorem cok_iff {s : Nw} {c : Cn} : (longC c = false ∧ cnRanges s c = true ∧ c.born ≤ s.now ∧ cnFormed c = true) ↔ COk s.next s.plans.length s.now c := by
  have hl : longC c = false ↔ c.up.n ≤ 1048576 ∧ c.dn.n ≤ 1048576 := by
    unfold longC
    simp only [Bool.or_eq_false_iff, decide_eq_false_iff_not]
    omega
  rw [hl]
  unfold cnRanges cnFormed timeOk
  simp only [Bool.and_eq_true, inR_iff, Bool.not_eq_true', Bool.and_eq_false_iff, decide_eq_false_iff_not]
  constructor
  · rintro ⟨⟨l1, l2⟩, ⟨r1, r2, r3, r4, r5, r6, r7, r8⟩, hb, f1, f2, f3, f4, f5⟩
    refine ⟨r1, r2, r3, r4, hb, r5, r6, dok_iff.1 ⟨f1, r7, l1⟩, dok_iff.1 ⟨f2, r8, l2⟩, fun h => ?_, by omega, fun h => ?_, fun h => ?_, fun h1 h3 => ?_⟩
    · rcases f3 with f3 | f3
      · exact absurd h f3
      · exact List.length_eq_zero_iff.1 (by omega)
    · rw [if_pos h] at f5
      simpa using f5
    · rw [if_neg (by omega), if_pos h] at f5
      exact quiet_iff.1 f5
    · rw [if_neg h1, if_neg h3] at f5
      simp only [Bool.and_eq_true, decide_eq_true_eq] at f5
      exact ⟨quiet_iff.1 f5.1, quiet_iff.1 f5.2.1, f5.2.2⟩
  · rintro ⟨r1, r2, r3, r4, hb, r5, r6, u, d, h1, h2, h3, h4, h5⟩
    obtain ⟨f1, r7, l1⟩ := dok_iff.2 u
    obtain ⟨f2, r8, l2⟩ := dok_iff.2 d
    refine ⟨⟨l1, l2⟩, ⟨r1, r2, r3, r4, r5, r6, r7, r8⟩, hb, f1, f2, ?_, by omega, ?_⟩
    · by_cases h : c.dn.d = 2
      · right; rw [h1 h]; simp
      · exact .inl h
    · split
      · rename_i h; simpa using h3 h
      · rename_i hn1
        split
        · rename_i h; exact quiet_iff.2 (h4 h)
        · rename_i hn3
          obtain ⟨a, b, e⟩ := h5 hn1 hn3
          simp only [Bool.and_eq_true, decide_eq_true_eq]
          exact ⟨quiet_iff.2 a, quiet_iff.2 b, e⟩
/-- Numbers that grow. -/
def asc : Int → List Int → Prop
  | _, [] => True
  | b, n :: r => b < n ∧ asc n r
theorem ids_iff {now : Int} : ∀ {l : List Cn} {b : Int}, idsTo b now l = true ↔ asc b (l.map Cn.id) ∧ ∀ c ∈ l, c.born ≤ now ∧ cnFormed c = true
  | [], b => by simp [idsTo, asc]
  | c :: r, b => by
    have ih := ids_iff (now := now) (l := r) (b := c.id)
    simp only [idsTo, Bool.and_eq_true, decide_eq_true_eq, ih, List.map_cons, asc, List.forall_mem_cons]
    constructor
    · rintro ⟨h1, h2, h3, h4, h5⟩; exact ⟨⟨h1, h4⟩, ⟨h2, h3⟩, h5⟩
    · rintro ⟨⟨h1, h4⟩, ⟨h2, h3⟩, h5⟩; exact ⟨h1, h2, h3, h4, h5⟩
structure NOk (s : Nw) : Prop where
  pl : s.plans.length ≤ 16
  cl : s.conns.length ≤ 500
  po : ∀ p ∈ s.plans, plOk p = true
  now : 0 ≤ s.now ∧ s.now ≤ 1000000000000
  nx : 1 ≤ s.next ∧ s.next ≤ 1000000000000000
  cs : ∀ c ∈ s.conns, COk s.next s.plans.length s.now c
  ids : asc 0 (s.conns.map Cn.id)
theorem nok_iff {s : Nw} : chk s = 0 ↔ NOk s := by
  constructor
  · intro h
    obtain ⟨h1, h2, h3, h4, h5⟩ := chk_zero h
    have h4' := h4
    unfold ranges timeOk at h4'
    simp only [Bool.and_eq_true, inR_iff, List.all_eq_true] at h4'
    obtain ⟨a, b⟩ := ids_iff.1 h5
    refine ⟨h1, h2, h4'.1, h4'.2.1, h4'.2.2.1, fun c hc => cok_iff.1 ⟨by simpa using List.any_eq_false.1 h3 c hc, h4'.2.2.2 c hc, (b c hc).1, (b c hc).2⟩, a⟩
  · rintro ⟨h1, h2, h3, h4, h5, h6, h7⟩
    have hl : s.conns.any longC = false := List.any_eq_false.2 fun c hc => by rw [(cok_iff.2 (h6 c hc)).1]; simp
    have hr : ranges s = true := by
      unfold ranges timeOk
      simp only [Bool.and_eq_true, inR_iff, List.all_eq_true]
      exact ⟨h3, h4, h5, fun c hc => (cok_iff.2 (h6 c hc)).2.1⟩
    have hi : idsTo 0 s.now s.conns = true := ids_iff.2 ⟨h7, fun c hc => (cok_iff.2 (h6 c hc)).2.2⟩
    unfold chk
    rw [if_neg (by omega), hl, hr, hi]
    simp
/-- One connection, with the same number, is another one. -/
theorem NOk.set {s : Nw} (h : NOk s) {i : Nat} {c c' : Cn} (hc : s.conns[i]? = some c) (hid : c'.id = c.id) (hok : COk s.next s.plans.length s.now c') : NOk ⟨s.now, s.next, s.plans, s.conns.set i c'⟩ := by
  refine ⟨h.pl, by simpa using h.cl, h.po, h.now, h.nx, fun d hd => ?_, ?_⟩
  · rcases List.mem_or_eq_of_mem_set hd with hd | rfl
    · exact h.cs d hd
    · exact hok
  · have : (s.conns.set i c').map Cn.id = s.conns.map Cn.id := by
      rw [List.map_set, hid]
      apply List.ext_getElem?
      intro j
      rw [List.getElem?_set]
      split
      · rename_i e; subst e
        obtain ⟨h1, rfl⟩ := List.getElem?_eq_some_iff.1 hc
        simp [h1]
      · rfl
    show asc 0 ((s.conns.set i c').map Cn.id)
    rw [this]; exact h.ids
end Go.Proofs.Ytgoklgibhmddoaa
namespace Go.Proofs.Ytgoklgibhmddoaa

theorem getLast_time {ps : List Pc} {p : Pc} {b : Int} (h : ps.getLast? = some p) : lastOf b ps = p.time := by
  induction ps generalizing b with
  | nil => cases h
  | cons q r ih =>
    cases r with
    | nil => cases h; rfl
    | cons q2 r2 =>
      show lastOf q.time (q2 :: r2) = p.time
      exact ih (by rw [List.getLast?_cons_cons] at h; exact h)
theorem lastOf_le {ps : List Pc} : ∀ {b : Int}, ordTo b ps = true → b ≤ lastOf b ps := by
  induction ps with
  | nil => intro b _; exact Int.le_refl _
  | cons p r ih =>
    intro b h
    simp only [ordTo, Bool.and_eq_true, decide_eq_true_eq] at h
    have := ih h.2.2
    show b ≤ lastOf p.time r
    omega
theorem last_ge {d : Dr} {born now by_ : Int} (hb : born ≤ now) (hy : 0 ≤ by_) (hn : born ≤ 1000000000000) : lastOf born d.ps ≤ d.last now by_ := by
  unfold Dr.last
  cases h : d.ps.getLast? with
  | none =>
    have : d.ps = [] := List.getLast?_eq_none_iff.1 h
    rw [this]
    show born ≤ _
    simp only; omega
  | some p => rw [getLast_time h]; simp only; omega
theorem last_in {d : Dr} {now by_ : Int} (h0 : 0 ≤ now) (hy : 0 ≤ by_) (ht : ∀ p ∈ d.ps, 0 ≤ p.time ∧ p.time ≤ 1000000000000) : 0 ≤ d.last now by_ ∧ d.last now by_ ≤ 1000000000000 := by
  unfold Dr.last
  cases h : d.ps.getLast? with
  | none => simp only; omega
  | some p =>
    have := ht p (List.mem_of_getLast? h)
    simp only; omega
theorem ord_snoc {ps : List Pc} : ∀ {b : Int} {p : Pc}, ordTo b ps = true → lastOf b ps ≤ p.time → 0 < p.bytes.length → ordTo b (ps ++ [p]) = true := by
  induction ps with
  | nil =>
    intro b p _ h1 h2
    have h1 : b ≤ p.time := h1
    simp [ordTo, h1, h2]
  | cons q r ih =>
    intro b p h h1 h2
    simp only [ordTo, Bool.and_eq_true, decide_eq_true_eq] at h
    simp only [List.cons_append, ordTo, Bool.and_eq_true, decide_eq_true_eq]
    exact ⟨h.1, h.2.1, ih h.2.2 h1 h2⟩
theorem ord_mono {ps : List Pc} {a b : Int} (h : ordTo b ps = true) (hab : a ≤ b) : ordTo a ps = true := by
  cases ps with
  | nil => rfl
  | cons p r =>
    simp only [ordTo, Bool.and_eq_true, decide_eq_true_eq] at h ⊢
    exact ⟨h.1, by omega, h.2.2⟩
theorem lastOf_mono {ps : List Pc} {a b : Int} (h : a ≤ b) : lastOf a ps ≤ lastOf b ps := by
  cases ps with
  | nil => exact h
  | cons p r => exact Int.le_refl _
/-- What has arrived: the rest is in order, no byte is lost. -/
theorem arr_ok (now : Int) : ∀ (ps : List Pc) (a : List Int) (b : Int), ordTo b ps = true → ordTo b (arr now ps a).1 = true ∧ lastOf b (arr now ps a).1 ≤ lastOf b ps ∧ (arr now ps a).2.length + fly (arr now ps a).1 = a.length + fly ps ∧ (∀ p ∈ (arr now ps a).1, p ∈ ps)
  | [], a, b, h => ⟨h, Int.le_refl _, rfl, fun p hp => hp⟩
  | p :: r, a, b, h => by
    have h0 := h
    simp only [ordTo, Bool.and_eq_true, decide_eq_true_eq] at h
    unfold arr
    split
    · obtain ⟨g1, g2, g3, g4⟩ := arr_ok now r (a ++ p.bytes) p.time h.2.2
      refine ⟨ord_mono g1 h.2.1, ?_, ?_, fun q hq => List.mem_cons_of_mem _ (g4 q hq)⟩
      · have := lastOf_mono (ps := (arr now r (a ++ p.bytes)).1) h.2.1
        show _ ≤ lastOf p.time r
        omega
      · rw [g3]; simp [fly]; omega
    · exact ⟨h0, Int.le_refl _, rfl, fun q hq => hq⟩
theorem arr_nil (now : Int) (a : List Int) : arr now [] a = ([], a) := rfl
theorem tick_quiet {now : Int} {d : Dr} (h : Quiet d) : tickD now d = ⟨[], [], 0, 0, d.t⟩ := by
  obtain ⟨ps, ar, e, dd, t⟩ := d
  obtain ⟨h1, h2, h3, h4⟩ := h
  simp only at h1 h2 h3 h4
  subst h1 h2 h3 h4
  simp [tickD, endD, arr]
theorem tick_n (now : Int) (d : Dr) {b : Int} (h : ordTo b d.ps = true) : (tickD now d).n = d.n := by
  have h3 := (arr_ok now d.ps d.ar b h).2.2.1
  unfold tickD endD
  dsimp only
  split
  · rename_i hc
    show fly [] + (arr now d.ps d.ar).2.length = d.n
    rw [hc.1] at h3
    unfold Dr.n; omega
  · show fly (arr now d.ps d.ar).1 + (arr now d.ps d.ar).2.length = d.n
    unfold Dr.n; omega
theorem tick_dok {now ne born : Int} {d : Dr} (h : DOk ne born d) (hn : ne ≠ 0) (hb : 0 ≤ born) : DOk ne born (tickD now d) := by
  obtain ⟨g1, g2, g3, g4⟩ := arr_ok now d.ps d.ar born h.ord
  have hnn := tick_n now d h.ord
  have hlo : (tickD now d).n ≤ 1048576 := by rw [hnn]; exact h.long
  unfold tickD endD at hlo ⊢
  dsimp only at hlo ⊢
  split
  · rename_i hc
    rw [if_pos hc] at hlo
    exact ⟨rfl, fun he => absurd rfl he, fun _ => rfl, fun e => hn e.symm, h.ee, .inr ⟨rfl, rfl⟩, (fun p hp => nomatch hp), (show (0 : Int) ≤ 0 ∧ (0 : Int) ≤ 2 by decide), h.er, (show (0 : Int) ≤ 0 ∧ (0 : Int) ≤ 1000000000000 by decide), hlo⟩
  · rename_i hc
    rw [if_neg hc] at hlo
    refine ⟨g1, fun he => ?_, h.tz, h.ee, h.dd, ?_, fun p hp => h.tms p (g4 p hp), h.er, h.dr, h.tr, hlo⟩
    · have := h.tge he
      show lastOf born (arr now d.ps d.ar).1 ≤ d.t
      omega
    · rcases h.fin with hf | ⟨hf1, hf2⟩
      · exact .inl hf
      · refine .inr ⟨?_, hf2⟩
        show (arr now d.ps d.ar).1 = []
        rw [hf1]; rfl
theorem clear_dok {ne born : Int} {d : Dr} (h : DOk ne born d) : DOk ne born (clearD d) := by
  unfold clearD
  split
  · refine ⟨h.ord, h.tge, h.tz, h.ee, h.dd, h.fin, h.tms, h.er, h.dr, h.tr, ?_⟩
    have := h.long
    unfold Dr.n at this ⊢
    simp only [List.length_nil]; omega
  · exact h
theorem quiet_tick {now : Int} {d : Dr} (h : Quiet d) : Quiet (tickD now d) := by rw [tick_quiet h]; exact ⟨rfl, rfl, rfl, rfl⟩
theorem quiet_clear {d : Dr} (h : Quiet d) : Quiet (clearD d) := by
  unfold clearD
  split
  · exact ⟨h.1, rfl, h.2.2⟩
  · exact h
theorem cok_tick {nx : Int} {np : Nat} {now to : Int} {c : Cn} (h : COk nx np now c) (l : List Pl) (ht : now ≤ to) : COk nx np to (tickCn l to c) := by
  have hb := h.bo
  have hbn := h.bn
  have hst : tickSt l to c = c.status ∨ (c.status = 0 ∧ (tickSt l to c = 1 ∨ tickSt l to c = 2)) := by
    unfold tickSt
    split
    · rename_i hc
      right
      refine ⟨hc.1, ?_⟩
      split
      · exact .inl rfl
      · exact .inr rfl
    · exact .inl rfl
  have hq : c.status = 0 → Quiet c.up ∧ Quiet c.dn ∧ c.sent = 0 := fun e => h.s0 (by omega) (by omega)
  refine ⟨h.id, h.be, ?_, h.bo, by show c.born ≤ to; omega, h.rd, h.se, tick_dok h.up (by decide) hb.1, clear_dok (tick_dok h.dn (by decide) hb.1), fun e => ?_, ?_, fun e => ?_, fun e => ?_, fun e1 e3 => ?_⟩
  · have := h.st
    show 0 ≤ tickSt l to c ∧ tickSt l to c ≤ 3
    omega
  · have e : (clearD (tickD to c.dn)).d = 2 := e
    show (clearD (tickD to c.dn)).ar = []
    unfold clearD at e ⊢
    split
    · rfl
    · rename_i hne; rw [if_neg hne] at e; exact absurd e hne
  · show ((tickD to c.up).n : Int) ≤ c.sent
    rw [tick_n to c.up h.up.ord]; exact h.sn
  · have e : tickSt l to c = 1 := e
    show (tickD to c.up).e = 0 ∧ (tickD to c.up).d = 0
    rcases hst with g | ⟨g, _⟩
    · have := h.s1 (by omega)
      unfold tickD endD
      dsimp only
      rw [if_neg (fun hh => hh.2.1 this.1)]
      exact this
    · rw [tick_quiet (hq g).1]; exact ⟨rfl, rfl⟩
  · have e : tickSt l to c = 3 := e
    exact quiet_clear (quiet_tick (h.s3 (by omega)))
  · have e1 : tickSt l to c ≠ 1 := e1
    have e3 : tickSt l to c ≠ 3 := e3
    have : c.status ≠ 1 ∧ c.status ≠ 3 := by omega
    obtain ⟨a, b, d⟩ := h.s0 this.1 this.2
    exact ⟨quiet_tick a, quiet_clear (quiet_tick b), d⟩
theorem quiet_n {d : Dr} (h : Quiet d) : d.n = 0 := by unfold Dr.n; rw [h.1, h.2.1]; rfl
theorem cok_close {nx : Int} {np : Nat} {now : Int} {c : Cn} {p : Pl} (h : COk nx np now c) (h0 : 0 ≤ now) (hp : 0 ≤ p.delay) (hs : c.status ∈ [0, 1]) : COk nx np now (closeF now p c) := by
  have hbb := h.bo
  have hbn := h.bn
  have hzero : DOk (-1) c.born ⟨[], [], 0, 0, 0⟩ := ⟨rfl, fun e => absurd rfl e, fun _ => rfl, by decide, by decide, .inl rfl, fun p hp => (by cases hp), by decide, by decide, by decide, by decide⟩
  refine ⟨h.id, h.be, (by show (0 : Int) ≤ 3 ∧ (3 : Int) ≤ 3; decide), h.bo, h.bn, h.rd, h.se, ?_, hzero, fun _ => rfl, ?_, fun e => ?_, fun _ => ⟨rfl, rfl, rfl, rfl⟩, fun _ e => ?_⟩
  · show DOk 2 c.born (if c.status = 1 then { c.up with e := 1, t := c.up.last now p.delay } else c.up)
    split
    · rename_i s1
      have h1 := h.s1 s1
      have hl := last_in (d := c.up) h0 hp h.up.tms
      exact ⟨h.up.ord, fun _ => last_ge hbn hp hbb.2, fun e => absurd e (show ¬ (1 : Int) = 0 by decide), (show (1 : Int) ≠ 2 by decide), h.up.dd, .inl h1.2, h.up.tms, (show (0 : Int) ≤ 1 ∧ (1 : Int) ≤ 2 by decide), h.up.dr, hl, h.up.long⟩
    · exact h.up
  · show (((if c.status = 1 then { c.up with e := 1, t := c.up.last now p.delay } else c.up : Dr).n : Nat) : Int) ≤ c.sent
    split
    · exact h.sn
    · exact h.sn
  · exact absurd (show (3 : Int) = 1 from e) (by decide)
  · exact absurd (show (3 : Int) = 3 from rfl) e
theorem cok_read {nx : Int} {np : Nat} {now most : Int} {c : Cn} (h : COk nx np now c) (hs : c.status = 1) (h0 : (readF most c).1 = 0) : COk nx np now (readF most c).2.2 := by
  unfold readF at h0 ⊢
  by_cases h1 : most < 1
  · simp [h1] at h0
  · by_cases h2 : 0 < c.dn.ar.length
    · rw [if_neg h1, if_pos h2]
      refine ⟨h.id, h.be, h.st, h.bo, h.bn, h.rd, h.se, h.up, ⟨h.dn.ord, h.dn.tge, h.dn.tz, h.dn.ee, h.dn.dd, h.dn.fin, h.dn.tms, h.dn.er, h.dn.dr, h.dn.tr, ?_⟩, fun e => ?_, h.sn, h.s1, fun e => ?_, fun e _ => absurd hs e⟩
      · have := h.dn.long
        unfold Dr.n at this ⊢
        simp only [List.length_drop]; omega
      · have := h.rst e
        rw [this] at h2; simp at h2
      · have e : c.status = 3 := e
        omega
    · by_cases h3 : c.dn.d = 1
      · simp [h1, h2, h3] at h0
      · by_cases h4 : c.dn.d = 2 <;> simp [h1, h2, h3, h4] at h0
theorem cok_take {nx : Int} {np : Nat} {now : Int} {c : Cn} (h : COk nx np now c) (hs : c.status ∈ [1, 3]) : COk nx np now (takeF c) := by
  have hle : (takeF c).up.n ≤ c.up.n := by unfold takeF Dr.n; simp
  refine ⟨h.id, h.be, h.st, h.bo, h.bn, h.rd, h.se, ⟨h.up.ord, h.up.tge, h.up.tz, h.up.ee, h.up.dd, h.up.fin, h.up.tms, h.up.er, h.up.dr, h.up.tr, by have := h.up.long; omega⟩, h.dn, h.rst, ?_, h.s1, h.s3, fun e1 e3 => ?_⟩
  · have := h.sn
    show ((takeF c).up.n : Int) ≤ c.sent
    omega
  · have e1 : c.status ≠ 1 := e1
    have e3 : c.status ≠ 3 := e3
    simp only [List.mem_cons, List.not_mem_nil, or_false] at hs
    rcases hs with hs | hs
    · exact absurd hs e1
    · exact absurd hs e3
theorem cok_write {nx : Int} {np : Nat} {now : Int} {b : List Int} {c : Cn} {p : Pl} (h : COk nx np now c) (h0 : 0 ≤ now) (hp : 0 ≤ p.delay) (hw : 1 ≤ p.window) (hs : c.status = 1) (he : (writeF now b c p).1 = 0) : COk nx np now (writeF now b c p).2.2 := by
  have hbb := h.bo
  have hbn := h.bn
  have hse := h.se
  have hs1 := h.s1 hs
  have hr0 : 0 ≤ roomW c p := by unfold roomW; omega
  have hm0 : 0 ≤ manyW b c p := by unfold manyW; omega
  unfold writeF at he ⊢
  by_cases e1 : c.dn.d = 2
  · simp [e1] at he
  by_cases e2 : roomW c p = 0 ∧ 0 < b.length
  · rw [if_neg e1, if_pos e2] at he; exact absurd he (show ¬ (10 : Int) = 0 by decide)
  by_cases e3 : 1048576 < c.up.n + manyW b c p ∨ 1000000000000000 < c.sent + manyW b c p
  · rw [if_neg e1, if_neg e2, if_pos e3] at he; exact absurd he (show ¬ (3 : Int) = 0 by decide)
  rw [if_neg e1, if_neg e2, if_neg e3]
  by_cases b0 : 0 < b.length
  · rw [if_pos b0]
    have hmp : 0 < manyW b c p := by unfold manyW; omega
    have hmb : manyW b c p ≤ b.length := by unfold manyW; omega
    have hl := last_in (d := c.up) h0 hp h.up.tms
    have hlen : (b.take (manyW b c p).toNat).length = (manyW b c p).toNat := by rw [List.length_take]; omega
    have hn : ((upSend now b c p).n : Int) = c.up.n + manyW b c p := by
      unfold upSend Dr.n
      simp only [fly_app, fly, hlen]
      omega
    refine ⟨h.id, h.be, h.st, h.bo, h.bn, h.rd, by show 0 ≤ c.sent + manyW b c p ∧ c.sent + manyW b c p ≤ 1000000000000000; omega, ⟨ord_snoc h.up.ord (last_ge hbn hp hbb.2) (by show 0 < (b.take (manyW b c p).toNat).length; omega), fun e => absurd hs1.1 e, h.up.tz, h.up.ee, h.up.dd, .inl hs1.2, fun q hq => ?_, h.up.er, h.up.dr, h.up.tr, ?_⟩, h.dn, h.rst, ?_, h.s1, h.s3, fun e _ => absurd hs e⟩
    · rcases List.mem_append.1 hq with hq | hq
      · exact h.up.tms q hq
      · rw [List.mem_singleton.1 hq]; exact hl
    · show (upSend now b c p).n ≤ 1048576
      omega
    · have := h.sn
      show ((upSend now b c p).n : Int) ≤ c.sent + manyW b c p
      omega
  · rw [if_neg b0]
    have hmz : manyW b c p = 0 := by unfold manyW; omega
    rw [hmz, Int.add_zero]
    exact h
theorem cok_ans {nx : Int} {np : Nat} {now delay how : Int} {many : Nat} {G : Cn → Pl → Cn} {c : Cn} {p : Pl} (h : COk nx np now c) (he : (ansF delay how many G c p).1 = 0)
    (hG : 0 ≤ delay → how = 0 → c.dn.e = 0 → c.dn.d = 0 → c.dn.n + many ≤ 1048576 → c.status = 1 → COk nx np now (G c p)) : COk nx np now (ansF delay how many G c p).2 := by
  unfold ansF at he ⊢
  split
  · exact h
  · rename_i h1
    split
    · exact h
    · rename_i h2
      split
      · exact h
      · rename_i h3
        split
        · exact h
        · rename_i h4
          split
          · rename_i h5
            have h1 : inR delay 0 100000 = true := by simpa using h1
            exact hG (inR_iff.1 h1).1 (by simpa using h2) (by omega) (by omega) (by omega) h5
          · exact h
theorem cok_put {nx : Int} {np : Nat} {now delay : Int} {b : List Int} {c : Cn} {p : Pl} (h : COk nx np now c) (h0 : 0 ≤ now) (hp : 0 ≤ p.delay) (he : (putF now delay b c p).1 = 0) : COk nx np now (putF now delay b c p).2 := by
  have hbb := h.bo
  have hbn := h.bn
  refine cok_ans (many := b.length) h he fun hd _ e1 e2 hl hs => ?_
  have hy : 0 ≤ p.delay + delay := by omega
  have hli := last_in (d := c.dn) h0 hy h.dn.tms
  show COk nx np now { c with dn := if 0 < b.length then dnSend now (p.delay + delay) b c else c.dn }
  by_cases b0 : 0 < b.length
  · rw [if_pos b0]
    refine ⟨h.id, h.be, h.st, h.bo, h.bn, h.rd, h.se, h.up, ⟨ord_snoc h.dn.ord (last_ge hbn hy hbb.2) b0, fun e => absurd e1 e, h.dn.tz, h.dn.ee, h.dn.dd, .inl e2, fun q hq => ?_, h.dn.er, h.dn.dr, h.dn.tr, ?_⟩, fun e => ?_, h.sn, h.s1, fun e => ?_, fun e _ => absurd hs e⟩
    · rcases List.mem_append.1 hq with hq | hq
      · exact h.dn.tms q hq
      · rw [List.mem_singleton.1 hq]; exact hli
    · unfold Dr.n at hl ⊢
      unfold dnSend
      simp only [fly_app, fly]
      omega
    · have e : c.dn.d = 2 := e
      omega
    · have e : c.status = 3 := e
      omega
  · rw [if_neg b0]; exact h
theorem cok_fin {nx : Int} {np : Nat} {now delay how : Int} {c : Cn} {p : Pl} (h : COk nx np now c) (h0 : 0 ≤ now) (hp : 0 ≤ p.delay) (he : (finF now delay how c p).1 = 0) : COk nx np now (finF now delay how c p).2 := by
  have hbb := h.bo
  have hbn := h.bn
  refine cok_ans (many := 0) h he fun hd hh e1 e2 hl hs => ?_
  have hy : 0 ≤ p.delay + delay := by omega
  have hli := last_in (d := c.dn) h0 hy h.dn.tms
  have hhow : how = 1 ∨ how = 2 := by
    by_cases hx : how ≠ 1 ∧ how ≠ 2
    · rw [if_pos hx] at hh; exact absurd hh (by decide)
    · omega
  refine ⟨h.id, h.be, h.st, h.bo, h.bn, h.rd, h.se, h.up, ⟨h.dn.ord, fun _ => last_ge hbn hy hbb.2, fun e => ?_, ?_, h.dn.dd, .inl e2, h.dn.tms, ?_, h.dn.dr, hli, h.dn.long⟩, h.rst, h.sn, h.s1, fun e => ?_, fun e _ => absurd hs e⟩
  · have e : how = 0 := e
    omega
  · show how ≠ -1
    omega
  · show 0 ≤ how ∧ how ≤ 2
    omega
  · have e : c.status = 3 := e
    omega
end Go.Proofs.Ytgoklgibhmddoaa
namespace Go.Proofs.Ytgoklgibhmddoaa

structure Ac where
  what : Int
  conn : Int
  n : Int
  b : List Int
  p : Pl
instance : Inhabited Ac := ⟨⟨0, 0, 0, [], default⟩⟩
def toOf (s : Nw) (x : Ac) : Int := if 0 ≤ x.n then s.now + x.n % 20 else x.n
def doS (s : Nw) (x : Ac) : Nw :=
  if x.what % 14 = 0 ∨ x.what % 14 = 1 then (dialS s x.n).1 else if x.what % 14 = 2 ∨ x.what % 14 = 3 then (tickS s (toOf s x)).1
  else if x.what % 14 = 4 ∨ x.what % 14 = 5 then (writeS s x.conn x.b).1 else if x.what % 14 = 6 then (readS s x.conn x.n).1
  else if x.what % 14 = 7 then (closeS s x.conn).1 else if x.what % 14 = 8 then (takeS s x.conn).1
  else if x.what % 14 = 9 ∨ x.what % 14 = 10 then (putS s x.conn x.b x.n).1 else if x.what % 14 = 11 then (finS s x.conn (x.n.tmod 4) (IntKind.i64.wrap (x.n.tdiv 4))).1
  else if x.what % 14 = 12 then (planS s x.n x.p).1 else s
theorem asc_snoc : ∀ {l : List Int} {b n : Int}, asc b l → b < n → (∀ x ∈ l, x < n) → asc b (l ++ [n])
  | [], b, n, _, h, _ => ⟨h, trivial⟩
  | x :: l, b, n, h, _, hl => ⟨h.1, asc_snoc h.2 (hl x (by simp)) fun y hy => hl y (by simp [hy])⟩
theorem COk.next {nx : Int} {np : Nat} {now : Int} {c : Cn} (h : COk nx np now c) : COk (nx + 1) np now c :=
  ⟨⟨h.id.1, by have := h.id.2; omega⟩, h.be, h.st, h.bo, h.bn, h.rd, h.se, h.up, h.dn, h.rst, h.sn, h.s1, h.s3, h.s0⟩
theorem nok_change {s : Nw} (h : NOk s) {n : Int} {st : List Int} {F : Cn → Pl → Int × Cn}
    (hF : ∀ c p, p ∈ s.plans → COk s.next s.plans.length s.now c → c.status ∈ st → (F c p).1 = 0 → COk s.next s.plans.length s.now (F c p).2 ∧ (F c p).2.id = c.id) : NOk (changeS s n st F).1 := by
  unfold changeS
  split
  · exact h
  · rename_i h1
    split
    · exact h
    · rename_i h2
      split
      · exact h
      · rename_i h3
        have h1 : (findE s n).2 = 0 := by simpa using h1
        obtain ⟨hc, hi0, hil⟩ := find_ok h1
        have hlt : (findE s n).1.toNat < s.conns.length := by omega
        have hcm : s.conns[(findE s n).1.toNat]? = some s.conns[(findE s n).1.toNat] := List.getElem?_eq_getElem hlt
        generalize hcc : s.conns[(findE s n).1.toNat] = c at hcm
        have hg : s.conns.getD (findE s n).1.toNat default = c := by rw [List.getD_eq_getElem?_getD, hcm]; rfl
        rw [hg] at h2 h3 ⊢
        have hok := h.cs c (List.mem_of_getElem? hcm)
        have hbe := hok.be
        have hblt : c.backend.toNat < s.plans.length := by omega
        have hpm : s.plans[c.backend.toNat]? = some s.plans[c.backend.toNat] := List.getElem?_eq_getElem hblt
        have hpg : s.plans.getD c.backend.toNat default = s.plans[c.backend.toNat] := by rw [List.getD_eq_getElem?_getD, hpm]; rfl
        rw [hpg] at h3 ⊢
        have h3 : (F c s.plans[c.backend.toNat]).1 = 0 := by simpa using h3
        obtain ⟨g1, g2⟩ := hF c _ (List.getElem_mem hblt) hok (by simpa using h2) h3
        exact h.set hcm g2 g1
theorem plOk_iff {p : Pl} : plOk p = true ↔ (0 ≤ p.fail ∧ p.fail ≤ 2) ∧ (0 ≤ p.delay ∧ p.delay ≤ 100000) ∧ 1 ≤ p.window ∧ p.window ≤ 65536 := by
  unfold plOk
  simp only [Bool.and_eq_true, inR_iff]
theorem nok_close {s : Nw} (h : NOk s) (n : Int) : NOk (closeS s n).1 :=
  nok_change h fun c p hp hc hs _ => ⟨cok_close hc h.now.1 (plOk_iff.1 (h.po p hp)).2.1.1 hs, rfl⟩
theorem nok_read {s : Nw} (h : NOk s) (n most : Int) : NOk (readS s n most).1 := by
  unfold readS
  refine nok_change h fun c p _ hc hs he => ⟨cok_read hc (List.mem_singleton.1 hs) he, ?_⟩
  show (readF most c).2.2.id = c.id
  unfold readF
  split
  · rfl
  · split
    · rfl
    · split
      · rfl
      · split <;> rfl
theorem nok_take {s : Nw} (h : NOk s) (n : Int) : NOk (takeS s n).1 := by
  unfold takeS
  exact nok_change h fun c p _ hc hs he => ⟨cok_take hc hs, rfl⟩
theorem nok_write {s : Nw} (h : NOk s) (n : Int) (b : List Int) : NOk (writeS s n b).1 := by
  unfold writeS
  refine nok_change h fun c p hp hc hs he => ⟨cok_write hc h.now.1 (plOk_iff.1 (h.po p hp)).2.1.1 (plOk_iff.1 (h.po p hp)).2.2.1 (List.mem_singleton.1 hs) he, ?_⟩
  show (writeF s.now b c p).2.2.id = c.id
  unfold writeF
  split
  · rfl
  · split
    · rfl
    · split <;> rfl
theorem ansF_id {delay how many : Int} {G : Cn → Pl → Cn} {c : Cn} {p : Pl} (hG : (G c p).id = c.id) : (ansF delay how many G c p).2.id = c.id := by
  unfold ansF
  split
  · rfl
  · split
    · rfl
    · split
      · rfl
      · split
        · rfl
        · split
          · exact hG
          · rfl
theorem nok_put {s : Nw} (h : NOk s) (n : Int) (b : List Int) (delay : Int) : NOk (putS s n b delay).1 :=
  nok_change h fun c p hp hc _ he => ⟨cok_put hc h.now.1 (plOk_iff.1 (h.po p hp)).2.1.1 he, ansF_id rfl⟩
theorem nok_fin {s : Nw} (h : NOk s) (n how delay : Int) : NOk (finS s n how delay).1 :=
  nok_change h fun c p hp hc _ he => ⟨cok_fin hc h.now.1 (plOk_iff.1 (h.po p hp)).2.1.1 he, ansF_id rfl⟩
theorem nok_plan {s : Nw} (h : NOk s) (b : Int) (p : Pl) : NOk (planS s b p).1 := by
  unfold planS
  split
  · exact h
  · split
    · rename_i hp
      refine ⟨by simpa using h.pl, h.cl, fun q hq => ?_, h.now, h.nx, fun c hc => ?_, h.ids⟩
      · rcases List.mem_or_eq_of_mem_set hq with hq | rfl
        · exact h.po q hq
        · exact hp
      · have := h.cs c hc
        simpa using this
    · exact h
theorem nok_tick {s : Nw} (h : NOk s) (to : Int) : NOk (tickS s to).1 := by
  unfold tickS
  split
  · exact h
  · split
    · rename_i ht
      have ht := inR_iff.1 ht
      have hn := h.now
      refine ⟨h.pl, by simpa using h.cl, h.po, ⟨by show 0 ≤ to; omega, ht.2⟩, h.nx, fun c hc => ?_, ?_⟩
      · obtain ⟨d, hd, rfl⟩ := List.mem_map.1 hc
        exact cok_tick (h.cs d hd) s.plans ht.1
      · show asc 0 ((s.conns.map (tickCn s.plans to)).map Cn.id)
        rw [List.map_map]
        exact h.ids
    · exact h
theorem nok_dial {s : Nw} (h : NOk s) (b : Int) : NOk (dialS s b).1 := by
  unfold dialS
  split
  · exact h
  · rename_i hk
    have hk : knownE s b = 0 := by simpa using hk
    split
    · exact h
    · rename_i hf
      obtain ⟨_, hb0, hbl⟩ := known_ok hk
      have hblt : b.toNat < s.plans.length := by omega
      have hpm : s.plans[b.toNat]? = some s.plans[b.toNat] := List.getElem?_eq_getElem hblt
      have hpg : s.plans.getD b.toNat default = s.plans[b.toNat] := by rw [List.getD_eq_getElem?_getD, hpm]; rfl
      have hpo := plOk_iff.1 (h.po _ (List.getElem_mem hblt))
      rw [hpg]
      generalize s.plans[b.toNat] = p at hpo
      have hcl := h.cl
      have hnx := h.nx
      have hnow := h.now
      have hz : Quiet ⟨[], [], 0, 0, 0⟩ := ⟨rfl, rfl, rfl, rfl⟩
      have hd : ∀ ne : Int, ne ≠ 0 → DOk ne s.now ⟨[], [], 0, 0, 0⟩ := fun ne hne => ⟨rfl, fun e => absurd rfl e, fun _ => rfl, fun e => hne e.symm, fun e => hne e.symm, .inl rfl, (fun p hp => nomatch hp), (show (0 : Int) ≤ 0 ∧ (0 : Int) ≤ 2 by decide), (show (0 : Int) ≤ 0 ∧ (0 : Int) ≤ 2 by decide), (show (0 : Int) ≤ 0 ∧ (0 : Int) ≤ 1000000000000 by decide), (show 0 ≤ 1048576 by decide)⟩
      have hnew : COk (s.next + 1) s.plans.length s.now (newC s b p) := by
        refine ⟨⟨hnx.1, by show s.next ≤ s.next + 1 - 1; omega⟩, ⟨hb0, by show b ≤ s.plans.length - 1; omega⟩, (show (0 : Int) ≤ 0 ∧ (0 : Int) ≤ 3 by decide), hnow, Int.le_refl _, ?_, (show (0 : Int) ≤ 0 ∧ (0 : Int) ≤ 1000000000000000 by decide), hd 2 (by decide), hd (-1) (by decide), fun _ => rfl, (show ((0 : Nat) : Int) ≤ 0 by decide), fun e => absurd (show (0 : Int) = 1 from e) (by decide), fun e => absurd (show (0 : Int) = 3 from e) (by decide), fun _ _ => ⟨hz, hz, rfl⟩⟩
        show 0 ≤ (if p.fail = 2 then 1000000000001 else min (s.now + p.delay) 1000000000000) ∧ (if p.fail = 2 then 1000000000001 else min (s.now + p.delay) 1000000000000) ≤ never
        unfold never
        split <;> omega
      refine ⟨h.pl, by simp; omega, h.po, h.now, by show 1 ≤ s.next + 1 ∧ s.next + 1 ≤ 1000000000000000; omega, fun c hc => ?_, ?_⟩
      · rcases List.mem_append.1 hc with hc | hc
        · exact (h.cs c hc).next
        · rw [List.mem_singleton.1 hc]; exact hnew
      · show asc 0 ((s.conns ++ [newC s b p]).map Cn.id)
        rw [List.map_append]
        refine asc_snoc h.ids (by show 0 < s.next; omega) fun y hy => ?_
        obtain ⟨d, hd, rfl⟩ := List.mem_map.1 hy
        have := (h.cs d hd).id
        show d.id < s.next
        omega
theorem nok_do {s : Nw} (h : NOk s) (x : Ac) : NOk (doS s x) := by
  unfold doS
  split
  · exact nok_dial h _
  split
  · exact nok_tick h _
  split
  · exact nok_write h _ _
  split
  · exact nok_read h _ _
  split
  · exact nok_close h _
  split
  · exact nok_take h _
  split
  · exact nok_put h _ _ _
  split
  · exact nok_fin h _ _ _
  split
  · exact nok_plan h _ _
  · exact h
theorem nok_new {l : List Pl} (h : (newS l).2 = 0) : NOk (newS l).1 := by
  unfold newS at h ⊢
  split at h
  · exact absurd h (by decide)
  · rename_i h1
    split at h
    · rename_i h2
      rw [if_neg h1, if_pos h2]
      exact ⟨by show l.length ≤ 16; omega, by show 0 ≤ 500; decide, List.all_eq_true.1 h2, (show (0 : Int) ≤ 0 ∧ (0 : Int) ≤ 1000000000000 by decide), (show (1 : Int) ≤ 1 ∧ (1 : Int) ≤ 1000000000000000 by decide), (fun c hc => nomatch hc), trivial⟩
    · exact absurd h (by decide)
end Go.Proofs.Ytgoklgibhmddoaa
