/- Contracts: network 5. No condition. -/
import Derived.Test.YtgoklgibhmddoaaN4
namespace Go.Proofs.Ytgoklgibhmddoaa
open Go.RowKit
set_option maxRecDepth 100000

def arr (now : Int) : List Pc → List Int → List Pc × List Int
  | [], a => ([], a)
  | p :: r, a => if p.time ≤ now then arr now r (a ++ p.bytes) else (p :: r, a)
def endD (now : Int) (d : Dr) : Dr := if d.ps = [] ∧ d.e ≠ 0 ∧ d.t ≤ now then ⟨[], d.ar, 0, d.e, 0⟩ else d
def tickD (now : Int) (d : Dr) : Dr := endD now ⟨(arr now d.ps d.ar).1, (arr now d.ps d.ar).2, d.e, d.d, d.t⟩
/-- Between the rounds of a direction's tick: the direction, and whether something has arrived. -/
structure TS where
  d : Dr
  b : Bool
theorem tickD_piece {now : Int} {p : Pc} {r : List Pc} {a : List Int} {e d t : Int} (h : p.time ≤ now) : tickD now ⟨p :: r, a, e, d, t⟩ = tickD now ⟨r, a ++ p.bytes, e, d, t⟩ := by
  unfold tickD
  simp only [arr, if_pos h]
theorem tickD_end {now : Int} {a : List Int} {e d t : Int} (he : e ≠ 0) (h : t ≤ now) : tickD now ⟨[], a, e, d, t⟩ = tickD now ⟨[], a, 0, e, 0⟩ := by
  simp [tickD, endD, arr, he, h]
theorem tickD_rest {now : Int} {d : Dr} (h : ¬ d.due ≤ now) : tickD now d = d := by
  obtain ⟨ps, a, e, d, t⟩ := d
  cases ps with
  | cons p r =>
    have h : ¬ p.time ≤ now := h
    simp [tickD, endD, arr, h]
  | nil =>
    by_cases he : e = 0
    · simp [tickD, endD, arr, he]
    · have h : ¬ t ≤ now := by simpa [Dr.due, he] using h
      simp [tickD, endD, arr, h]
@[simp] def foT (XS : List (List D)) (PR : Nat → Bool) (j : Nat) (c : Cn) (k1 n1 k2 n2 : Nat) : MObj := .nest 67 16 XS PR [(8, 5), (9, 5)] (some (j, cnC c (.d (pcs c.up.ps)) (.d (pcs c.dn.ps)) (.rw k1 n1) (.rw k2 n2)))
theorem waysT_m (XS : List (List D)) (PR : Nat → Bool) (j : Nat) (c : Cn) : Meets Try.prog 31 [.rp 1000000 16 j 0] [foT XS PR j c 1000001 c.up.ar.length 1000002 c.dn.ar.length, rowB c.up.ar, rowB c.dn.ar] (fun r => r = ⟨waysR j, [foT XS PR j c 1000001 c.up.ar.length 1000002 c.dn.ar.length, rowB c.up.ar, rowB c.dn.ar], []⟩) := by
  refine meetsH [] tbOk mixed Try.func31 pl31 rfl rfl ?_
  simp [Try.ntmps31]
  refine ⟨by kernel_rfl, ?_⟩
  refine vcRet_of [] ?_ rfl
  simp
theorem dueTU_m (XS : List (List D)) (PR : Nat → Bool) (j : Nat) (c : Cn) : Meets Try.prog 75 [upR j] [foT XS PR j c 1000001 c.up.ar.length 1000002 c.dn.ar.length, rowB c.up.ar, rowB c.dn.ar] (fun r => r = ⟨.i c.up.due, [foT XS PR j c 1000001 c.up.ar.length 1000002 c.dn.ar.length, rowB c.up.ar, rowB c.dn.ar], []⟩) := by
  refine meetsH [] tbOk mixed Try.func75 pl75 rfl rfl ?_
  cases hps : c.up.ps with
  | cons p r =>
    simp [Try.ntmps75, hps]
    exact vcRet_of [] (by simp [Dr.due, hps]) rfl
  | nil =>
    by_cases he : c.up.e = 0
    · simp [Try.ntmps75, hps, he]
      exact vcRet_of [] (by simp [Dr.due, hps, he, never]) rfl
    · simp [Try.ntmps75, hps, he]
      exact vcRet_of [] (by simp [Dr.due, hps, he]) rfl
set_option maxHeartbeats 2000000 in
theorem tickU_m (XS : List (List D)) (PR : Nat → Bool) (j : Nat) (c : Cn) (hc : c.up.Fits) (now : Int) (hn : now ≤ 1000000000000) : Meets Try.prog 37 [upR j, .i now] [foT XS PR j c 1000001 c.up.ar.length 1000002 c.dn.ar.length, rowB c.up.ar, rowB c.dn.ar]
    (fun r => r = ⟨.b (decide (c.up.due ≤ now)), [foT XS PR j { c with up := tickD now c.up } 1000001 (tickD now c.up).ar.length 1000002 c.dn.ar.length, .grown 5 1 ((tickD now c.up).ar.map u8s), rowB c.dn.ar], []⟩) := by
  refine meetsH [] tbOk mixed Try.func37 pl37 rfl rfl ?_
  simp [Try.ntmps37]
  refine vc_loop (fun m σ => ∃ q : TS, m = 2 * q.d.ps.length + (if q.d.e = 0 then 0 else 1) ∧ tickD now q.d = tickD now c.up ∧ q.d.n = c.up.n ∧ q.d.ps.length ≤ c.up.ps.length ∧ (q.b || decide (q.d.due ≤ now)) = decide (c.up.due ≤ now) ∧
    σ = ⟨49, [(5, .b q.b), (1, .i now), (2, .ptr 2 0)], [(2, .box 87 (agCells (upR j))), (1000000, foT XS PR j { c with up := q.d } 1000001 q.d.ar.length 1000002 c.dn.ar.length), (1000001, rowB q.d.ar), (1000002, rowB c.dn.ar), (4000001, .row 0 1 [] false)]⟩) ?_ ?_
  · exact ⟨_, _, ⟨⟨c.up, false⟩, rfl, rfl, rfl, Nat.le_refl _, by simp, rfl⟩, [.mark 1000001], _, rfl, by simp⟩
  rintro m σ ⟨⟨⟨ps, ar, e, d, t⟩, b⟩, rfl, ht, hdn, hdl, hb, rfl⟩
  simp
  refine (dueTU_m XS PR j { c with up := ⟨ps, ar, e, d, t⟩ }).mono ?_
  rintro _ rfl
  by_cases hdue : (⟨ps, ar, e, d, t⟩ : Dr).due ≤ now
  case neg =>
    simp [hdue]
    refine vcRet_of [] ?_ rfl
    rw [tickD_rest hdue] at ht
    rw [← ht, ← hb]
    simp [hdue]
  have hcd : decide (c.up.due ≤ now) = true := by rw [← hb]; simp [hdue]
  have hdn' : fly ps + ar.length = c.up.n := hdn
  have hcn : c.up.n < 4294967296 := hc.1
  have hcl : c.up.ps.length < 4294967296 := hc.2
  cases ps with
  | cons p r =>
    have hp : p.time ≤ now := hdue
    have hfl : p.bytes.length + fly r + ar.length = c.up.n := hdn'
    have hl4 : ar.length + p.bytes.length < 4294967296 := by omega
    have hr4 : r.length + 1 ≤ c.up.ps.length := hdl
    have hr5 : r.length + 1 < 4294967296 := by omega
    simp [hdue]
    refine ⟨by omega, by kernel_rfl, by omega, by kernel_rfl, ?_⟩
    refine ⟨_, ?_, _, ⟨⟨⟨r, ar ++ p.bytes, e, d, t⟩, true⟩, rfl, ?_, ?_, ?_, by simp [hcd], rfl⟩, [], _, rfl, by simp [List.take_of_length_le]⟩
    · simp only []; omega
    · rw [← ht, tickD_piece hp]
    · show fly r + (ar ++ p.bytes).length = _
      rw [List.length_append]; omega
    · show r.length ≤ _
      omega
  | nil =>
    have he : e ≠ 0 := fun he => by
      have : (1000000000001 : Int) ≤ now := by simpa [Dr.due, he, never] using hdue
      omega
    have hp : t ≤ now := by simpa [Dr.due, he] using hdue
    simp [hdue]
    refine ⟨by kernel_rfl, ?_⟩
    refine ⟨_, ?_, _, ⟨⟨⟨[], ar, 0, e, 0⟩, true⟩, rfl, ?_, hdn, hdl, by simp [hcd], rfl⟩, [], _, rfl, by simp⟩
    · simp [he]
    · rw [← ht, tickD_end he hp]
theorem dueTD_m (XS : List (List D)) (PR : Nat → Bool) (j : Nat) (c : Cn) : Meets Try.prog 75 [dnR j] [foT XS PR j c 1000001 c.up.ar.length 1000002 c.dn.ar.length, rowB c.up.ar, rowB c.dn.ar] (fun r => r = ⟨.i c.dn.due, [foT XS PR j c 1000001 c.up.ar.length 1000002 c.dn.ar.length, rowB c.up.ar, rowB c.dn.ar], []⟩) := by
  refine meetsH [] tbOk mixed Try.func75 pl75 rfl rfl ?_
  cases hps : c.dn.ps with
  | cons p r =>
    simp [Try.ntmps75, hps]
    exact vcRet_of [] (by simp [Dr.due, hps]) rfl
  | nil =>
    by_cases he : c.dn.e = 0
    · simp [Try.ntmps75, hps, he]
      exact vcRet_of [] (by simp [Dr.due, hps, he, never]) rfl
    · simp [Try.ntmps75, hps, he]
      exact vcRet_of [] (by simp [Dr.due, hps, he]) rfl
set_option maxHeartbeats 2000000 in
theorem tickD_m (XS : List (List D)) (PR : Nat → Bool) (j : Nat) (c : Cn) (hc : c.dn.Fits) (now : Int) (hn : now ≤ 1000000000000) : Meets Try.prog 37 [dnR j, .i now] [foT XS PR j c 1000001 c.up.ar.length 1000002 c.dn.ar.length, rowB c.up.ar, rowB c.dn.ar]
    (fun r => r = ⟨.b (decide (c.dn.due ≤ now)), [foT XS PR j { c with dn := tickD now c.dn } 1000001 c.up.ar.length 1000002 (tickD now c.dn).ar.length, rowB c.up.ar, .grown 5 1 ((tickD now c.dn).ar.map u8s)], []⟩) := by
  refine meetsH [] tbOk mixed Try.func37 pl37 rfl rfl ?_
  simp [Try.ntmps37]
  refine vc_loop (fun m σ => ∃ q : TS, m = 2 * q.d.ps.length + (if q.d.e = 0 then 0 else 1) ∧ tickD now q.d = tickD now c.dn ∧ q.d.n = c.dn.n ∧ q.d.ps.length ≤ c.dn.ps.length ∧ (q.b || decide (q.d.due ≤ now)) = decide (c.dn.due ≤ now) ∧
    σ = ⟨49, [(5, .b q.b), (1, .i now), (2, .ptr 2 0)], [(2, .box 87 (agCells (dnR j))), (1000000, foT XS PR j { c with dn := q.d } 1000001 c.up.ar.length 1000002 q.d.ar.length), (1000001, rowB c.up.ar), (1000002, rowB q.d.ar), (4000002, .row 0 1 [] false)]⟩) ?_ ?_
  · exact ⟨_, _, ⟨⟨c.dn, false⟩, rfl, rfl, rfl, Nat.le_refl _, by simp, rfl⟩, [.mark 1000002], _, rfl, by simp⟩
  rintro m σ ⟨⟨⟨ps, ar, e, d, t⟩, b⟩, rfl, ht, hdn, hdl, hb, rfl⟩
  simp
  refine (dueTD_m XS PR j { c with dn := ⟨ps, ar, e, d, t⟩ }).mono ?_
  rintro _ rfl
  by_cases hdue : (⟨ps, ar, e, d, t⟩ : Dr).due ≤ now
  case neg =>
    simp [hdue]
    refine vcRet_of [] ?_ rfl
    rw [tickD_rest hdue] at ht
    rw [← ht, ← hb]
    simp [hdue]
  have hcd : decide (c.dn.due ≤ now) = true := by rw [← hb]; simp [hdue]
  have hdn' : fly ps + ar.length = c.dn.n := hdn
  have hcn : c.dn.n < 4294967296 := hc.1
  have hcl : c.dn.ps.length < 4294967296 := hc.2
  cases ps with
  | cons p r =>
    have hp : p.time ≤ now := hdue
    have hfl : p.bytes.length + fly r + ar.length = c.dn.n := hdn'
    have hl4 : ar.length + p.bytes.length < 4294967296 := by omega
    have hr4 : r.length + 1 ≤ c.dn.ps.length := hdl
    have hr5 : r.length + 1 < 4294967296 := by omega
    simp [hdue]
    refine ⟨by omega, by kernel_rfl, by omega, by kernel_rfl, ?_⟩
    refine ⟨_, ?_, _, ⟨⟨⟨r, ar ++ p.bytes, e, d, t⟩, true⟩, rfl, ?_, ?_, ?_, by simp [hcd], rfl⟩, [], _, rfl, by simp [List.take_of_length_le]⟩
    · simp only []; omega
    · rw [← ht, tickD_piece hp]
    · show fly r + (ar ++ p.bytes).length = _
      rw [List.length_append]; omega
    · show r.length ≤ _
      omega
  | nil =>
    have he : e ≠ 0 := fun he => by
      have : (1000000000001 : Int) ≤ now := by simpa [Dr.due, he, never] using hdue
      omega
    have hp : t ≤ now := by simpa [Dr.due, he] using hdue
    simp [hdue]
    refine ⟨by kernel_rfl, ?_⟩
    refine ⟨_, ?_, _, ⟨⟨⟨[], ar, 0, e, 0⟩, true⟩, rfl, ?_, hdn, hdl, by simp [hcd], rfl⟩, [], _, rfl, by simp⟩
    · simp [he]
    · rw [← ht, tickD_end he hp]
end Go.Proofs.Ytgoklgibhmddoaa
namespace Go.Proofs.Ytgoklgibhmddoaa
open Go.RowKit
set_option maxRecDepth 100000

def clearD (d : Dr) : Dr := if d.d = 2 then { d with ar := [] } else d
def planOf (l : List Pl) (c : Cn) : Pl := l.getD c.backend.toNat default
def tickSt (l : List Pl) (to : Int) (c : Cn) : Int := if c.status = 0 ∧ c.ready ≤ to then (if (planOf l c).fail = 0 then 1 else 2) else c.status
def tickCn (l : List Pl) (to : Int) (c : Cn) : Cn := ⟨c.id, c.backend, tickSt l to c, c.born, c.ready, c.sent, tickD to c.up, clearD (tickD to c.dn)⟩
def evsOf (l : List Pl) (to : Int) (c : Cn) : List (Int × Int) :=
  (if c.status = 0 ∧ c.ready ≤ to then [(if (planOf l c).fail = 0 then 1 else 2, c.id)] else []) ++ (if c.up.due ≤ to then [(3, c.id)] else []) ++ (if c.dn.due ≤ to then [(4, c.id)] else [])
def tickS (s : Nw) (to : Int) : Nw × List (Int × Int) × Int :=
  if chk s ≠ 0 then (s, [], chk s) else if inR to s.now 1000000000000 then (⟨to, s.next, s.plans, s.conns.map (tickCn s.plans to)⟩, s.conns.flatMap (evsOf s.plans to), 0) else (s, [], 7)
@[simp] def evr (l : List (Int × Int)) : List (List D) := l.map fun x => [.v (.int .i64 x.1), .v (.int .i64 x.2)]
/-- The connections, of which some were ticked. -/
def mid (l : List Pl) (to : Int) (cs : List Cn) (k : Nat) : List Cn := (cs.take k).map (tickCn l to) ++ cs.drop k
theorem mid_len (l : List Pl) (to : Int) (cs : List Cn) (k : Nat) : (mid l to cs k).length = cs.length := by simp [mid]; omega
theorem mid_at {l : List Pl} {to : Int} {cs : List Cn} {k : Nat} {c : Cn} (h : cs[k]? = some c) : (mid l to cs k)[k]? = some c := by
  have hk := (List.getElem?_eq_some_iff.1 h).1
  unfold mid
  rw [List.getElem?_append_right (by simp; omega)]
  simp [Nat.min_eq_left (Nat.le_of_lt hk), h]
theorem mid_set {l : List Pl} {to : Int} {cs : List Cn} {k : Nat} {c : Cn} (h : cs[k]? = some c) : (mid l to cs k).set k (tickCn l to c) = mid l to cs (k + 1) := by
  have hk := (List.getElem?_eq_some_iff.1 h).1
  unfold mid
  have hd : cs.drop k = c :: cs.drop (k + 1) := by rw [← (List.getElem?_eq_some_iff.1 h).2]; exact List.drop_eq_getElem_cons hk
  rw [hd, List.set_append_right _ _ (by simp; omega), List.take_add_one, h]
  simp [Nat.min_eq_left (Nat.le_of_lt hk)]
theorem tick_ds (l : List Pl) (to : Int) (c : Cn) : (tickCn l to c).ds = [.v (.int .i64 c.id), .v (.int .i64 c.backend), .v (.int .i64 (tickSt l to c)), .v (.int .i64 c.born), .v (.int .i64 c.ready), .v (.int .i64 c.sent),
    .sl 2 ((tickD to c.up).ps.map Pc.ds), .sl 2 ((clearD (tickD to c.dn)).ps.map Pc.ds), .sl 1 ((tickD to c.up).ar.map u8s), .sl 1 ((clearD (tickD to c.dn)).ar.map u8s), .v (.int .i64 (tickD to c.up).e), .v (.int .i64 (clearD (tickD to c.dn)).e), .v (.int .i64 (tickD to c.up).t), .v (.int .i64 (clearD (tickD to c.dn)).t), .v (.int .i64 (tickD to c.up).d), .v (.int .i64 (clearD (tickD to c.dn)).d)] := rfl
def evUp (l : List Pl) (to : Int) (cs : List Cn) (k : Nat) : List (Int × Int) := (cs.take k).flatMap (evsOf l to)
theorem mid_all (l : List Pl) (to : Int) (cs : List Cn) : mid l to cs cs.length = cs.map (tickCn l to) := by simp [mid]
theorem flat_succ {l : List Pl} {to : Int} {cs : List Cn} {k : Nat} {c : Cn} (h : cs[k]? = some c) : evUp l to cs (k + 1) = evUp l to cs k ++ evsOf l to c := by
  unfold evUp
  rw [List.take_add_one, h]
  simp
theorem evs_len (l : List Pl) (to : Int) (c : Cn) : (evsOf l to c).length ≤ 3 := by
  have h1 : ∀ (p : Prop) [Decidable p] (x : Int × Int), (if p then [x] else []).length ≤ 1 := fun p _ x => by split <;> simp
  unfold evsOf
  simp only [List.length_append]
  have := h1 (c.status = 0 ∧ c.ready ≤ to) (if (planOf l c).fail = 0 then 1 else 2, c.id)
  have := h1 (c.up.due ≤ to) (3, c.id)
  have := h1 (c.dn.due ≤ to) (4, c.id)
  omega
theorem evflat_len (l : List Pl) (to : Int) : ∀ cs : List Cn, (cs.flatMap (evsOf l to)).length ≤ 3 * cs.length
  | [] => by simp
  | c :: r => by
    have h1 := evs_len l to c
    have h2 := evflat_len l to r
    simp only [List.flatMap_cons, List.length_append, List.length_cons]
    omega
theorem from_succ (k n : Nat) : (fun a : Nat => (decide (k ≤ a) && decide (a < n)) && !decide (a = k)) = fun a => decide (k + 1 ≤ a) && decide (a < n) := by
  funext a
  by_cases h : a = k
  · subst h; simp [show ¬ a + 1 ≤ a by omega]
  · by_cases h2 : k ≤ a
    · simp [h, h2, show k + 1 ≤ a by omega]
    · simp [h2, show ¬ k + 1 ≤ a by omega]
@[simp] def fromB (k n : Nat) : Nat → Bool := fun a => decide (k ≤ a) && decide (a < n)
@[simp] def nestK (XS : List (List D)) (PR : Nat → Bool) : MObj := .nest 67 16 XS PR [(8, 5), (9, 5)] none
/-- Between the directions of a connection. -/
inductive TickI (XS : List (List D)) (PR : Nat → Bool) (s : Nw) (to : Int) (k : Nat) (c : Cn) (E : List (Int × Int)) : Nat → Sta → Prop
  | a : TickI XS PR s to k c E 9 ⟨108, [(80, .i 0), (79, .agg [.rp 10027 16 k 6, .rp 10027 16 k 8, .rp 10027 16 k 10, .rp 10027 16 k 14, .rp 10027 16 k 12, .i 3, .i 2, .rp 10027 16 k 7, .rp 10027 16 k 9, .rp 10027 16 k 11, .rp 10027 16 k 15, .rp 10027 16 k 13, .i 4, .i (-1)]), (8, .rw 8 (E).length), (10, .rp 10027 16 k 0), (33, .i k), (32, .i s.conns.length), (1, .i to), (2, .ptr 2 0), (4, .ptr 4 0)],
      [(10027, foT XS PR k c 800001 (c).up.ar.length 800002 (c).dn.ar.length), (800001, rowB (c).up.ar), (800002, rowB (c).dn.ar), (8, .row 46 2 (evr (E)) false), (2, .box 25 [.i to, .i s.next, .rw 27 s.plans.length, .rw 10027 s.conns.length]), (27, .row 54 3 (s.plans.map Pl.ds) false), (4, .box 25 [.i 0, .i 0, nilv, nilv])]⟩
  | b : TickI XS PR s to k c E 8 ⟨108, [(80, .i 1), (79, .agg [.rp 10027 16 k 6, .rp 10027 16 k 8, .rp 10027 16 k 10, .rp 10027 16 k 14, .rp 10027 16 k 12, .i 3, .i 2, .rp 10027 16 k 7, .rp 10027 16 k 9, .rp 10027 16 k 11, .rp 10027 16 k 15, .rp 10027 16 k 13, .i 4, .i (-1)]), (8, .rw 8 (E ++ (if c.up.due ≤ to then [(3, c.id)] else [])).length), (10, .rp 10027 16 k 0), (33, .i k), (32, .i s.conns.length), (1, .i to), (2, .ptr 2 0), (4, .ptr 4 0)],
      [(10027, foT XS PR k { c with up := tickD to c.up } 800001 ({ c with up := tickD to c.up }).up.ar.length 800002 ({ c with up := tickD to c.up }).dn.ar.length), (800001, rowB ({ c with up := tickD to c.up }).up.ar), (800002, rowB ({ c with up := tickD to c.up }).dn.ar), (8, .row 46 2 (evr (E ++ (if c.up.due ≤ to then [(3, c.id)] else []))) false), (2, .box 25 [.i to, .i s.next, .rw 27 s.plans.length, .rw 10027 s.conns.length]), (27, .row 54 3 (s.plans.map Pl.ds) false), (4, .box 25 [.i 0, .i 0, nilv, nilv])]⟩
  | d : TickI XS PR s to k c E 7 ⟨108, [(80, .i 2), (79, .agg [.rp 10027 16 k 6, .rp 10027 16 k 8, .rp 10027 16 k 10, .rp 10027 16 k 14, .rp 10027 16 k 12, .i 3, .i 2, .rp 10027 16 k 7, .rp 10027 16 k 9, .rp 10027 16 k 11, .rp 10027 16 k 15, .rp 10027 16 k 13, .i 4, .i (-1)]), (8, .rw 8 (E ++ (if c.up.due ≤ to then [(3, c.id)] else []) ++ (if c.dn.due ≤ to then [(4, c.id)] else [])).length), (10, .rp 10027 16 k 0), (33, .i k), (32, .i s.conns.length), (1, .i to), (2, .ptr 2 0), (4, .ptr 4 0)],
      [(10027, foT XS PR k { c with up := tickD to c.up, dn := tickD to c.dn } 800001 ({ c with up := tickD to c.up, dn := tickD to c.dn }).up.ar.length 800002 ({ c with up := tickD to c.up, dn := tickD to c.dn }).dn.ar.length), (800001, rowB ({ c with up := tickD to c.up, dn := tickD to c.dn }).up.ar), (800002, rowB ({ c with up := tickD to c.up, dn := tickD to c.dn }).dn.ar), (8, .row 46 2 (evr (E ++ (if c.up.due ≤ to then [(3, c.id)] else []) ++ (if c.dn.due ≤ to then [(4, c.id)] else []))) false), (2, .box 25 [.i to, .i s.next, .rw 27 s.plans.length, .rw 10027 s.conns.length]), (27, .row 54 3 (s.plans.map Pl.ds) false), (4, .box 25 [.i 0, .i 0, nilv, nilv])]⟩
set_option maxHeartbeats 8000000 in
theorem Tick_m (s : Nw) (hf : Fits s) (to : Int) : Meets Try.prog 10 [s.pv, .i to] [] (Ret (.tup [(tickS s to).1.pv, .d (.sl 2 (evr (tickS s to).2.1)), .i (tickS s to).2.2])) := by
  have hf0 := hf
  obtain ⟨f1, f2, f3⟩ := hf
  refine meetsP [(36, [.focus 10027 9 [(8, 800001), (9, 800002)]])] tbOk mixed Try.func10 pl10 rfl rfl ?_
  simp [Try.ntmps10]
  refine (check_m s hf0).mono ?_
  rintro _ rfl
  by_cases hc : chk s = 0
  case neg =>
    simp [hc]
    refine vcRet_of [] ?_ rfl
    simp [tickS, hc]
  simp [hc]
  refine (inL_m to s.now 1000000000000).mono ?_
  rintro _ rfl
  cases hto : inR to s.now 1000000000000
  · simp
    refine vcRet_of [] ?_ rfl
    simp [tickS, hc, hto]
  have hto2 : s.now ≤ to ∧ to ≤ 1000000000000 := by unfold inR at hto; simpa using hto
  simp
  refine (copiedT_m s hf0).mono ?_
  rintro _ rfl
  simp
  refine ⟨idx2 (by simp) (by simp), ?_⟩
  refine vc_loop (fun m σ => ∃ k : Nat, m = s.conns.length - k ∧ k ≤ s.conns.length ∧ ∃ l : List Cn, l = mid s.plans to s.conns k ∧ ∃ E : List (Int × Int), E = evUp s.plans to s.conns k ∧ σ = ⟨108, [(33, .i k), (32, .i s.conns.length), (8, .rw 8 E.length), (1, .i to), (2, .ptr 2 0), (4, .ptr 4 0)],
    [(10027, nestK (l.map Cn.ds) (fromB k s.conns.length)), (8, .row 46 2 (evr E) false), (2, .box 25 [.i to, .i s.next, .rw 27 s.plans.length, .rw 10027 s.conns.length]), (27, .row 54 3 (s.plans.map Pl.ds) false), (4, .box 25 [.i 0, .i 0, nilv, nilv])]⟩) ?_ ?_
  · exact ⟨_, _, ⟨0, rfl, Nat.zero_le _, s.conns, by simp [mid], [], by simp [evUp], rfl⟩, [.row 8 46 2], _, rfl, by simp⟩
  rintro m σ ⟨k, rfl, hk, l, hl, E, hE, rfl⟩
  have hll : l.length = s.conns.length := by rw [hl, mid_len]
  by_cases hlt : k < s.conns.length
  · obtain ⟨c, hcm, e0⟩ := at_lt hlt
    have hlt2 : k < l.length := by omega
    have e : l[k] = c := by
      have := mid_at (l := s.plans) (to := to) hcm
      rw [← hl] at this
      exact (List.getElem?_eq_some_iff.1 this).2
    obtain ⟨g1, g2⟩ := f3 c (List.mem_of_getElem? hcm)
    have hcr := chk_conn hc (List.mem_of_getElem? hcm)
    have hb : 0 ≤ c.backend ∧ c.backend < s.plans.length := by
      unfold cnRanges inR at hcr
      simp only [Bool.and_eq_true, decide_eq_true_eq] at hcr
      omega
    have hblt : c.backend.toNat < s.plans.length := by omega
    obtain ⟨p, hpm, ep⟩ := at_lt hblt
    have hpg : planOf s.plans c = p := by unfold planOf; rw [List.getD_eq_getElem?_getD, hpm]; rfl
    have hset := mid_set (l := s.plans) (to := to) hcm
    have hfl := flat_succ (l := s.plans) (to := to) hcm
    have hEl := evflat_len s.plans to (s.conns.take k)
    rw [show (s.conns.take k).flatMap (evsOf s.plans to) = E from hE.symm] at hEl
    have hkl : (s.conns.take k).length ≤ 500 := by have := (chk_zero hc).2.1; rw [List.length_take]; omega
    have hE1 : E.length + 1 < 4294967296 := by omega
    have hE2 : E.length + 2 < 4294967296 := by omega
    have hE3 : E.length + 3 < 4294967296 := by omega
    rw [← hl] at hset
    rw [← hE] at hfl
    by_cases hA : c.status = 0
    case neg =>
      simp [hlt, hll, e, cn_explicit c, Prep.run, List.idxOf_cons, hA]
      refine (waysT_m (l.map Cn.ds) (fromB k s.conns.length) k (c)).mono ?_
      rintro _ rfl
      simp
      refine vc_loop (TickI (l.map Cn.ds) (fromB k s.conns.length) s to k (c) (E)) ?_ ?_
      · exact ⟨_, _, .a, [], _, rfl, by simp⟩
      rintro m σ (_ | _ | _)
      · simp [List.idxOf_cons]
        refine (tickU_m (l.map Cn.ds) (fromB k s.conns.length) k (c) g1 to hto2.2).mono ?_
        rintro _ rfl
        by_cases hu : c.up.due ≤ to
        · simp [hu, hE1, IntWalk.i64_in]
          refine ⟨by kernel_rfl, ?_⟩
          exact ⟨8, by omega, _, .b, [], _, rfl, by simp [hu]⟩
        · simp [hu, IntWalk.i64_in]
          exact ⟨8, by omega, _, .b, [], _, rfl, by simp [hu]⟩
      · simp [List.idxOf_cons]
        refine (tickD_m (l.map Cn.ds) (fromB k s.conns.length) k { (c) with up := tickD to c.up } g2 to hto2.2).mono ?_
        rintro _ rfl
        by_cases hu : c.dn.due ≤ to
        · by_cases hv : c.up.due ≤ to
          all_goals
            simp [hu, hv, hE1, hE2, IntWalk.i64_in]
            refine ⟨by kernel_rfl, ?_⟩
            exact ⟨7, by omega, _, .d, [], _, rfl, by simp [hu, hv]⟩
        · simp [hu, IntWalk.i64_in]
          exact ⟨7, by omega, _, .d, [], _, rfl, by simp [hu]⟩
      · by_cases hd2 : (tickD to c.dn).d = 2
        · simp [hd2, wrap_succ hlt f2]
          refine ⟨_, by omega, _, ⟨k + 1, rfl, hlt, rfl⟩, [.cellN 10027 9 800003 5 1, .seenN 10027 9, .seenN 10027 8, .close 10027], _, (by simp [Prep.all, Prep.run]; rfl), ?_⟩
          simp [← hset, hfl, List.map_set, List.take_of_length_le, tick_ds, from_succ, tickSt, clearD, evsOf, hd2, hA]
        · simp [hd2, wrap_succ hlt f2]
          refine ⟨_, by omega, _, ⟨k + 1, rfl, hlt, rfl⟩, [.seenN 10027 9, .seenN 10027 8, .close 10027], _, (by simp [Prep.all, Prep.run]; rfl), ?_⟩
          simp [← hset, hfl, List.map_set, List.take_of_length_le, tick_ds, from_succ, tickSt, clearD, evsOf, hd2, hA]
    by_cases hR : c.ready ≤ to
    case neg =>
      simp [hlt, hll, e, cn_explicit c, Prep.run, List.idxOf_cons, hA, hR]
      refine (waysT_m (l.map Cn.ds) (fromB k s.conns.length) k ({ c with status := 0 })).mono ?_
      rintro _ rfl
      simp
      refine vc_loop (TickI (l.map Cn.ds) (fromB k s.conns.length) s to k ({ c with status := 0 }) (E)) ?_ ?_
      · exact ⟨_, _, .a, [], _, rfl, by simp⟩
      rintro m σ (_ | _ | _)
      · simp [List.idxOf_cons]
        refine (tickU_m (l.map Cn.ds) (fromB k s.conns.length) k ({ c with status := 0 }) g1 to hto2.2).mono ?_
        rintro _ rfl
        by_cases hu : c.up.due ≤ to
        · simp [hu, hE1, IntWalk.i64_in]
          refine ⟨by kernel_rfl, ?_⟩
          exact ⟨8, by omega, _, .b, [], _, rfl, by simp [hu]⟩
        · simp [hu, IntWalk.i64_in]
          exact ⟨8, by omega, _, .b, [], _, rfl, by simp [hu]⟩
      · simp [List.idxOf_cons]
        refine (tickD_m (l.map Cn.ds) (fromB k s.conns.length) k { ({ c with status := 0 }) with up := tickD to c.up } g2 to hto2.2).mono ?_
        rintro _ rfl
        by_cases hu : c.dn.due ≤ to
        · by_cases hv : c.up.due ≤ to
          all_goals
            simp [hu, hv, hE1, hE2, IntWalk.i64_in]
            refine ⟨by kernel_rfl, ?_⟩
            exact ⟨7, by omega, _, .d, [], _, rfl, by simp [hu, hv]⟩
        · simp [hu, IntWalk.i64_in]
          exact ⟨7, by omega, _, .d, [], _, rfl, by simp [hu]⟩
      · by_cases hd2 : (tickD to c.dn).d = 2
        · simp [hd2, wrap_succ hlt f2]
          refine ⟨_, by omega, _, ⟨k + 1, rfl, hlt, rfl⟩, [.cellN 10027 9 800003 5 1, .seenN 10027 9, .seenN 10027 8, .close 10027], _, (by simp [Prep.all, Prep.run]; rfl), ?_⟩
          simp [← hset, hfl, List.map_set, List.take_of_length_le, tick_ds, from_succ, tickSt, clearD, evsOf, hd2, hA, hR]
        · simp [hd2, wrap_succ hlt f2]
          refine ⟨_, by omega, _, ⟨k + 1, rfl, hlt, rfl⟩, [.seenN 10027 9, .seenN 10027 8, .close 10027], _, (by simp [Prep.all, Prep.run]; rfl), ?_⟩
          simp [← hset, hfl, List.map_set, List.take_of_length_le, tick_ds, from_succ, tickSt, clearD, evsOf, hd2, hA, hR]
    by_cases hB : p.fail = 0
    · have hB2 : (planOf s.plans c).fail = 0 := by rw [hpg]; exact hB
      simp [hlt, hll, e, cn_explicit c, Prep.run, hE1, List.idxOf_cons, hA, hR, hB, ep, hblt, hb.1, hb.2]
      refine ⟨by kernel_rfl, ?_⟩
      refine (waysT_m (l.map Cn.ds) (fromB k s.conns.length) k ({ c with status := 1 })).mono ?_
      rintro _ rfl
      simp
      refine vc_loop (TickI (l.map Cn.ds) (fromB k s.conns.length) s to k ({ c with status := 1 }) (E ++ [(1, c.id)])) ?_ ?_
      · exact ⟨_, _, .a, [], _, rfl, by simp⟩
      rintro m σ (_ | _ | _)
      · simp [List.idxOf_cons]
        refine (tickU_m (l.map Cn.ds) (fromB k s.conns.length) k ({ c with status := 1 }) g1 to hto2.2).mono ?_
        rintro _ rfl
        by_cases hu : c.up.due ≤ to
        · simp [hu, hE2, IntWalk.i64_in]
          refine ⟨by kernel_rfl, ?_⟩
          exact ⟨8, by omega, _, .b, [], _, rfl, by simp [hu]⟩
        · simp [hu, IntWalk.i64_in]
          exact ⟨8, by omega, _, .b, [], _, rfl, by simp [hu]⟩
      · simp [List.idxOf_cons]
        refine (tickD_m (l.map Cn.ds) (fromB k s.conns.length) k { ({ c with status := 1 }) with up := tickD to c.up } g2 to hto2.2).mono ?_
        rintro _ rfl
        by_cases hu : c.dn.due ≤ to
        · by_cases hv : c.up.due ≤ to
          all_goals
            simp [hu, hv, hE2, hE3, IntWalk.i64_in]
            refine ⟨by kernel_rfl, ?_⟩
            exact ⟨7, by omega, _, .d, [], _, rfl, by simp [hu, hv]⟩
        · simp [hu, IntWalk.i64_in]
          exact ⟨7, by omega, _, .d, [], _, rfl, by simp [hu]⟩
      · by_cases hd2 : (tickD to c.dn).d = 2
        · simp [hd2, wrap_succ hlt f2]
          refine ⟨_, by omega, _, ⟨k + 1, rfl, hlt, rfl⟩, [.cellN 10027 9 800003 5 1, .seenN 10027 9, .seenN 10027 8, .close 10027], _, (by simp [Prep.all, Prep.run]; rfl), ?_⟩
          simp [← hset, hfl, hpg, List.map_set, List.take_of_length_le, tick_ds, from_succ, tickSt, clearD, evsOf, hd2, hA, hR, hB]
        · simp [hd2, wrap_succ hlt f2]
          refine ⟨_, by omega, _, ⟨k + 1, rfl, hlt, rfl⟩, [.seenN 10027 9, .seenN 10027 8, .close 10027], _, (by simp [Prep.all, Prep.run]; rfl), ?_⟩
          simp [← hset, hfl, hpg, List.map_set, List.take_of_length_le, tick_ds, from_succ, tickSt, clearD, evsOf, hd2, hA, hR, hB]
    · have hB2 : ¬ (planOf s.plans c).fail = 0 := by rw [hpg]; exact hB
      simp [hlt, hll, e, cn_explicit c, Prep.run, hE1, List.idxOf_cons, hA, hR, hB, ep, hblt, hb.1, hb.2]
      refine ⟨by kernel_rfl, ?_⟩
      refine (waysT_m (l.map Cn.ds) (fromB k s.conns.length) k ({ c with status := 2 })).mono ?_
      rintro _ rfl
      simp
      refine vc_loop (TickI (l.map Cn.ds) (fromB k s.conns.length) s to k ({ c with status := 2 }) (E ++ [(2, c.id)])) ?_ ?_
      · exact ⟨_, _, .a, [], _, rfl, by simp⟩
      rintro m σ (_ | _ | _)
      · simp [List.idxOf_cons]
        refine (tickU_m (l.map Cn.ds) (fromB k s.conns.length) k ({ c with status := 2 }) g1 to hto2.2).mono ?_
        rintro _ rfl
        by_cases hu : c.up.due ≤ to
        · simp [hu, hE2, IntWalk.i64_in]
          refine ⟨by kernel_rfl, ?_⟩
          exact ⟨8, by omega, _, .b, [], _, rfl, by simp [hu]⟩
        · simp [hu, IntWalk.i64_in]
          exact ⟨8, by omega, _, .b, [], _, rfl, by simp [hu]⟩
      · simp [List.idxOf_cons]
        refine (tickD_m (l.map Cn.ds) (fromB k s.conns.length) k { ({ c with status := 2 }) with up := tickD to c.up } g2 to hto2.2).mono ?_
        rintro _ rfl
        by_cases hu : c.dn.due ≤ to
        · by_cases hv : c.up.due ≤ to
          all_goals
            simp [hu, hv, hE2, hE3, IntWalk.i64_in]
            refine ⟨by kernel_rfl, ?_⟩
            exact ⟨7, by omega, _, .d, [], _, rfl, by simp [hu, hv]⟩
        · simp [hu, IntWalk.i64_in]
          exact ⟨7, by omega, _, .d, [], _, rfl, by simp [hu]⟩
      · by_cases hd2 : (tickD to c.dn).d = 2
        · simp [hd2, wrap_succ hlt f2]
          refine ⟨_, by omega, _, ⟨k + 1, rfl, hlt, rfl⟩, [.cellN 10027 9 800003 5 1, .seenN 10027 9, .seenN 10027 8, .close 10027], _, (by simp [Prep.all, Prep.run]; rfl), ?_⟩
          simp [← hset, hfl, hpg, List.map_set, List.take_of_length_le, tick_ds, from_succ, tickSt, clearD, evsOf, hd2, hA, hR, hB]
        · simp [hd2, wrap_succ hlt f2]
          refine ⟨_, by omega, _, ⟨k + 1, rfl, hlt, rfl⟩, [.seenN 10027 9, .seenN 10027 8, .close 10027], _, (by simp [Prep.all, Prep.run]; rfl), ?_⟩
          simp [← hset, hfl, hpg, List.map_set, List.take_of_length_le, tick_ds, from_succ, tickSt, clearD, evsOf, hd2, hA, hR, hB]
  obtain rfl : k = s.conns.length := by omega
  rw [mid_all] at hl
  rw [evUp, List.take_length] at hE
  simp
  refine vcRet_prep [.unnest 10027, .seen 4 2, .seen 4 3, .view 5] [] (by simp [Prep.all, Prep.run, hll]; rfl) ?_ rfl
  simp [tickS, hc, hto, hl, hE, List.take_of_length_le]
end Go.Proofs.Ytgoklgibhmddoaa
