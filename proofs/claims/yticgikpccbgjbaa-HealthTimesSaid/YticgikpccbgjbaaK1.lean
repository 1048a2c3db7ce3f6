/- Health checks as plain functions, and contracts of the small functions: configurations, limits, first times, New. No condition. -/
import Derived.Test.YticgikpccbgjbaaTab
import Derived.Test.YticgikpccbgjbaaV23
namespace Go.Proofs.Yticgikpccbgjbaa

structure Cf where
  n : Int
  iv : Int
  tm : Int
  ri : Int
  fa : Int
deriving DecidableEq
structure Bk where
  up : Bool
  run : Int
  next : Int
  probe : Int
  began : Int
deriving DecidableEq
instance : Inhabited Bk := ⟨⟨false, 0, 0, 0, 0⟩⟩
structure Hs where
  c : Cf
  now : Int
  bs : List Bk
deriving DecidableEq
structure Ch where
  bk : Int
  up : Bool
  at_ : Int
deriving DecidableEq
instance : Inhabited Ch := ⟨⟨0, false, 0⟩⟩
structure Ev where
  kind : Int
  now : Int
  bk : Int
  id : Int
  ok : Bool
deriving DecidableEq
instance : Inhabited Ev := ⟨⟨0, 0, 0, 0, false⟩⟩

def inB (a b c : Int) : Bool := decide (b ≤ a) && decide (a ≤ c)
def validC (c : Cf) : Bool := inB c.n 1 16 && (inB c.iv 2 1000000 && (decide (1 ≤ c.tm) && decide (c.tm < c.iv) && (inB c.ri 1 10 && inB c.fa 1 10)))
def lim (c : Cf) (up : Bool) : Int := if up then c.fa else c.ri
/-- The first time of a backend. -/
def fst (c : Cf) (i : Nat) : Int := (i : Int) * c.iv / c.n
/-- What is right of a backend's record, its check apart. -/
def okA (s : Hs) (i : Nat) (b : Bk) : Bool := decide (0 ≤ b.run) && (decide (b.run < lim s.c b.up) && (decide (fst s.c i ≤ b.next) && (decide (b.next ≤ s.now + s.c.iv) && decide ((b.next - fst s.c i) % s.c.iv = 0))))
/-- The checks that are under way. -/
def probes (bs : List Bk) : List Int := (bs.filter fun b => decide (b.probe ≠ 0)).map Bk.probe
def okB (s : Hs) (ps : List Int) (b : Bk) : Bool :=
  if b.probe = 0 then decide (b.began = 0)
  else decide (0 < b.probe) && (decide (b.probe ≤ 1000000000) && (!decide (b.probe ∈ ps) && (decide (0 ≤ b.began) && (decide (b.began ≤ s.now) && (decide (s.now < b.began + s.c.tm) && (decide (b.began < b.next) && decide (b.next - b.began ≤ s.c.iv)))))))
def okAt (s : Hs) (i : Nat) (b : Bk) : Bool := okA s i b && okB s (probes (s.bs.take i)) b
def okTo (s : Hs) : Nat → Bool
  | 0 => true
  | k + 1 => okTo s k && okAt s k (s.bs.getD k default)
def formOk (s : Hs) : Bool := inB s.now 0 1000000000000 && decide ((s.bs.length : Int) = s.c.n)
def chk (s : Hs) : Int := if !validC s.c then 7 else if !formOk s then 6 else if okTo s s.bs.length then 0 else 6

theorem getD_some {α : Type} {xs : List α} {k : Nat} {x d : α} (h : xs[k]? = some x) : xs.getD k d = x := by simp [List.getD, h]
theorem lt_some {α : Type} {xs : List α} {k : Nat} {x : α} (h : xs[k]? = some x) : k < xs.length := (List.getElem?_eq_some_iff.1 h).1
theorem some_lt {α : Type} {xs : List α} {k : Nat} (h : k < xs.length) : ∃ x, xs[k]? = some x := ⟨_, List.getElem?_eq_getElem h⟩
theorem at_lt {α : Type} {xs : List α} {k : Nat} (h : k < xs.length) : ∃ x, xs[k]? = some x ∧ xs[k] = x := ⟨_, List.getElem?_eq_getElem h, rfl⟩

theorem validC_iff {c : Cf} : validC c = true ↔ (1 ≤ c.n ∧ c.n ≤ 16) ∧ (2 ≤ c.iv ∧ c.iv ≤ 1000000) ∧ (1 ≤ c.tm ∧ c.tm < c.iv) ∧ (1 ≤ c.ri ∧ c.ri ≤ 10) ∧ (1 ≤ c.fa ∧ c.fa ≤ 10) := by
  simp [validC, inB]
theorem okTo_succ {s : Hs} {k : Nat} {b : Bk} (h : s.bs[k]? = some b) : okTo s (k + 1) = (okTo s k && okAt s k b) := by rw [okTo, getD_some h]
theorem okTo_mono {s : Hs} {k : Nat} : ∀ {n : Nat}, k ≤ n → okTo s n = true → okTo s k = true
  | 0, h, hd => by obtain rfl : k = 0 := by omega
                   exact hd
  | n + 1, h, hd => by
    by_cases hk : k = n + 1
    · subst hk; exact hd
    · rw [okTo, Bool.and_eq_true] at hd
      exact okTo_mono (by omega) hd.1
theorem okTo_at {s : Hs} {k n : Nat} {b : Bk} (h : okTo s n = true) (hk : k < n) (hb : s.bs[k]? = some b) : okAt s k b = true := by
  have := okTo_mono (k := k + 1) hk h
  rw [okTo_succ hb, Bool.and_eq_true] at this
  exact this.2
theorem okTo_bad {s : Hs} {k n : Nat} {b : Bk} (hk : k < n) (hb : s.bs[k]? = some b) (h : okAt s k b = false) : okTo s n = false := by
  cases e : okTo s n with
  | false => rfl
  | true => rw [okTo_at e hk hb] at h; cases h
theorem fst_nonneg {c : Cf} (h : validC c = true) (i : Nat) : 0 ≤ fst c i := by
  obtain ⟨h1, h2, _⟩ := validC_iff.1 h
  exact Int.ediv_nonneg (Int.mul_nonneg (by omega) (by omega)) (by omega)
theorem fst_le {c : Cf} (h : validC c = true) {i : Nat} (hi : (i : Int) ≤ c.n) : fst c i ≤ c.iv := by
  obtain ⟨h1, h2, _⟩ := validC_iff.1 h
  exact Int.ediv_le_of_le_mul (by omega) (by rw [Int.mul_comm c.iv]; exact Int.mul_le_mul_of_nonneg_right hi (by omega))
theorem fst_lt {c : Cf} (h : validC c = true) {i : Nat} (hi : (i : Int) < c.n) : fst c i < c.iv := by
  obtain ⟨h1, h2, _⟩ := validC_iff.1 h
  exact Int.ediv_lt_of_lt_mul (by omega) (by rw [Int.mul_comm c.iv]; exact Int.mul_lt_mul_of_pos_right hi (by omega))
theorem probes_succ {bs : List Bk} {k : Nat} {b : Bk} (h : bs[k]? = some b) : probes (bs.take (k + 1)) = probes (bs.take k) ++ (if b.probe = 0 then [] else [b.probe]) := by
  unfold probes
  rw [List.take_add_one, h, List.filter_append, List.map_append]
  congr 1
  by_cases hb : b.probe = 0 <;> simp [hb]
open Go.RowKit

@[simp] def Cf.ps (c : Cf) : List PV := [.i c.n, .i c.iv, .i c.tm, .i c.ri, .i c.fa]
@[simp] def Cf.pv (c : Cf) : PV := .agg c.ps
@[simp] def Bk.ds (b : Bk) : List D := [.v (.bool b.up), .v (.int .i64 b.run), .v (.int .i64 b.next), .v (.int .i64 b.probe), .v (.int .i64 b.began)]
@[simp] def Bk.ps (b : Bk) : List PV := [.b b.up, .i b.run, .i b.next, .i b.probe, .i b.began]
@[simp] def Bk.pv (b : Bk) : PV := .agg b.ps
@[simp] def bl (bs : List Bk) : D := .sl 5 (bs.map Bk.ds)
@[simp] def Hs.ps (s : Hs) : List PV := [.i s.c.n, .i s.c.iv, .i s.c.tm, .i s.c.ri, .i s.c.fa, .i s.now, .d (bl s.bs)]
@[simp] def Hs.pv (s : Hs) : PV := .agg s.ps
@[simp] def Ch.ds (x : Ch) : List D := [.v (.int .i64 x.bk), .v (.bool x.up), .v (.int .i64 x.at_)]
@[simp] def chl (l : List Ch) : D := .sl 3 (l.map Ch.ds)
@[simp] def Ev.ds (x : Ev) : List D := [.v (.int .i64 x.kind), .v (.int .i64 x.now), .v (.int .i64 x.bk), .v (.int .i64 x.id), .v (.bool x.ok)]
@[simp] def Ev.ps (x : Ev) : List PV := [.i x.kind, .i x.now, .i x.bk, .i x.id, .b x.ok]
@[simp] def Ev.pv (x : Ev) : PV := .agg x.ps
@[simp] def nds (n : Int) : List D := [.v (.int .i64 n)]
@[simp] def nl (l : List Int) : D := .sl 1 (l.map nds)
theorem small_wrap {a : Int} (h : -9223372036854775808 ≤ a ∧ a < 9223372036854775808) : IntKind.i64.wrap a = a := IntWalk.i64_in _ (by omega)
theorem wrap_succ {k n : Nat} (h : k < n) (hn : n < 4294967296) : IntKind.i64.wrap ((k : Int) + 1) = (k : Int) + 1 := IntWalk.i64_in _ (by omega)

/-- The first of a configuration's numbers that is wrong. -/
theorem validC_bad {c : Cf} (h : validC c = false) : c.n < 1 ∨ (¬ c.n < 1 ∧ 16 < c.n) ∨ ((¬ c.n < 1 ∧ ¬ 16 < c.n) ∧ (c.iv < 2 ∨ (¬ c.iv < 2 ∧ 1000000 < c.iv) ∨ ((¬ c.iv < 2 ∧ ¬ 1000000 < c.iv) ∧ (c.tm < 1 ∨ (¬ c.tm < 1 ∧ c.iv ≤ c.tm) ∨
    ((¬ c.tm < 1 ∧ ¬ c.iv ≤ c.tm) ∧ (c.ri < 1 ∨ (¬ c.ri < 1 ∧ 10 < c.ri) ∨ ((¬ c.ri < 1 ∧ ¬ 10 < c.ri) ∧ (c.fa < 1 ∨ (¬ c.fa < 1 ∧ 10 < c.fa))))))))) := by
  by_cases hc : validC c = true
  · rw [hc] at h; cases h
  · rw [validC_iff] at hc
    omega
set_option maxRecDepth 20000 in
set_option maxHeartbeats 2000000 in
theorem valid_m (c : Cf) : Meets Try.prog 43 [c.pv] [] (Ret (.b (validC c))) := by
  refine meetsH [] tbOk mixed Try.func43 pl43 rfl rfl ?_
  cases hv : validC c
  · rcases validC_bad hv with h1 | ⟨h1, h2⟩ | ⟨⟨h1, h2⟩, h3 | ⟨h3, h4⟩ | ⟨⟨h3, h4⟩, h5 | ⟨h5, h6⟩ | ⟨⟨h5, h6⟩, h7 | ⟨h7, h8⟩ | ⟨⟨h7, h8⟩, h9 | ⟨h9, h10⟩⟩⟩⟩⟩ <;> simp [Try.ntmps43, *] <;> exact vcRet_of [] (by simp) rfl
  · obtain ⟨⟨a1, a2⟩, ⟨a3, a4⟩, ⟨a5, a6⟩, ⟨a7, a8⟩, ⟨a9, a10⟩⟩ := validC_iff.1 hv
    have b1 : ¬ c.n < 1 := by omega
    have b2 : ¬ 16 < c.n := by omega
    have b3 : ¬ c.iv < 2 := by omega
    have b4 : ¬ 1000000 < c.iv := by omega
    have b5 : ¬ c.tm < 1 := by omega
    have b6 : ¬ c.iv ≤ c.tm := by omega
    have b7 : ¬ c.ri < 1 := by omega
    have b8 : ¬ 10 < c.ri := by omega
    have b9 : ¬ c.fa < 1 := by omega
    have b10 : ¬ 10 < c.fa := by omega
    simp [Try.ntmps43, b1, b2, b3, b4, b5, b6, b7, b8, b9, b10]
    exact vcRet_of [] (by simp) rfl
/-- The same of the negations that a chain of conjuncts asks. -/
theorem validC_bad2 {c : Cf} (h : validC c = false) : ¬ 1 ≤ c.n ∨ (1 ≤ c.n ∧ ¬ c.n ≤ 16) ∨ ((1 ≤ c.n ∧ c.n ≤ 16) ∧ (¬ 2 ≤ c.iv ∨ (2 ≤ c.iv ∧ ¬ c.iv ≤ 1000000) ∨ ((2 ≤ c.iv ∧ c.iv ≤ 1000000) ∧ (¬ 1 ≤ c.tm ∨ (1 ≤ c.tm ∧ ¬ c.tm < c.iv) ∨
    ((1 ≤ c.tm ∧ c.tm < c.iv) ∧ (¬ 1 ≤ c.ri ∨ (1 ≤ c.ri ∧ ¬ c.ri ≤ 10) ∨ ((1 ≤ c.ri ∧ c.ri ≤ 10) ∧ (¬ 1 ≤ c.fa ∨ (1 ≤ c.fa ∧ ¬ c.fa ≤ 10))))))))) := by
  have := validC_bad h
  omega
set_option maxRecDepth 20000 in
set_option maxHeartbeats 4000000 in
theorem config_m (c : Cf) : Meets Try.prog 47 [c.pv] [] (Ret (.b (validC c))) := by
  refine meetsH [] tbOk mixed Try.func47 pl47 rfl rfl ?_
  cases hv : validC c
  · rcases validC_bad2 hv with h1 | ⟨h1, h2⟩ | ⟨⟨h1, h2⟩, h3 | ⟨h3, h4⟩ | ⟨⟨h3, h4⟩, h5 | ⟨h5, h6⟩ | ⟨⟨h5, h6⟩, h7 | ⟨h7, h8⟩ | ⟨⟨h7, h8⟩, h9 | ⟨h9, h10⟩⟩⟩⟩⟩ <;> simp [Try.ntmps47, *, -Int.not_le, -Int.not_lt] <;> exact vcRet_of [] (by simp) rfl
  · obtain ⟨⟨a1, a2⟩, ⟨a3, a4⟩, ⟨a5, a6⟩, ⟨a7, a8⟩, ⟨a9, a10⟩⟩ := validC_iff.1 hv
    simp [Try.ntmps47, a1, a2, a3, a4, a5, a6, a7, a8, a9, a10]
    exact vcRet_of [] (by simp) rfl
theorem limit_m (c : Cf) (up : Bool) : Meets Try.prog 45 [c.pv, .b up] [] (Ret (.i (lim c up))) := by
  refine meetsH [] tbOk mixed Try.func45 pl45 rfl rfl ?_
  cases up <;> simp [Try.ntmps45] <;> exact vcRet_of [] (by simp [lim]) rfl
theorem refLimit_m (c : Cf) (up : Bool) : Meets Try.prog 58 [c.pv, .b up] [] (Ret (.i (lim c up))) := by
  refine meetsH [] tbOk mixed Try.func58 pl58 rfl rfl ?_
  cases up <;> simp [Try.ntmps58] <;> exact vcRet_of [] (by simp [lim]) rfl
theorem fst_wrap {c : Cf} (h : validC c = true) {i : Nat} (hi : i ≤ 16) : c.n ≠ 0 ∧ IntKind.i64.wrap ((i : Int) * c.iv) = (i : Int) * c.iv ∧ IntKind.i64.wrap (((i : Int) * c.iv).tdiv c.n) = fst c i := by
  obtain ⟨h1, h2, _⟩ := validC_iff.1 h
  have h3 : 0 ≤ (i : Int) * c.iv := Int.mul_nonneg (by omega) (by omega)
  have h4 : (i : Int) * c.iv ≤ 16 * 1000000 := Int.mul_le_mul (by omega) (by omega) (by omega) (by omega)
  have h5 : ((i : Int) * c.iv).tdiv c.n = fst c i := Int.tdiv_eq_ediv_of_nonneg h3
  have h6 := fst_nonneg h i
  have h7 : fst c i ≤ (i : Int) * c.iv := Int.ediv_le_self _ h3
  exact ⟨by omega, small_wrap (by omega), by rw [h5]; exact small_wrap (by omega)⟩
theorem first_m (c : Cf) (h : validC c = true) (i : Nat) (hi : i ≤ 16) : Meets Try.prog 60 [c.pv, .i i] [] (Ret (.i (fst c i))) := by
  refine meetsH [] tbOk mixed Try.func60 pl60 rfl rfl ?_
  obtain ⟨h1, h2, h3⟩ := fst_wrap h hi
  simp [Try.ntmps60, h1, h2, h3]
  exact vcRet_of [] (by simp) rfl
theorem refFirst_m (c : Cf) (h : validC c = true) (i : Nat) (hi : i ≤ 16) : Meets Try.prog 48 [c.pv, .i i] [] (Ret (.i (fst c i))) := by
  refine meetsH [] tbOk mixed Try.func48 pl48 rfl rfl ?_
  obtain ⟨h1, h2, h3⟩ := fst_wrap h hi
  simp [Try.ntmps48, h1, h2, h3]
  exact vcRet_of [] (by simp) rfl
theorem deadline_m (s : Hs) (b : Bk) : Meets Try.prog 46 [s.pv, b.pv] [] (Ret (.i (IntKind.i64.wrap (b.began + s.c.tm)))) := by
  refine meetsH [] tbOk mixed Try.func46 pl46 rfl rfl ?_
  simp [Try.ntmps46]
  exact vcRet_of [] (by simp) rfl
def dueB (s : Hs) (b : Bk) : Bool := decide (b.probe = 0) && decide (b.next ≤ s.now)
theorem isDue_m (s : Hs) (b : Bk) : Meets Try.prog 50 [s.pv, b.pv] [] (Ret (.b (dueB s b))) := by
  refine meetsH [] tbOk mixed Try.func50 pl50 rfl rfl ?_
  by_cases h1 : b.probe = 0 <;> simp [Try.ntmps50, h1] <;> exact vcRet_of [] (by simp [dueB, h1]) rfl
theorem refDue_m (s : Hs) (k : Nat) {b : Bk} (hb : s.bs[k]? = some b) : Meets Try.prog 39 [s.pv, .i k] [] (Ret (.b (dueB s b))) := by
  refine meetsH [] tbOk mixed Try.func39 pl39 rfl rfl ?_
  have hlt := lt_some hb
  have e : s.bs[k] = b := by rw [List.getElem?_eq_getElem hlt] at hb; exact Option.some.inj hb
  by_cases h1 : b.probe = 0 <;> simp [Try.ntmps39, hlt, e, h1] <;> refine ⟨by kernel_rfl, vcRet_of [] (by simp [dueB, h1]) rfl⟩

/-- What firsts yields. -/
def fsts (c : Cf) : List (List PV) := (List.range c.n.toNat).map fun i : Nat => [.i (i : Int), .i (fst c i)]
theorem fsts_len (c : Cf) : (fsts c).length = c.n.toNat := by simp [fsts]
theorem fsts_at {c : Cf} {k : Nat} (h : k < c.n.toNat) : (fsts c)[k]? = some [.i (k : Int), .i (fst c k)] := by
  unfold fsts
  rw [List.getElem?_map, List.getElem?_range h]
  rfl
theorem fsts_mem {c : Cf} {x : List PV} (h : x ∈ fsts c) : x.length = 2 ∧ ∀ p ∈ x, p.keys = [] := by
  obtain ⟨i, _, rfl⟩ := List.mem_map.1 h
  simp
theorem firsts_it (c : Cf) (h : validC c = true) : Iters Try.prog 59 [.ptr 1000000 0] [.box 23 c.ps] (fsts c) := by
  refine iters_of tbOk Try.func59 rfl pl59 rfl rfl (fun x hx => (fsts_mem hx).2) fun l => ?_
  obtain ⟨hn, _⟩ := validC_iff.1 h
  simp [Try.ntmps59]
  refine vcY_loop (fun n i σ => ∃ k : Nat, n = c.n.toNat - k ∧ k ≤ c.n.toNat ∧ i = some k ∧ σ = ⟨17, [(6, .i k), (5, .i c.n), (0, .d (.v (.func (.yield l) #[] #[]))), (1, .ptr 1000000 0)], [(1000000, .box 23 c.ps)]⟩) ?_ ?_
  · exact ⟨_, _, ⟨0, rfl, Nat.zero_le _, rfl, rfl⟩, by simp⟩
  rintro n i σ ⟨k, rfl, hk, rfl, rfl⟩
  by_cases hlt : k < c.n.toNat
  · have hlt2 : (k : Int) < c.n := by omega
    have hb := fsts_at hlt
    have w1 : IntKind.i64.wrap ((k : Int) + 1) = ((k + 1 : Nat) : Int) := by rw [small_wrap (by omega)]; omega
    simp [hlt2]
    refine ⟨_, first_m c h k (by omega), ?_⟩
    simp [hb, w1]
    refine ⟨_, ?_, _, ⟨k + 1, rfl, hlt, rfl, rfl⟩, by simp⟩
    omega
  · obtain rfl : k = c.n.toNat := by omega
    have hlt2 : ¬ max c.n 0 < c.n := by omega
    simp [fsts_len, hlt2]
theorem firsts_m (c : Cf) : Meets Try.prog 44 [c.pv] [] (fun r => r = ⟨.clo 59 [.ptr 2000000 0], [], [.box 23 c.ps]⟩) := by
  refine meetsH [] tbOk mixed Try.func44 pl44 rfl rfl ?_
  simp [Try.ntmps44]
  refine vcRet_of [1] ?_ rfl
  simp

def news (c : Cf) (up : Bool) (k : Nat) : List Bk := (List.range k).map fun i => ⟨up, 0, fst c i, 0, 0⟩
def new (c : Cf) (up : Bool) : Hs := ⟨c, 0, news c up c.n.toNat⟩
theorem news_len (c : Cf) (up : Bool) (k : Nat) : (news c up k).length = k := by simp [news]
theorem news_succ (c : Cf) (up : Bool) (k : Nat) : news c up (k + 1) = news c up k ++ [⟨up, 0, fst c k, 0, 0⟩] := by simp [news, List.range_succ]
@[simp] def Hs.zero : Hs := ⟨⟨0, 0, 0, 0, 0⟩, 0, []⟩
def newR (c : Cf) (up : Bool) : Hs × Int := if validC c then (new c up, 0) else (Hs.zero, 7)
set_option maxRecDepth 100000 in
set_option maxHeartbeats 2000000 in
theorem new_m (c : Cf) (up : Bool) : Meets Try.prog 19 [c.pv, .b up] [] (Ret (.tup [(newR c up).1.pv, .i (newR c up).2])) := by
  refine meetsH [] tbOk mixed Try.func19 pl19 rfl rfl ?_
  simp [Try.ntmps19]
  refine (valid_m c).mono ?_
  rintro _ rfl
  cases hv : validC c
  · simp
    refine vcRet_of [] ?_ rfl
    simp [newR, hv]
  obtain ⟨hn, _⟩ := validC_iff.1 hv
  simp
  refine (firsts_m c).mono ?_
  rintro _ rfl
  simp
  refine vc_range ⟨59, [.ptr 16 0], [16], [.box 23 c.ps], fsts c, maskOf [16, 4, 5, 6, 3], fun i σ => i ≤ c.n.toNat ∧ σ = ⟨28, [(16, .clo 59 [.ptr 16 0]), (4, .ptr 4 0), (6, .ptr 6 0), (3, .ptr 3 0)], [(16, .box 23 c.ps), (4, .box 26 [.i 0, .i 0, .i 0, .i 0, .i 0, .i 0, .any]), (6, .box 26 [.i c.n, .i c.iv, .i c.tm, .i c.ri, .i c.fa, .i 0, .rw 25 i]), (3, .box 4 [.b up]), (25, .row 42 5 ((news c up i).map Bk.ds) false)]⟩⟩ (firsts_it c hv) (by kernel_rfl) (fun x hx => fsts_mem hx) ?_ ?_ ?_ ?_
  · exact ⟨_, ⟨Nat.zero_le _, rfl⟩, [.cell 6 6 25 42 5], _, rfl, by simp [news]⟩
  · rintro i σ ⟨_, rfl⟩
    simp
  · rintro i x σ ⟨hi, rfl⟩ hx
    have hlt : i < c.n.toNat := by rw [← fsts_len]; exact lt_some hx
    obtain rfl : [.i (i : Int), .i (fst c i)] = x := by
      rw [fsts_at hlt] at hx; exact Option.some.inj hx
    simp [news_len]
    refine ⟨by omega, _, ⟨hlt, rfl⟩, [], _, rfl, ?_⟩
    simp [news_succ]
  · rintro σ ⟨h0, rfl⟩
    simp [fsts_len]
    refine vcRet_of [] ?_ rfl
    simp [newR, hv, new, news_len]
    exact List.take_of_length_le (by simp [news_len])
end Go.Proofs.Yticgikpccbgjbaa
