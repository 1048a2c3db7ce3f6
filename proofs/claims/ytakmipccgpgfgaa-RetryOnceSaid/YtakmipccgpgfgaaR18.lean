/- Contracts: what Run asks first. No condition. -/
import Derived.Test.YtakmipccgpgfgaaR17
namespace Go.Proofs.Ytakmipccgpgfgaa
open Go.RowKit

@[simp] def Fl.cs (f : Fl) : List D := [.v (.int .i64 f.phase), .v (.int .i64 f.status), .v (.int .i64 f.tries), .v (.int .i64 f.sent), .v (.bool f.idem)]
@[simp] def fl (l : List Fl) : D := .sl 5 (l.map Fl.cs)
structure Pl where
  most : Int
  base : Int
  top : Int
  exp : Int
@[simp] def Pl.cs (p : Pl) : List PV := [.i p.most, .i p.base, .i p.top, .i p.exp]
structure Rdy (l : List Fl) (p : Pl) (js : List Int) : Prop where
  most : 0 ≤ p.most ∧ p.most ≤ 99
  base : 1 ≤ p.base ∧ p.base ≤ p.top
  top : p.top ≤ 1000000000000
  exp : 0 ≤ p.exp ∧ p.exp ≤ 1000000000000
  len : l.length ≤ 100
  jen : js.length ≤ 100
  tries : ∀ (i : Nat) x, l[i]? = some x → x.tries = (i : Int) + 1
theorem cloneD_m (xs : List Int) (hl : xs.length < 4294967296) : Meets Try.prog 37 [.d (il xs)] [] (Ret (.d (il xs))) := by
  refine meetsH [] tbOk mixed Try.func37 pl37 rfl rfl ?_
  simp [Try.ntmps37]
  refine ⟨⟨hl, vcRet_of [] (by simp [take_all]) rfl⟩, fun h => vcRet_of [] (by simp [h]) rfl⟩
theorem ready1_m (j : Int) : Meets Try.prog 45 [.i j] [] (Ret (.b (outs j 0 1000))) := by
  refine meetsH [] tbOk mixed Try.func45 pl45 rfl rfl ?_
  simp [Try.ntmps45]
  refine (outside_m j 0 1000).mono ?_
  rintro _ rfl
  simp
  exact vcRet_of [] (by simp) rfl
theorem indexW_m (xs : List Int) (hl : xs.length < 4294967296) : Meets Try.prog 54 [.d (il xs), .clo 45 []] [] (fun r => ∃ k : Int, r = ⟨.i k, [], []⟩) := by
  refine meetsH [] tbOk mixed Try.func54 pl54 rfl rfl ?_
  simp [Try.ntmps54]
  refine vc_loop (fun m σ => ∃ k : Nat, m = xs.length - k ∧ k ≤ xs.length ∧ σ = ⟨19, [(8, .i k), (7, .i xs.length), (0, .d (il xs)), (1, .clo 45 [])], []⟩) ?_ ?_
  · exact ⟨_, _, ⟨0, rfl, Nat.zero_le _, rfl⟩, [], _, rfl, by simp⟩
  rintro m σ ⟨k, rfl, hk, rfl⟩
  by_cases hlt : k < xs.length
  · obtain ⟨x, hx', e⟩ := at_lt hlt
    simp [hlt, e]
    refine (ready1_m x).mono ?_
    rintro _ rfl
    cases hg : outs x 0 1000
    · simp [wrap_succ hlt hl]
      refine ⟨_, ?_, _, ⟨k + 1, rfl, hlt, rfl⟩, [], _, rfl, by simp⟩
      omega
    · simp
      exact vcRet_of [] (by simp) ⟨k, rfl⟩
  obtain rfl : k = xs.length := by omega
  simp
  exact vcRet_of [] (by simp) ⟨-1, rfl⟩
theorem containsW_m (xs : List Int) (hl : xs.length < 4294967296) : Meets Try.prog 44 [.d (il xs), .clo 45 []] [] (fun r => ∃ b : Bool, r = ⟨.b b, [], []⟩) := by
  refine meetsH [] tbOk mixed Try.func44 pl44 rfl rfl ?_
  simp [Try.ntmps44]
  refine (indexW_m xs hl).mono ?_
  rintro _ ⟨k, rfl⟩
  simp
  exact vcRet_of [] (p := .b (decide (0 ≤ k))) (ext := []) (new := []) (by simp) (by cases decide (0 ≤ k) <;> simp)
set_option maxRecDepth 8000 in
set_option maxHeartbeats 4000000 in
theorem ready_m (l : List Fl) (p : Pl) (js : List Int) : Meets Try.prog 36 [.d (fl l), .agg p.cs, .d (il js)] [] (fun r => ∃ e : Int, (e = 0 → Rdy l p js) ∧ r = ⟨.i e, [], []⟩) := by
  refine meetsH [] tbOk mixed Try.func36 pl36 rfl rfl ?_
  have fin : ∀ e : Int, e ≠ 0 → ∃ e' : Int, (e' = 0 → Rdy l p js) ∧ (⟨.i e, [], []⟩ : Res) = ⟨.i e', [], []⟩ := fun e h => ⟨e, fun h' => absurd h' h, rfl⟩
  simp [Try.ntmps36]
  refine (outside_m p.most 0 99).mono ?_
  rintro _ rfl
  cases h1 : outs p.most 0 99
  case true =>
    simp
    exact vcRet_of [] (by simp) (fin 7 (by decide))
  simp
  refine (outside_m p.base 1 1000000000000).mono ?_
  rintro _ rfl
  cases h2 : outs p.base 1 1000000000000
  case true =>
    simp
    exact vcRet_of [] (by simp) (fin 7 (by decide))
  simp
  refine (outside_m p.top p.base 1000000000000).mono ?_
  rintro _ rfl
  cases h3 : outs p.top p.base 1000000000000
  case true =>
    simp
    exact vcRet_of [] (by simp) (fin 7 (by decide))
  simp
  refine (outside_m p.exp 0 1000000000000).mono ?_
  rintro _ rfl
  cases h4 : outs p.exp 0 1000000000000
  case true =>
    simp
    exact vcRet_of [] (by simp) (fin 7 (by decide))
  by_cases h5 : (100 : Int) < max (l.length : Int) js.length
  · simp [h5]
    exact vcRet_of [] (by simp) (fin 3 (by decide))
  simp [h5]
  refine (containsW_m js (by omega)).mono ?_
  rintro _ ⟨b, rfl⟩
  cases b
  case true =>
    simp
    exact vcRet_of [] (by simp) (fin 7 (by decide))
  simp
  refine vc_loop (fun m σ => ∃ k : Nat, m = l.length - k ∧ k ≤ l.length ∧ (∀ (i : Nat) x, i < k → l[i]? = some x → x.tries = (i : Int) + 1) ∧ σ = ⟨54, [(39, .i k), (38, .i l.length), (37, .d (fl l))], []⟩) ?_ ?_
  · exact ⟨_, _, ⟨0, rfl, Nat.zero_le _, fun i x h => absurd h (by omega), rfl⟩, [], _, rfl, by simp⟩
  rintro m σ ⟨k, rfl, hk, ht, rfl⟩
  by_cases hlt : k < l.length
  · obtain ⟨x, hx, e⟩ := at_lt hlt
    have w := wrap_succ hlt (show l.length < 4294967296 by omega)
    simp [hlt, e]
    refine (bad_m x).mono ?_
    rintro _ rfl
    cases hb : badF x
    case true =>
      simp
      exact vcRet_of [] (by simp) (fin 2 (by decide))
    by_cases hq : x.tries = (k : Int) + 1
    · simp [w, hq]
      refine ⟨_, ?_, _, ⟨k + 1, rfl, hlt, fun i y hi hy => ?_, rfl⟩, [], _, rfl, by simp⟩
      · omega
      · by_cases hik : i = k
        · subst hik; rw [hx] at hy; cases hy; exact hq
        · exact ht i y (by omega) hy
    · simp [w, hq]
      exact vcRet_of [] (by simp) (fin 6 (by decide))
  obtain rfl : k = l.length := by omega
  simp
  refine vcRet_of [] (p := .i 0) (ext := []) (new := []) (by simp) ⟨0, fun _ => ?_, rfl⟩
  simp [outs] at h1 h2 h3 h4
  exact ⟨by omega, by omega, by omega, by omega, by omega, by omega, fun i x hx => ht i x (List.getElem?_eq_some_iff.1 hx).1 hx⟩
end Go.Proofs.Ytakmipccgpgfgaa
