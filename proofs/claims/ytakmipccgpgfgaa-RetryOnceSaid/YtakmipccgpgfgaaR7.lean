/- Contracts: Check of both, asked. No condition. -/
import Derived.Test.YtakmipccgpgfgaaR6
namespace Go.Proofs.Ytakmipccgpgfgaa
open Go.RowKit

def ends1 (l : List Int) : Bool := l.isEmpty || (decide (0 ≤ l.headD 0) && (decide (lastOf l ≤ 1000000000000) && sortedL l))
def ends2 (l : List Int) (w last : Int) : Bool := l.isEmpty || decide (last - l.headD 0 < w)
theorem sorted_le {l : List Int} (h : sortedL l = true) : ∀ (d i : Nat) x y, l[i]? = some x → l[i + d]? = some y → x ≤ y
  | 0, i, x, y, hx, hy => by rw [Nat.add_zero, hx] at hy; cases hy; exact Int.le_refl _
  | d + 1, i, x, y, hx, hy => by
    have hlt := (List.getElem?_eq_some_iff.1 hy).1
    obtain ⟨z, hz, _⟩ := at_lt (show i + d < l.length by omega)
    have h1 := sorted_le h d i x z hx hz
    have h2 := (sortedL_iff l).1 h (i + d) z y hz (by rw [← hy]; congr 1)
    omega
theorem times_ends (l : List Int) (w last : Int) : times l w last = (ends1 l && ends2 l w last) := by
  rcases Nat.eq_zero_or_pos l.length with h0 | h0
  · have : l = [] := List.eq_nil_of_length_eq_zero h0
    subst this
    rfl
  obtain ⟨x, hx, _⟩ := at_lt h0
  obtain ⟨y, hy, _⟩ := at_lt (show l.length - 1 < l.length by omega)
  have hhd : l.headD 0 = x := by cases l with
    | nil => simp at h0
    | cons a r => simpa using hx
  have hl := lastOf_at h0 hy
  have hne : l.isEmpty = false := by cases l with
    | nil => simp at h0
    | cons a r => rfl
  rw [Bool.eq_iff_iff, times_iff]
  simp only [ends1, ends2, hne, hhd, hl, Bool.false_or, Bool.and_eq_true, decide_eq_true_eq]
  constructor
  · rintro ⟨h1, h2⟩
    have a := h1 0 x hx
    have b := h1 _ y hy
    exact ⟨⟨a.1.1, b.1.2, (sortedL_iff l).2 h2⟩, by have := a.2; omega⟩
  · rintro ⟨⟨h1, h2, h3⟩, h4⟩
    refine ⟨fun j z hz => ?_, (sortedL_iff l).1 h3⟩
    have hjl := (List.getElem?_eq_some_iff.1 hz).1
    have k1 := sorted_le h3 j 0 x z hx (by simpa using hz)
    have k2 := sorted_le h3 (l.length - 1 - j) j z y hz (by rw [show j + (l.length - 1 - j) = l.length - 1 by omega]; exact hy)
    exact ⟨⟨by omega, by omega⟩, by omega⟩
theorem lastT_rng {b : Bu} (h1 : ends1 b.reqs = true) (h2 : ends1 b.rets = true) : 0 ≤ lastT b ∧ lastT b ≤ 1000000000000 := by
  have key : ∀ l : List Int, ends1 l = true → lastOf l ≤ 1000000000000 := fun l h => by
    unfold ends1 at h
    rcases (Bool.or_eq_true _ _).mp h with h | h
    · have : l = [] := by simpa using h
      rw [this, lastOf_nil]; omega
    · simp at h; exact h.2.1
  have a := key _ h1
  have b' := key _ h2
  unfold lastT
  omega
theorem chk_long {b : Bu} (h : newOk b.ratio b.least b.window = true) (hl : 1000 < b.reqs.length ∨ 1000 < b.rets.length) : chk b = 3 := by
  rw [chk, h]; simp [hl]
theorem chk_6 {b : Bu} (h : newOk b.ratio b.least b.window = true) (hl : ¬ (1000 < b.reqs.length ∨ 1000 < b.rets.length)) (hb : (times b.reqs b.window (lastT b) && times b.rets b.window (lastT b)) = false) : chk b = 6 := by
  rw [chk, h, hb]; simp [hl]
theorem chk_0 {b : Bu} (h : newOk b.ratio b.least b.window = true) (hl : ¬ (1000 < b.reqs.length ∨ 1000 < b.rets.length)) (hb : (times b.reqs b.window (lastT b) && times b.rets b.window (lastT b)) = true) : chk b = 0 := by
  rw [chk, h, hb]; simp [hl]
theorem newOk_win {r l w : Int} (h : newOk r l w = true) : 1 ≤ w ∧ w ≤ 1000000000000 := by
  simp [newOk, outs] at h; omega
theorem times_neg {l : List Int} {w last : Int} (h : lastOf l < 0) : times l w last = false := by
  rw [times_ends]
  have h0 : 0 < l.length := Nat.pos_of_ne_zero fun e => by
    rw [List.eq_nil_of_length_eq_zero e, lastOf_nil] at h; omega
  obtain ⟨y, hy, _⟩ := at_lt (show l.length - 1 < l.length by omega)
  have hl := lastOf_at h0 hy
  rw [← times_ends, ← Bool.not_eq_true, times_iff]
  intro hh
  have := (hh.1 _ y hy).1.1
  omega
theorem lastR_eq {b : Bu} (h : 0 ≤ lastOf b.reqs) : lastR b = lastT b := by
  unfold lastR lastT
  split
  · rename_i h0
    rw [List.eq_nil_of_length_eq_zero h0, lastOf_nil]; omega
  · omega
theorem times_lastR (b : Bu) : (times b.reqs b.window (lastR b) && times b.rets b.window (lastR b)) = (times b.reqs b.window (lastT b) && times b.rets b.window (lastT b)) := by
  by_cases h : 0 ≤ lastOf b.reqs
  · rw [lastR_eq h]
  · have hh : lastOf b.reqs < 0 := by omega
    rw [times_neg (w := b.window) (last := lastR b) hh, times_neg (w := b.window) (last := lastT b) hh]; rfl
set_option maxRecDepth 8000 in
set_option maxHeartbeats 4000000 in
theorem refCheck_m (b : Bu) (h1 : b.reqs.length < 4294967296) (h2 : b.rets.length < 4294967296) : Meets Try.prog 18 [b.pv] [] (Ret (.i (chk b))) := by
  refine meetsH [] tbOk mixed Try.func18 pl18 rfl rfl ?_
  simp [Try.ntmps18]
  refine (refNew_m b.ratio b.least b.window).mono ?_
  rintro _ rfl
  cases hn : newOk b.ratio b.least b.window
  · have hc : chk b = 7 := by rw [chk, hn]; rfl
    simp [newB, hn]
    exact vcRet_of [] (by simp [hc]) rfl
  by_cases a1 : (1000 : Int) < b.reqs.length
  · simp [newB, hn, a1]
    exact vcRet_of [] (by simp [chk_long hn (.inl (by omega))]) rfl
  by_cases a2 : (1000 : Int) < b.rets.length
  · simp [newB, hn, a1, a2]
    exact vcRet_of [] (by simp [chk_long hn (.inr (by omega))]) rfl
  have hw := newOk_win hn
  have hl : ¬ (1000 < b.reqs.length ∨ 1000 < b.rets.length) := by omega
  simp [newB, hn, a1, a2]
  have hT := times_lastR b
  refine effCall (refLast_m b h1 h2) ?_
  simp
  refine effCall (times_m b.reqs b.window (lastR b) h1 (by omega)) ?_
  cases ht : times b.reqs b.window (lastR b)
  · rw [ht, Bool.false_and] at hT
    simp
    exact ⟨by kernel_rfl, vcRet_of [] (by simp [chk_6 hn hl hT.symm]) rfl⟩
  rw [ht, Bool.true_and] at hT
  simp
  refine effCall (refLast_m b h1 h2) ?_
  simp
  refine effCall (times_m b.rets b.window (lastR b) h2 (by omega)) ?_
  cases ht2 : times b.rets b.window (lastR b)
  · rw [ht2] at hT
    simp
    exact ⟨by kernel_rfl, vcRet_of [] (by simp [chk_6 hn hl hT.symm]) rfl⟩
  · rw [ht2] at hT
    simp
    exact ⟨by kernel_rfl, vcRet_of [] (by simp [chk_0 hn hl hT.symm]) rfl⟩
set_option maxRecDepth 4000 in
theorem asked_m (b : Bu) (now : Int) (h1 : b.reqs.length < 4294967296) (h2 : b.rets.length < 4294967296) : Meets Try.prog 34 [b.pv, .i now] [] (Ret (.i (asked b now))) := by
  refine meetsH [] tbOk mixed Try.func34 pl34 rfl rfl ?_
  simp [Try.ntmps34]
  refine (refCheck_m b h1 h2).mono ?_
  rintro _ rfl
  by_cases hc : chk b = 0
  case neg =>
    simp [hc]
    exact vcRet_of [] (by simp [asked, hc]) rfl
  have hg : 0 ≤ lastOf b.reqs := by
    rcases Int.lt_or_le (lastOf b.reqs) 0 with h | h
    · exfalso
      unfold chk at hc
      rw [times_neg h] at hc
      simp only [Bool.false_and] at hc
      split at hc
      · omega
      · split at hc
        · omega
        · simp at hc
    · exact h
  have hlr := lastR_eq hg
  simp [hc]
  refine (time_m now).mono ?_
  rintro _ rfl
  by_cases t1 : 0 ≤ now
  case neg =>
    simp [t1]
    have hq : outs now (lastT b) 1000000000000 = true := by
      simp [outs]; left; unfold lastT; omega
    exact vcRet_of [] (by simp [asked, hc, hq]) rfl
  by_cases t2 : now ≤ 1000000000000
  case neg =>
    simp [t1, t2]
    have hq : outs now (lastT b) 1000000000000 = true := by
      simp [outs]; right; omega
    exact vcRet_of [] (by simp [asked, hc, hq]) rfl
  simp [t1, t2]
  refine (refLast_m b h1 h2).mono ?_
  rintro _ rfl
  by_cases t3 : now < lastT b
  · simp [hlr, t3]
    exact vcRet_of [] (by simp [asked, hc, outs, t3]) rfl
  · simp [hlr, t3]
    have hq : outs now (lastT b) 1000000000000 = false := by
      simp [outs]; omega
    exact vcRet_of [] (by simp [asked, hc, hq]) rfl
end Go.Proofs.Ytakmipccgpgfgaa
