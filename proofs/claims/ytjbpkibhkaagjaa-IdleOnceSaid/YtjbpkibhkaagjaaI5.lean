/- Contracts: Take, Usable, and the reference's. No condition. -/
import Derived.Test.YtjbpkibhkaagjaaI4
namespace Go.Proofs.Ytjbpkibhkaagjaa
open Go.RowKit

def Cn.zero : Cn := ⟨0, 0, 0⟩
theorem take_len {s : St} {now : Int} (hl : s.cs.length < 4294967296) : (left s now).length < 4294967296 := Nat.lt_of_le_of_lt (List.length_filter_le _ _) hl
set_option maxRecDepth 100000 in
set_option maxHeartbeats 2000000 in
theorem take_m (s : St) (now : Int) (hl : s.cs.length < 4294967296) : Meets Try.prog 12 [s.pv, .i now] [] (Ret (.tup [(take s now).1.pv, (take s now).2.1.pv, .d (nl (take s now).2.2.1), .i (take s now).2.2.2])) := by
  refine meetsH [] tbOk mixed Try.func12 pl12 rfl rfl ?_
  simp [Try.ntmps12]
  refine (reap_m s now hl).mono ?_
  rintro _ rfl
  by_cases hc : rdy s now = 0
  case neg =>
    have e : reap s now = (s, [], rdy s now) := by simp [reap, hc]
    simp [e, hc]
    refine ⟨by kernel_rfl, vcRet_of [] ?_ rfl⟩
    simp [take, hc]
  have e : reap s now = (⟨s.most, s.idle, s.age, left s now⟩, shut s now, 0) := by simp [reap, hc]
  simp [e]
  obtain ⟨L, hL⟩ : ∃ L, left s now = L := ⟨_, rfl⟩
  have hlL : L.length < 4294967296 := hL ▸ take_len hl
  simp only [hL]
  refine (last_m L).mono ?_
  rintro _ rfl
  simp
  refine vc_range ⟨57, [.ptr 24 0], [24], [.box 22 [.d (cl L)]], backs L, maskOf [24, 4, 5, 6, 7], fun i σ => i = 0 ∧ σ = ⟨38, [(24, .clo 57 [.ptr 24 0]), (4, .ptr 4 0), (5, .ptr 5 0), (6, .ptr 6 0), (7, .ptr 7 0)], [(24, .box 22 [.d (cl L)]), (4, .box 24 [.i s.most, .i s.idle, .i s.age, .d (cl L)]), (5, .box 29 [.i 0, .i 0, .i 0]), (6, .box 30 [.d (nl (shut s now))]), (7, .box 25 [.i 0])]⟩⟩ (backward_it L hlL) (by kernel_rfl) (fun x hx => backs_mem hx) ?_ ?_ ?_ ?_
  · exact ⟨_, ⟨rfl, rfl⟩, [], _, rfl, by simp⟩
  · rintro i σ ⟨rfl, rfl⟩
    simp
  · rintro i x σ ⟨rfl, rfl⟩ hx
    have h0 : 0 < L.length := by rw [← backs_len]; exact lt_some hx
    obtain ⟨q, hq⟩ : ∃ q, q + 1 = L.length := ⟨L.length - 1, by omega⟩
    have hk : q < L.length := by omega
    obtain ⟨y, hy, ey⟩ := at_lt hk
    have e1 : (L.length : Int) - 1 - (0 : Nat) = (q : Int) := by omega
    have e2 : L.length - 1 - 0 = q := by omega
    have hx2 : some x = some [.i (q : Int), y.pv] := by
      rw [← hx]
      show (backs L)[0]? = _
      rw [backs_at h0, e1, e2, getD_some hy]
    obtain rfl := Option.some.inj hx2
    simp
    refine ⟨by omega, by kernel_rfl, vcRet_of [] ?_ rfl⟩
    have e3 : L ≠ [] := fun e => by rw [e] at h0; simp at h0
    have e4 : L.length - 1 = q := by omega
    simp [take, hc, hL, e3, e4, hy]
  · rintro σ ⟨h0, rfl⟩
    have h0 : L = [] := by
      have : (backs L).length = 0 := h0
      rw [backs_len] at this
      exact List.length_eq_zero_iff.1 this
    subst h0
    simp
    refine ⟨by kernel_rfl, vcRet_of [] ?_ rfl⟩
    simp [take, hc, hL]
theorem take_wrap {L : List Cn} {q : Nat} (hq : q + 1 = L.length) (hl : L.length < 4294967296) : IntKind.i64.wrap ((L.length : Int) - 1) = (q : Int) := by rw [small_wrap (by omega)]; omega
set_option maxRecDepth 20000 in
set_option maxHeartbeats 1000000 in
theorem refTake_m (s : St) (now : Int) (hl : s.cs.length < 4294967296) : Meets Try.prog 39 [s.pv, .i now] [] (Ret (.tup [(take s now).1.pv, (take s now).2.1.pv, .d (nl (take s now).2.2.1), .i (take s now).2.2.2])) := by
  refine meetsH [] tbOk mixed Try.func39 pl39 rfl rfl ?_
  simp [Try.ntmps39]
  refine (at_m s now hl).mono ?_
  rintro _ rfl
  by_cases hc : rdy s now = 0
  case neg =>
    simp [hc]
    refine vcRet_of [] ?_ rfl
    simp [take, hc]
  simp [hc]
  refine (refReapIn_m s now hl (small_of hc)).mono ?_
  rintro _ rfl
  obtain ⟨L, hL⟩ : ∃ L, left s now = L := ⟨_, rfl⟩
  have hlL : L.length < 4294967296 := hL ▸ take_len hl
  simp only [hL]
  by_cases h0 : L = []
  · simp [h0]
    refine vcRet_of [] ?_ rfl
    simp [take, hc, hL, h0]
  have h1 : 0 < L.length := List.length_pos_iff.2 h0
  obtain ⟨q, hq⟩ : ∃ q, q + 1 = L.length := ⟨L.length - 1, by omega⟩
  have hk : q < L.length := by omega
  obtain ⟨y, hy, ey⟩ := at_lt hk
  have e4 : L.length - 1 = q := by omega
  simp [h0, take_wrap hq hlL, hk, ey]
  refine ⟨by omega, by kernel_rfl, vcRet_of [] ?_ rfl⟩
  simp [take, hc, hL, h0, e4, hy]
set_option maxRecDepth 100000 in
set_option maxHeartbeats 2000000 in
theorem usable_m (s : St) (now : Int) (hl : s.cs.length < 4294967296) : Meets Try.prog 17 [s.pv, .i now] [] (Ret (.tup [.d (nl (usable s now).1), .i (usable s now).2])) := by
  refine meetsH [] tbOk mixed Try.func17 pl17 rfl rfl ?_
  simp [Try.ntmps17]
  refine (reap_m s now hl).mono ?_
  rintro _ rfl
  by_cases hc : rdy s now = 0
  case neg =>
    have e : reap s now = (s, [], rdy s now) := by simp [reap, hc]
    simp [e, hc]
    refine vcRet_of [] ?_ rfl
    simp [usable, hc]
  have e : reap s now = (⟨s.most, s.idle, s.age, left s now⟩, shut s now, 0) := by simp [reap, hc]
  simp [e]
  obtain ⟨L, hL⟩ : ∃ L, left s now = L := ⟨_, rfl⟩
  have hlL : L.length < 4294967296 := hL ▸ take_len hl
  simp only [hL]
  refine (last_m L).mono ?_
  rintro _ rfl
  simp
  refine vc_range ⟨57, [.ptr 24 0], [24], [.box 22 [.d (cl L)]], backs L, maskOf [24, 9], fun i σ => i ≤ L.length ∧ σ = ⟨33, [(24, .clo 57 [.ptr 24 0]), (9, .ptr 9 0)], [(24, .box 22 [.d (cl L)]), (9, .box 30 [.rw 31 i]), (31, .row 2 1 (((cns L).reverse.take i).map nds) false)]⟩⟩ (backward_it L hlL) (by kernel_rfl) (fun x hx => backs_mem hx) ?_ ?_ ?_ ?_
  · exact ⟨_, ⟨Nat.zero_le _, rfl⟩, [.cell 9 0 31 2 1], _, rfl, by simp⟩
  · rintro i σ ⟨_, rfl⟩
    simp
  · rintro i x σ ⟨hi, rfl⟩ hx
    have hlt : i < L.length := by rw [← backs_len]; exact lt_some hx
    have hk : L.length - 1 - i < L.length := by omega
    obtain ⟨y, hy, ey⟩ := at_lt hk
    have hx2 : some x = some [.i ((L.length : Int) - 1 - i), y.pv] := by
      rw [← hx]
      show (backs L)[i]? = _
      rw [backs_at hlt, getD_some hy]
    obtain rfl := Option.some.inj hx2
    have e5 : min i L.length = i := by omega
    simp [e5]
    refine ⟨by omega, _, ⟨hlt, rfl⟩, [], _, rfl, ?_⟩
    simp [e5]
    rw [List.take_add_one, List.getElem?_reverse (by simpa using hlt)]
    simp [hy]
  · rintro σ ⟨h0, rfl⟩
    simp [backs_len]
    refine vcRet_of [] ?_ rfl
    simp [usable, hc, hL]
    rw [List.take_of_length_le (i := L.length) (l := List.take L.length _) (by simp)]
    exact List.take_of_length_le (by simp)
end Go.Proofs.Ytjbpkibhkaagjaa
