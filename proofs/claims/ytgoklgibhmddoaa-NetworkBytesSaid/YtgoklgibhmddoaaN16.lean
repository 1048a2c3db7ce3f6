/- Contracts: network 16. No condition. -/
import Derived.Test.YtgoklgibhmddoaaN11
import Derived.Test.YtgoklgibhmddoaaN8
import Derived.Test.YtgoklgibhmddoaaN7
import Derived.Test.YtgoklgibhmddoaaN13
namespace Go.Proofs.Ytgoklgibhmddoaa

theorem strs_app (a b : List Int) : strOfNums a ++ strOfNums b = strOfNums (a ++ b) := by
  apply ByteArray.ext
  simp [strOfNums]
theorem strs_size (a : List Int) : (strOfNums a).size = a.length := by simp [strOfNums, ByteArray.size]
/-- A connection of whose bytes some were read. -/
def rC (c : Cn) (k : Nat) : Cn := { c with dn := { c.dn with ar := c.dn.ar.drop k } }
def rS (s : Nw) (n : Int) (c : Cn) (k : Nat) : Nw := ⟨s.now, s.next, s.plans, s.conns.set (findE s n).1.toNat (rC c k)⟩
theorem set_same {α : Type} {l : List α} {i : Nat} {x : α} (h : l[i]? = some x) : l.set i x = l := by
  apply List.ext_getElem?
  intro j
  rw [List.getElem?_set]
  split
  · rename_i e; subst e
    obtain ⟨h1, rfl⟩ := List.getElem?_eq_some_iff.1 h
    simp [h1]
  · rfl
theorem rS_zero {s : Nw} {n : Int} {c : Cn} {p : Pl} (A : AtC s n c p) : rS s n c 0 = s := by
  unfold rS rC
  rw [show ({ c with dn := { c.dn with ar := c.dn.ar.drop 0 } } : Cn) = c from rfl, set_same A.get]
theorem rS_ok {s : Nw} {n : Int} {c : Cn} {p : Pl} (h : NOk s) (A : AtC s n c p) (k : Nat) (hs : c.status = 1) : NOk (rS s n c k) := by
  have hc := h.cs c (List.mem_of_getElem? A.get)
  refine h.set A.get rfl ⟨hc.id, hc.be, hc.st, hc.bo, hc.bn, hc.rd, hc.se, hc.up, ⟨hc.dn.ord, hc.dn.tge, hc.dn.tz, hc.dn.ee, hc.dn.dd, hc.dn.fin, hc.dn.tms, hc.dn.er, hc.dn.dr, hc.dn.tr, ?_⟩, fun e => ?_, hc.sn, hc.s1, fun e => ?_, fun e _ => absurd hs e⟩
  · have := hc.dn.long
    unfold Dr.n at this ⊢
    simp only [rC, List.length_drop]; omega
  · have := hc.rst e
    simp [rC, this]
  · have e : c.status = 3 := e
    omega
theorem idx_ids {n : Int} : ∀ {l l' : List Cn} {k : Int}, l.map Cn.id = l'.map Cn.id → idx (fun c : Cn => decide (c.id = n)) l k = idx (fun c : Cn => decide (c.id = n)) l' k
  | [], [], _, _ => rfl
  | [], _ :: _, _, h => by simp at h
  | _ :: _, [], _, h => by simp at h
  | a :: l, b :: l', k, h => by
    simp only [List.map_cons, List.cons.injEq] at h
    unfold idx
    rw [h.1, idx_ids h.2]
theorem rS_find {s : Nw} {n : Int} {c : Cn} {p : Pl} (h : NOk s) (A : AtC s n c p) (k : Nat) (hs : c.status = 1) : findE (rS s n c k) n = findE s n := by
  have h1 : chk (rS s n c k) = 0 := nok_iff.2 (rS_ok h A k hs)
  have h2 : (rS s n c k).conns.map Cn.id = s.conns.map Cn.id := by
    show (s.conns.set _ (rC c k)).map Cn.id = _
    rw [List.map_set]
    exact set_same (by rw [List.getElem?_map, A.get]; rfl)
  unfold findE
  rw [h1, A.ck, idx_ids h2]
theorem rS_at {s : Nw} {n : Int} {c : Cn} {p : Pl} (h : NOk s) (A : AtC s n c p) (k : Nat) (hs : c.status = 1) : cnAt (rS s n c k) n = rC c k := by
  refine cnAt_find ?_
  rw [rS_find h A k hs]
  show (s.conns.set _ (rC c k))[(findE s n).1.toNat]? = _
  rw [List.getElem?_set]
  simp [A.lt]
def wantE (c : Cn) : Int := if c.dn.d = 1 then 121 else if c.dn.d = 2 then 120 else 10
theorem read_hit {s : Nw} {n m : Int} {c : Cn} {p : Pl} (h : NOk s) (A : AtC s n c p) {k : Nat} (hs : c.status = 1) (hk : k < c.dn.ar.length) (hm : 1 ≤ m) :
    readS (rS s n c k) n m = (rS s n c (k + (min m (c.dn.ar.length - k : Nat)).toNat), (c.dn.ar.drop k).take (min m (c.dn.ar.length - k : Nat)).toNat, 0) := by
  have hf := rS_find h A k hs
  have hat := rS_at h A k hs
  have hlen : (rC c k).dn.ar.length = c.dn.ar.length - k := by simp [rC]
  have hr : readF m (rC c k) = (0, (c.dn.ar.drop k).take (min m (c.dn.ar.length - k : Nat)).toNat, rC c (k + (min m (c.dn.ar.length - k : Nat)).toNat)) := by
    unfold readF
    rw [if_neg (by omega), if_pos (by omega), hlen]
    simp [rC, List.drop_drop]
  unfold readS
  rw [changeS_ok (by rw [hf]; exact A.fe) (by rw [hat]; simp [rC, hs]) (by rw [hat]; simp only [hr]), hat]
  simp only [hr, hf]
  unfold rS
  simp [List.set_set]
theorem read_miss {s : Nw} {n m : Int} {c : Cn} {p : Pl} (h : NOk s) (A : AtC s n c p) {k : Nat} (hs : c.status = 1) (hk : c.dn.ar.length ≤ k) (hm : 1 ≤ m) :
    readS (rS s n c k) n m = (rS s n c k, [], wantE c) := by
  have hf := rS_find h A k hs
  have hat := rS_at h A k hs
  have hlen : (rC c k).dn.ar.length = c.dn.ar.length - k := by simp [rC]
  have hr : readF m (rC c k) = (wantE c, [], rC c k) := by
    unfold readF wantE
    rw [if_neg (by omega), if_neg (by omega)]
    have hd : (rC c k).dn.d = c.dn.d := rfl
    rw [hd]
    by_cases h1 : c.dn.d = 1
    · simp [h1]
    · by_cases h2 : c.dn.d = 2 <;> simp [h1, h2]
  have hw : wantE c ≠ 0 := by unfold wantE; split <;> (try split) <;> decide
  unfold readS
  rw [changeS_err (by rw [hf]; exact A.fe) (by rw [hat]; simp [rC, hs]) (by rw [hat]; simp only [hr]; exact hw), hat]
  simp [hr, hw]
theorem read_none {s : Nw} {n m : Int} (h : (findE s n).2 ≠ 0) : readS s n m = (s, [], (findE s n).2) := by
  have : changeS s n [1] (fun c _ => ((readF m c).1, (readF m c).2.2)) = (s, (findE s n).2) := by unfold changeS; rw [if_pos h]
  unfold readS
  rw [this]
  simp [h]
theorem read_down {s : Nw} {n m : Int} (h : (findE s n).2 = 0) (hs : (cnAt s n).status ≠ 1) : readS s n m = (s, [], 9) := by
  unfold readS
  rw [changeS_down h (by simpa using hs)]
  simp
theorem find_err {s : Nw} {n : Int} (h : chk s = 0) (hf : (findE s n).2 ≠ 0) : (findE s n).2 = 4 := by
  unfold findE at hf ⊢
  rw [if_neg (by simp [h])] at hf ⊢
  split
  · rfl
  · rename_i h1; rw [if_neg h1] at hf; exact absurd rfl hf
end Go.Proofs.Ytgoklgibhmddoaa
namespace Go.Proofs.Ytgoklgibhmddoaa
open Go.RowKit
set_option maxRecDepth 100000

set_option maxHeartbeats 16000000 in
theorem lawReads_m (x : Sp) (hx : x.Ok) (conn : Int) (sizes : List Int) (hsz : ∀ z ∈ sizes, 0 ≤ z ∧ z ≤ 255) : Meets Try.prog 6 [x.pv, .i conn, .d (bs sizes)] [] (Ret (.b true)) := by
  refine meetsP [(138, [.only [1, 9, 14, 15] [9, 14]])] tbOk mixed Try.func6 pl6 rfl rfl ?_
  simp [Try.ntmps6, -vc_seq]
  rw [vc_seq]
  simp [-vc_seq]
  rw [vc_seq]
  simp [-vc_seq]
  refine (played_m x.plans x.acts hx.1 hx.2.1 hx.2.2).mono ?_
  rintro _ rfl
  cases hp : (playS x.plans x.acts).2
  case false =>
    simp
    refine awake_m.mono ?_
    rintro _ rfl
    simp
    exact vcRet_of [] (by simp) rfl
  obtain ⟨hs0, _, _⟩ := play_ok hp
  generalize (playS x.plans x.acts).1 = s at hs0
  by_cases h30 : (30 : Int) < sizes.length
  · simp [h30]
    refine awake_m.mono ?_
    rintro _ rfl
    simp
    exact vcRet_of [] (by simp) rfl
  have hck : chk s = 0 := nok_iff.2 hs0
  have hf := fits_of hck
  simp [-vc_seq]
  rw [vc_seq, vc_seq]
  simp [h30, -vc_seq]
  rw [vc_seq]
  simp [-vc_seq]
  refine (Find_m s hf conn).mono ?_
  rintro _ rfl
  by_cases hfe : (findE s conn).2 = 0
  case neg =>
    have h4 := find_err hck hfe
    simp [h4, cn_explicit default]
    refine (Read_m s hf conn 1).mono ?_
    rintro _ rfl
    rw [read_none hfe, h4]
    simp
    refine awake_m.mono ?_
    rintro _ rfl
    simp
    exact vcRet_of [] (by simp) rfl
  obtain ⟨c, p, A⟩ := at_of hf hfe
  by_cases hs : c.status = 1
  case neg =>
    simp [hfe, A.cn, cn_explicit c, hs]
    refine (Read_m s hf conn 1).mono ?_
    rintro _ rfl
    rw [read_down hfe (by rw [A.cn]; exact hs)]
    simp
    refine awake_m.mono ?_
    rintro _ rfl
    simp
    exact vcRet_of [] (by simp) rfl
  have hal : c.dn.ar.length ≤ 1048576 := by have := A.dnN; unfold Dr.n at this; omega
  have hw0 : wantE c ≠ 0 := by unfold wantE; split <;> (try split) <;> decide
  have hfk : ∀ k, Fits (rS s conn c k) := fun k => fits_of (nok_iff.2 (rS_ok hs0 A k hs))
  simp [hfe, A.cn, -vc_seq]
  rw [vc_seq, vc_seq]
  simp [hs, -vc_seq]
  rw [vc_seq]
  simp [-vc_seq]
  rw [vc_seq]
  simp [-vc_seq]
  refine vc_cut (fun σ' => ∃ k : Nat, k ≤ c.dn.ar.length ∧ Prep.run σ' (.only [1, 9, 14, 15] [9, 14]) = some ⟨190, [(1, .i conn), (9, .ptr 9 0), (14, .ptr 14 0), (15, .d (.v (.string (strOfNums (c.dn.ar.take k)))))], [(9, .box 67 (c.ds.map .d)), (14, (rS s conn c k).box)]⟩) ?_ ?_
  case refine_2 =>
    intro T' hT
    simp
    refine vc_loop (fun m σ => ∃ i : Nat, m = sizes.length - i ∧ i ≤ sizes.length ∧ ∃ k : Nat, k ≤ c.dn.ar.length ∧ σ = ⟨190, [(16, .i i), (1, .i conn), (2, .d (bs sizes)), (9, .ptr 9 0), (14, .ptr 14 0), (15, .d (.v (.string (strOfNums (c.dn.ar.take k)))))], [(9, .box 67 (c.ds.map .d)), (14, (rS s conn c k).box)]⟩) ?_ ?_
    · exact ⟨_, _, ⟨0, rfl, Nat.zero_le _, 0, Nat.zero_le _, rfl⟩, [], _, rfl, by simp [rS_zero A, cn_explicit c, strOfNums, hs]⟩
    rintro m σ ⟨i, rfl, hi, k, hk, rfl⟩
    by_cases hlt : i < sizes.length
    case neg =>
      obtain rfl : i = sizes.length := by omega
      simp
      exact hT _ ⟨k, hk, by simp [Prep.run]⟩
    obtain ⟨z, hz, ez⟩ := at_lt hlt
    have hzb := hsz z (List.mem_of_getElem? hz)
    have w1 : IntKind.i64.wrap z = z := IntWalk.i64_in _ (by omega)
    have w2 : IntKind.i64.wrap (1 + z) = 1 + z := IntWalk.i64_in _ (by omega)
    simp [hlt, ez, w1, w2]
    refine effCall (Read_m (rS s conn c k) (hfk k) conn (1 + z)) ?_
    by_cases hkl : k < c.dn.ar.length
    · rw [read_hit hs0 A hs hkl (by omega)]
      have hj0 : 0 < (min (1 + z) (c.dn.ar.length - k : Nat)).toNat := by omega
      have hj1 : ((min (1 + z) (c.dn.ar.length - k : Nat)).toNat : Int) ≤ 1 + z := by omega
      have hj2 : (min (1 + z) (c.dn.ar.length - k : Nat)).toNat ≤ c.dn.ar.length - k := by omega
      generalize (min (1 + z) (c.dn.ar.length - k : Nat)).toNat = j at hj0 hj1 hj2
      have hmin : min j (c.dn.ar.length - k) = j := by omega
      have hl1 : ¬ (j : Int) < 1 := by omega
      have hl2 : ¬ 1 + z < (j : Int) := by omega
      have hsize : (strOfNums (c.dn.ar.take k)).size + (strOfNums ((c.dn.ar.drop k).take j)).size ≤ 4611686018427387904 := by
        rw [strs_size, strs_size]; simp only [List.length_take, List.length_drop]; omega
      have happ : strOfNums (c.dn.ar.take k) ++ strOfNums ((c.dn.ar.drop k).take j) = strOfNums (c.dn.ar.take (k + j)) := by rw [strs_app, List.take_add]
      have hnum : numsOf (((c.dn.ar.map u8s).drop k).take j) = some ((c.dn.ar.drop k).take j) := by rw [← List.map_drop, nums_take]
      simp [hlt, ez, w1, w2, hmin, hl1, hl2, hsize, happ, hnum, wrap_succ hlt (show sizes.length < 4294967296 by omega)]
      refine ⟨by kernel_rfl, ?_⟩
      exact ⟨_, by omega, _, ⟨i + 1, rfl, hlt, k + j, by omega, rfl⟩, [], _, rfl, by simp [hs]⟩
    · obtain rfl : k = c.dn.ar.length := by omega
      rw [read_miss hs0 A hs (Nat.le_refl _) (by omega)]
      simp [hw0]
      refine ⟨by kernel_rfl, ?_⟩
      refine (same_m (rS s conn c c.dn.ar.length) (hfk _)).mono ?_
      rintro _ rfl
      simp
      exact hT _ ⟨c.dn.ar.length, Nat.le_refl _, by simp [Prep.run, cn_explicit c, hs]⟩
  rintro σ' ⟨k, hk, h⟩
  simp [h]
  refine (Read_m (rS s conn c k) (hfk k) conn 1048576).mono ?_
  rintro _ rfl
  by_cases hkl : k < c.dn.ar.length
  · rw [read_hit hs0 A hs hkl (by omega)]
    have hj : (min (1048576 : Int) (c.dn.ar.length - k : Nat)).toNat = c.dn.ar.length - k := by omega
    rw [hj, show k + (c.dn.ar.length - k) = c.dn.ar.length by omega, show (c.dn.ar.drop k).take (c.dn.ar.length - k) = c.dn.ar.drop k from List.take_of_length_le (by simp)]
    simp
    refine (Read_m (rS s conn c c.dn.ar.length) (hfk _) conn 1).mono ?_
    rintro _ rfl
    rw [read_miss hs0 A hs (Nat.le_refl _) (by omega)]
    have hsize : (strOfNums (c.dn.ar.take k)).size + (strOfNums (c.dn.ar.drop k)).size ≤ 4611686018427387904 := by
      rw [strs_size, strs_size]; simp only [List.length_take, List.length_drop]; omega
    have happ : strOfNums (c.dn.ar.take k) ++ strOfNums (c.dn.ar.drop k) = strOfNums c.dn.ar := by rw [strs_app, List.take_append_drop]
    have hnum : numsOf ((c.dn.ar.map u8s).drop k) = some (c.dn.ar.drop k) := by rw [← List.map_drop]; exact nums_u8 _
    have hl0 : 0 < c.dn.ar.length - k := by omega
    by_cases h1 : c.dn.d = 1
    · simp [wantE, h1, hs, hsize, happ, hnum, hl0]
      refine awake_m.mono ?_
      rintro _ rfl
      simp
      exact vcRet_of [] (by simp) rfl
    by_cases h2 : c.dn.d = 2
    · simp [wantE, h2, hs, hsize, happ, hnum, hl0]
      refine awake_m.mono ?_
      rintro _ rfl
      simp
      exact vcRet_of [] (by simp) rfl
    · simp [wantE, h1, h2, hs, hsize, happ, hnum, hl0]
      refine awake_m.mono ?_
      rintro _ rfl
      simp
      exact vcRet_of [] (by simp) rfl
  · obtain rfl : k = c.dn.ar.length := by omega
    rw [read_miss hs0 A hs (Nat.le_refl _) (by omega)]
    simp
    refine (Read_m (rS s conn c c.dn.ar.length) (hfk _) conn 1).mono ?_
    rintro _ rfl
    rw [read_miss hs0 A hs (Nat.le_refl _) (by omega)]
    have hsize : (strOfNums c.dn.ar).size + (strOfNums []).size ≤ 4611686018427387904 := by
      rw [strs_size, strs_size]; simp only [List.length_nil]; omega
    have happ : strOfNums c.dn.ar ++ strOfNums [] = strOfNums c.dn.ar := by rw [strs_app, List.append_nil]
    by_cases h1 : c.dn.d = 1
    · simp [wantE, h1, hs, hsize, happ, numsOf]
      refine awake_m.mono ?_
      rintro _ rfl
      simp
      exact vcRet_of [] (by simp) rfl
    by_cases h2 : c.dn.d = 2
    · simp [wantE, h2, hs, hsize, happ, numsOf]
      refine awake_m.mono ?_
      rintro _ rfl
      simp
      exact vcRet_of [] (by simp) rfl
    · simp [wantE, h1, h2, hs, hsize, happ, numsOf]
      refine awake_m.mono ?_
      rintro _ rfl
      simp
      exact vcRet_of [] (by simp) rfl
end Go.Proofs.Ytgoklgibhmddoaa
