/- The pool: contracts, third part. No condition. -/
import Derived.Test.YtajjmhpdiikjhaaGreatN6
namespace Go.Proofs.YtajjmhpdiikjhaaGreat.Po
set_option maxRecDepth 100000
open Go.RowKit

set_option maxHeartbeats 1000000 in
theorem index1L (f : Nat) (t : Nat) (v : D) (p : Ls → Bool) (xs : List Ls) (hl : xs.length < 4294967296) (hp : ∀ x ∈ xs, Meets Tryz.prog f [x.pv, .ptr 1000000 0] [.box t [.d v]] (fun r => r = ⟨.b (p x), [.box t [.d v]], []⟩)) :
    Meets Tryz.prog 105 [.d (ll xs), .clo f [.ptr 1000000 0]] [.box t [.d v]] (fun r => r = ⟨.i (Wa.idx p xs 0), [.box t [.d v]], []⟩) := by
  refine meetsH [] tbOk mixed Tryz.func105 pl105 rfl rfl ?_
  simp [Tryz.ntmps105]
  refine vc_loop (fun n σ => ∃ j : Nat, n = xs.length - j ∧ j ≤ xs.length ∧ Wa.noneTo p xs j ∧ σ = ⟨19, [(8, .i j), (7, .i xs.length), (0, .d (ll xs)), (1, .clo f [.ptr 1000000 0])], [(1000000, .box t [.d v])]⟩) ?_ ?_
  · exact ⟨_, _, ⟨0, rfl, Nat.zero_le _, Wa.noneTo_zero _ _, rfl⟩, [], _, rfl, by simp⟩
  rintro n σ ⟨j, rfl, hk, hno, rfl⟩
  by_cases hlt : j < xs.length
  · obtain ⟨x, hx, e⟩ := at_lt hlt
    simp [hlt, e]
    refine (hp x (List.mem_of_getElem? hx)).mono ?_
    rintro _ rfl
    cases hpx : p x
    · simp [wrap_succ hlt hl]
      refine ⟨_, ?_, _, ⟨j + 1, rfl, hlt, Wa.noneTo_succ hno hx hpx, rfl⟩, [], _, rfl, by simp⟩
      omega
    · simp
      refine vcRet_of [] ?_ rfl
      rw [Wa.idx_hit p xs j x hx hpx hno]
      simp
  · obtain rfl : j = xs.length := by omega
    simp
    refine vcRet_of [] ?_ rfl
    rw [Wa.idx_miss p xs hno]
    simp
theorem conn1L_m (x : Ls) (n : Int) : Meets Tryz.prog 58 [x.pv, .ptr 1000000 0] [.box 2 [.i n]] (fun r => r = ⟨.b (x.conn == n), [.box 2 [.i n]], []⟩) := by
  refine meetsH [] tbOk mixed Tryz.func58 pl58 rfl rfl ?_
  simp [Tryz.ntmps58]
  refine vcRet_of [] ?_ rfl
  simp
  rfl
theorem conn1I_m (x : Id.Cn) (n : Int) : Meets Tryz.prog 60 [x.pv, .ptr 1000000 0] [.box 2 [.i n]] (fun r => r = ⟨.b (x.conn == n), [.box 2 [.i n]], []⟩) := by
  refine meetsH [] tbOk mixed Tryz.func60 pl60 rfl rfl ?_
  simp [Tryz.ntmps60]
  refine vcRet_of [] ?_ rfl
  simp
  rfl
theorem containsL_m (xs : List Ls) (n : Int) (hl : xs.length < 4294967296) : Meets Tryz.prog 57 [.d (ll xs), .clo 58 [.ptr 1000000 0]] [.box 2 [.i n]] (fun r => r = ⟨.b (xs.any fun x => x.conn == n), [.box 2 [.i n]], []⟩) := by
  refine meetsH [] tbOk mixed Tryz.func57 pl57 rfl rfl ?_
  simp [Tryz.ntmps57]
  refine (index1L 58 2 (.v (.int .i64 n)) (fun x => x.conn == n) xs hl (fun x _ => conn1L_m x n)).mono ?_
  rintro _ rfl
  simp
  refine vcRet_of [] ?_ rfl
  rw [← Wa.idx_any (fun x : Ls => x.conn == n) xs 0 (by omega)]
  simp
theorem containsI_m (xs : List Id.Cn) (n : Int) (hl : xs.length < 4294967296) : Meets Tryz.prog 59 [.d (Id.cl xs), .clo 60 [.ptr 1000000 0]] [.box 2 [.i n]] (fun r => r = ⟨.b (xs.any fun x => x.conn == n), [.box 2 [.i n]], []⟩) := by
  refine meetsH [] tbOk mixed Tryz.func59 pl59 rfl rfl ?_
  simp [Tryz.ntmps59]
  refine (Id.indexFunc_1 60 2 (.v (.int .i64 n)) (fun x => x.conn == n) xs hl (fun x _ => conn1I_m x n)).mono ?_
  rintro _ rfl
  simp
  refine vcRet_of [] ?_ rfl
  rw [← Id.idx_any (fun x : Id.Cn => x.conn == n) xs 0 (by omega)]
  simp
theorem passS_back (s : Po) : (passS s).1.back = s.back := by unfold passS; split <;> rfl
set_option maxHeartbeats 8000000 in
theorem dialled1_m {s : Po} (h : Fine s) (c n : Int) (ok : Bool) : ∃ S R es, ((dialledK s c n ok).2.2.2 = 0 → S = (dialledK s c n ok).1 ∧ R = (dialledK s c n ok).2.1 ∧ es = (dialledK s c n ok).2.2.1) ∧
    Meets Tryz.prog 53 [.ptr 1000000 0, .ptr 1000001 0, .ptr 1000002 0, .ptr 1000003 0, .ptr 1000004 0] [evb s Rs.z PV.nil, .box 2 [.i c], .box 4 [.b ok], .box 2 [.i n], sbox s] (fun z => z = ⟨.i (dialledK s c n ok).2.2.2, [evb S R (.d (el es)), .box 2 [.i c], .box 4 [.b ok], .box 2 [.i n], sbox s], []⟩) := by
  refine ⟨(dialledK s c n ok).1, if (dialledK s c n ok).2.2.2 = 0 then (dialledK s c n ok).2.1 else Rs.z, (dialledK s c n ok).2.2.1, fun h0 => ⟨rfl, if_pos h0, rfl⟩, ?_⟩
  refine meetsH [] tbOk mixed Tryz.func53 pl53 rfl rfl ?_
  simp [Tryz.ntmps53]
  refine (number_m c).mono ?_
  rintro _ rfl
  cases hc : numOk c
  · simp
    refine vcRet_of [] ?_ rfl
    simp [dialledK, hc, bad, Rs.z]
  have drop_ := dropD_m s.ds h.f.du c (by have := h.f.dlen; omega)
  have hL := containsL_m s.ls n (by have := h.f.llen; omega)
  have hI := containsI_m s.idle.cs n (by have := h.f.ilen; omega)
  cases ok with
  | false =>
    simp
    refine drop_.mono ?_
    rintro _ rfl
    cases g1 : s.ds.any (fun x => x.call == c)
    · simp
      refine vcRet_of [] ?_ rfl
      simp [dialledK, hc, g1, bad, Rs.z]
    obtain ⟨i, x, hx, rfl⟩ := mem_keyed g1
    have hh := h.holeD hx
    rw [goneD_at h.f.du hx]
    have hK : dialledK s x.call n false = ((passS { s with ds := dropD s.ds x.call }).1, rs s (if x.gone = true then 7 else 10) 0, (passS { s with ds := dropD s.ds x.call }).2, 0) := by
      simp [dialledK, hc, g1, dialledT, findD_at h.f.du hx]
    rw [hK]
    simp
    refine hL.mono ?_
    rintro _ rfl
    have hp := passD_m hh.f Rs.z
    simp at hp
    cases b1 : s.ls.any (fun x => x.conn == n)
    · simp
      refine hI.mono ?_
      rintro _ rfl
      simp
      refine hp.mono ?_
      rintro _ rfl
      simp
      have he := end_m (passS { s with ds := dropD s.ds x.call }).1 Rs.z (el (passS { s with ds := dropD s.ds x.call }).2) 10 0
      simp at he
      refine he.mono ?_
      rintro _ rfl
      cases hg : x.gone
      · simp
        refine vcRet_of [] ?_ rfl
        simp [passS_back, rs]
      · simp
        have he := end_m (passS { s with ds := dropD s.ds x.call }).1 (rs (passS { s with ds := dropD s.ds x.call }).1 10 0) (el (passS { s with ds := dropD s.ds x.call }).2) 7 0
        simp at he
        refine he.mono ?_
        rintro _ rfl
        simp
        refine vcRet_of [] ?_ rfl
        simp [passS_back, rs]
    · simp
      refine hp.mono ?_
      rintro _ rfl
      simp
      have he := end_m (passS { s with ds := dropD s.ds x.call }).1 Rs.z (el (passS { s with ds := dropD s.ds x.call }).2) 10 0
      simp at he
      refine he.mono ?_
      rintro _ rfl
      cases hg : x.gone
      · simp
        refine vcRet_of [] ?_ rfl
        simp [passS_back, rs]
      · simp
        have he := end_m (passS { s with ds := dropD s.ds x.call }).1 (rs (passS { s with ds := dropD s.ds x.call }).1 10 0) (el (passS { s with ds := dropD s.ds x.call }).2) 7 0
        simp at he
        refine he.mono ?_
        rintro _ rfl
        simp
        refine vcRet_of [] ?_ rfl
        simp [passS_back, rs]
  | true =>
    simp
    refine (number_m n).mono ?_
    rintro _ rfl
    cases hn : numOk n
    · simp
      refine vcRet_of [] ?_ rfl
      simp [dialledK, hc, hn, bad, Rs.z]
    simp
    refine drop_.mono ?_
    rintro _ rfl
    cases g1 : s.ds.any (fun x => x.call == c)
    · simp
      refine vcRet_of [] ?_ rfl
      simp [dialledK, hc, hn, g1, bad, Rs.z]
    simp
    refine hL.mono ?_
    rintro _ rfl
    cases b1 : s.ls.any (fun x => x.conn == n)
    case true =>
      simp
      refine vcRet_of [] ?_ rfl
      simp [dialledK, hc, hn, g1, there, b1, bad, Rs.z]
    simp
    refine hI.mono ?_
    rintro _ rfl
    cases b2 : s.idle.cs.any (fun x => x.conn == n)
    case true =>
      simp
      refine vcRet_of [] ?_ rfl
      simp [dialledK, hc, hn, g1, there, b1, b2, bad, Rs.z]
    obtain ⟨i, x, hx, rfl⟩ := mem_keyed g1
    have hh := h.holeD hx
    have hxm := List.mem_of_getElem? hx
    have ht : there s n = false := by rw [there, b1, b2]; rfl
    obtain ⟨t1, t2⟩ := there_not ht
    have hnow := (timeOk_iff.1 h.f.n.now).1
    rw [goneD_at h.f.du hx]
    have hK : dialledK s x.call n true = if x.gone = true then ((giveS { s with ds := dropD s.ds x.call } n s.now true).1, rs s 7 0, (giveS { s with ds := dropD s.ds x.call } n s.now true).2, 0)
        else if s.shut = true then ({ s with ds := dropD s.ds x.call }, rs s 6 0, [ef s 11 0 n], 0)
        else ({ s with ds := dropD s.ds x.call, ls := insL s.ls ⟨x.call, n, s.now⟩ }, rs s 1 n, [], 0) := by
      simp [dialledK, hc, hn, g1, ht, dialledT, findD_at h.f.du hx]
    rw [hK]
    cases hg : x.gone
    case true =>
      simp
      have hgv := give_m hh Rs.z (c := n) (b := s.now) true hn ⟨hnow, Int.le_refl _⟩ t2
      simp at hgv
      refine hgv.mono ?_
      rintro _ rfl
      simp
      have he := end_m (giveS { s with ds := dropD s.ds x.call } n s.now true).1 Rs.z (el (giveS { s with ds := dropD s.ds x.call } n s.now true).2) 7 0
      simp at he
      refine he.mono ?_
      rintro _ rfl
      simp
      refine vcRet_of [] ?_ rfl
      simp [rs]
    by_cases hs : s.shut = true
    · simp [hs]
      have hsay := sayD_m { s with ds := dropD s.ds x.call } Rs.z 11 0 n
      simp [hs] at hsay
      refine hsay.mono ?_
      rintro _ rfl
      simp
      have he := end_m { s with ds := dropD s.ds x.call } Rs.z (el [ef s 11 0 n]) 6 0
      simp [hs, ef] at he
      simp [ef]
      refine he.mono ?_
      rintro _ rfl
      simp
      refine vcRet_of [] ?_ rfl
      simp [rs]
    · simp [hs]
      have hls := lease_m { s with ds := dropD s.ds x.call } Rs.z (.v (.slice none 0 0)) h.f.lu (by have := h.f.llen; show s.ls.length < _; omega) x.call n s.now
      simp [hs] at hls
      refine hls.mono ?_
      rintro _ rfl
      simp
      have he := end_m { s with ds := dropD s.ds x.call, ls := insL s.ls ⟨x.call, n, s.now⟩ } Rs.z (.v (.slice none 0 0)) 1 n
      simp [hs] at he
      refine he.mono ?_
      rintro _ rfl
      simp
      refine vcRet_of [] ?_ rfl
      simp [rs]
end Go.Proofs.YtajjmhpdiikjhaaGreat.Po
namespace Go.Proofs.YtajjmhpdiikjhaaGreat.Po
set_option maxRecDepth 100000
open Go.RowKit

set_option maxHeartbeats 4000000 in
theorem tick1_m {s : Po} (h : Fine s) (n : Int) : ∃ S R es, ((tickK s n).2.2.2 = 0 → S = (tickK s n).1 ∧ R = (tickK s n).2.1 ∧ es = (tickK s n).2.2.1) ∧
    Meets Tryz.prog 83 [.ptr 1000000 0, .ptr 1000001 0, .ptr 1000002 0] [evb s Rs.z PV.nil, .box 2 [.i n], sbox s] (fun z => z = ⟨.i (tickK s n).2.2.2, [evb S R (.d (el es)), .box 2 [.i n], sbox s], []⟩) := by
  refine ⟨(tickK s n).1, if (tickK s n).2.2.2 = 0 then (tickK s n).2.1 else Rs.z, (tickK s n).2.2.1, fun h0 => ⟨rfl, if_pos h0, rfl⟩, ?_⟩
  refine meetsH [] tbOk mixed Tryz.func83 pl83 rfl rfl ?_
  simp [Tryz.ntmps83]
  refine (time_m n).mono ?_
  rintro _ rfl
  cases hn : timeOk n
  · simp
    refine vcRet_of [] ?_ rfl
    simp [tickK, hn, bad, Rs.z]
  by_cases hl : n < s.now
  · simp [hl]
    refine vcRet_of [] ?_ rfl
    simp [tickK, hn, hl, bad, Rs.z]
  simp [hl]
  have hn2 := timeOk_iff.1 hn
  have hw := Wa.expire_m s.wt n (by have := h.f.wlen; omega)
  rw [(h.f.wtAt.later (by omega) hn2.2).expire] at hw
  simp at hw
  refine hw.mono ?_
  rintro _ rfl
  simp
  have hi := Id.reap_m s.idle n (by have := h.f.ilen; omega)
  rw [(h.f.idAt.later (by omega) hn2.2).reap] at hi
  simp at hi
  refine hi.mono ?_
  rintro _ rfl
  simp
  refine ⟨by kernel_rfl, ?_⟩
  have hla := late_m { s with now := n, wt := ⟨s.wt.most, s.wt.ws.filter fun x => decide (n < x.dead)⟩, idle := ⟨s.idle.most, s.idle.idle, s.idle.age, Id.left s.idle n⟩ } Rs.z 5 (s.wt.ws.filter fun x => !decide (n < x.dead)) (Id.shut s.idle n) (by have := h.f.wlen; have := List.length_filter_le (fun x : Wa.Wt => !decide (n < x.dead)) s.wt.ws; omega) (by have := h.f.ilen; have := List.length_filter_le (fun x => !Id.good s.idle.idle s.idle.age n x) s.idle.cs; simp only [Id.shut, List.length_map]; omega)
  simp at hla
  refine hla.mono ?_
  rintro _ rfl
  simp
  refine vcRet_of [] ?_ rfl
  simp [tickK, hn, hl, rs, lateE, ef]
theorem wdrain {s : Po} (h : Form s) : Wa.drain s.wt = (⟨s.wt.most, []⟩, s.wt.ws, 0) := by rw [Wa.drain, if_neg (by rw [h.n.wt]; simp)]
theorem idrain {s : Po} (h : Form s) : Id.drain s.idle = (⟨s.idle.most, s.idle.idle, s.idle.age, []⟩, s.idle.cs.map Id.Cn.conn, 0) := by rw [Id.drain, if_neg (by rw [h.n.idle]; simp)]
set_option maxHeartbeats 4000000 in
theorem shut1_m {s : Po} (h : Fine s) : ∃ S R es, ((shutK s).2.2.2 = 0 → S = (shutK s).1 ∧ R = (shutK s).2.1 ∧ es = (shutK s).2.2.1) ∧
    Meets Tryz.prog 49 [.ptr 1000000 0, .ptr 1000001 0] [evb s Rs.z PV.nil, sbox s] (fun z => z = ⟨.i (shutK s).2.2.2, [evb S R (.d (el es)), sbox s], []⟩) := by
  refine ⟨(shutK s).1, (shutK s).2.1, (shutK s).2.2.1, fun h0 => ⟨rfl, rfl, rfl⟩, ?_⟩
  refine meetsH [] tbOk mixed Tryz.func49 pl49 rfl rfl ?_
  simp [Tryz.ntmps49]
  have hw := Wa.drain_m s.wt (by have := h.f.wlen; omega)
  rw [wdrain h.f] at hw
  simp at hw
  refine hw.mono ?_
  rintro _ rfl
  simp
  have hi := Id.drain_m s.idle (by have := h.f.ilen; omega)
  rw [idrain h.f] at hi
  simp at hi
  refine hi.mono ?_
  rintro _ rfl
  simp
  refine ⟨by kernel_rfl, ?_⟩
  have hla := late_m { s with shut := true, wt := ⟨s.wt.most, []⟩, idle := ⟨s.idle.most, s.idle.idle, s.idle.age, []⟩ } Rs.z 6 s.wt.ws (s.idle.cs.map Id.Cn.conn) (by have := h.f.wlen; omega) (by have := h.f.ilen; rw [List.length_map]; omega)
  simp at hla
  refine hla.mono ?_
  rintro _ rfl
  simp
  refine vcRet_of [] ?_ rfl
  simp [shutK, rs, lateE, ef]
set_option maxHeartbeats 4000000 in
/-- What is deferred: without an error the results are what has become of the event. -/
theorem do1_m (t S : Po) (r R : Rs) (es : List Ef) : MeetsD Tryz.prog 96 [.ptr 1000000 0, .ptr 1000001 0, .ptr 1000002 0, .ptr 1000003 0, .ptr 1000004 0]
    [.box 38 [.i 0], .box 94 [.ptr 1000005 0], sbox t, .box 36 [.i r.kind, .i r.back, .i r.conn], .box 37 [PV.nil], evb S R (.d (el es))]
    (fun z => z = ⟨.tup [], [.box 38 [.i 0], .box 94 [.ptr 1000005 0], sbox S, .box 36 [.i R.kind, .i R.back, .i R.conn], .box 37 [.d (el es)], evb S R (.d (el es))], []⟩) := by
  refine meetsDH [] tbOk mixed Tryz.func96 pl96 rfl rfl rfl ?_
  simp [Tryz.ntmps96]
  refine ⟨by kernel_rfl, ?_⟩
  refine vcRet_of [] ?_ rfl
  simp
theorem do1e_m (e : Int) (h : e ≠ 0) (t S : Po) (r R : Rs) (q : D) : MeetsD Tryz.prog 96 [.ptr 1000000 0, .ptr 1000001 0, .ptr 1000002 0, .ptr 1000003 0, .ptr 1000004 0]
    [.box 38 [.i e], .box 94 [.ptr 1000005 0], sbox t, .box 36 [.i r.kind, .i r.back, .i r.conn], .box 37 [PV.nil], evb S R (.d q)]
    (fun z => z = ⟨.tup [], [.box 38 [.i e], .box 94 [.ptr 1000005 0], sbox t, .box 36 [.i r.kind, .i r.back, .i r.conn], .box 37 [PV.nil], evb S R (.d q)], []⟩) := by
  refine meetsDH [] tbOk mixed Tryz.func96 pl96 rfl rfl rfl ?_
  simp [Tryz.ntmps96, h]
  refine vcRet_of [] ?_ rfl
  simp
end Go.Proofs.YtajjmhpdiikjhaaGreat.Po
namespace Go.Proofs.YtajjmhpdiikjhaaGreat.Po
set_option maxRecDepth 100000
open Go.RowKit

/-- Lists that a machine can hold. -/
structure Held (s : Po) : Prop where
  i : s.idle.cs.length < 4294967290
  l : s.ls.length < 4294967290
  d : s.ds.length < 4294967290
  w : s.wt.ws.length < 4294967290
theorem chk_ok {s : Po} : chk s = 0 ↔ Fine s := by unfold chk; split <;> simp_all
/-- Done, or an error and nothing. -/
def OkOut (s : Po) (o : Out) : Prop := o.2.2.2 = 0 ∨ o = bad s o.2.2.2
theorem OkOut.ite {s : Po} {p : Prop} [Decidable p] {a b : Out} (ha : OkOut s a) (hb : OkOut s b) : OkOut s (if p then a else b) := by split <;> assumption
theorem OkOut.bad {s : Po} {e : Int} : OkOut s (bad s e) := .inr rfl
theorem OkOut.ok {s t : Po} {r : Rs} {l : List Ef} : OkOut s (t, r, l, 0) := .inl rfl
theorem ask_ok (s : Po) (c d : Int) : OkOut s (askK s c d) := by
  unfold askK
  repeat' (first | exact .bad | exact .ok | refine .ite ?_ ?_)
theorem dialled_ok (s : Po) (c n : Int) (ok : Bool) : OkOut s (dialledK s c n ok) := by
  unfold dialledK dialledT
  repeat' (first | exact .bad | exact .ok | refine .ite ?_ ?_)
theorem free_ok (s : Po) (c : Int) (re : Bool) : OkOut s (freeK s c re) := by
  unfold freeK
  repeat' (first | exact .bad | exact .ok | refine .ite ?_ ?_)
theorem cancel_ok (s : Po) (c : Int) : OkOut s (cancelK s c) := by
  unfold cancelK
  repeat' (first | exact .bad | exact .ok | refine .ite ?_ ?_)
theorem tick_ok (s : Po) (n : Int) : OkOut s (tickK s n) := by
  unfold tickK
  repeat' (first | exact .bad | exact .ok | refine .ite ?_ ?_)
theorem shut_ok (s : Po) : OkOut s (shutK s) := .ok
set_option maxHeartbeats 4000000 in
theorem doAsk_m (s : Po) (hh : Held s) (c d : Int) : Meets Tryz.prog 48 [s.pv, .clo 69 [.ptr 1000000 0, .ptr 1000001 0, .ptr 1000002 0]] [.box 2 [.i c], .box 2 [.i d], sbox s]
    (fun z => z = ⟨.tup [(ask s c d).1.pv, (ask s c d).2.1.pv, .d (el (ask s c d).2.2.1), .i (ask s c d).2.2.2], [.box 2 [.i c], .box 2 [.i d], sbox s], []⟩) := by
  refine meets_defer tbOk (drawH_ok [] tbOk mixed) Tryz.func48 pl48 rfl rfl rfl rfl rfl ?_
  simp [vcDefer, vcDeferred, Tryz.ntmps48]
  have hk := check_m s hh.i hh.l hh.d hh.w
  simp at hk
  refine hk.mono ?_
  rintro _ rfl
  by_cases hf : Fine s
  case neg =>
    have h6 : chk s = 6 := chk_bad hf
    simp [h6]
    refine ⟨by kernel_rfl, ?_⟩
    simp [kLast, vcLast]
    have hd := do1e_m 6 (by decide) s s Rs.z Rs.z (.v (.slice none 0 0))
    simp [Rs.z] at hd
    refine hd.mono ?_
    rintro _ rfl
    simp
    refine vcRet_of [] ?_ rfl
    simp [ask, guarded, hf, bad, Rs.z]
  have h0 : chk s = 0 := if_pos hf
  have ho : ask s c d = askK s c d := if_pos hf
  rw [ho]
  simp [h0]
  obtain ⟨S, R, es, ha, hm⟩ := ask1_m hf c d
  simp [Rs.z] at hm
  refine effCallN hm ?_
  simp
  refine ⟨by kernel_rfl, ?_⟩
  simp [kLast, vcLast]
  by_cases he : (askK s c d).2.2.2 = 0
  · obtain ⟨rfl, rfl, rfl⟩ := ha he
    have hd := do1_m s (askK s c d).1 Rs.z (askK s c d).2.1 (askK s c d).2.2.1
    simp [Rs.z] at hd
    rw [he]
    refine hd.mono ?_
    rintro _ rfl
    simp
    refine vcRet_of [] ?_ rfl
    simp
  · have hb := (ask_ok s c d).resolve_left he
    have hd := do1e_m (askK s c d).2.2.2 he s S Rs.z R (el es)
    simp [Rs.z] at hd
    refine hd.mono ?_
    rintro _ rfl
    simp
    refine vcRet_of [] ?_ rfl
    rw [hb]
    simp [bad, Rs.z]
theorem ask_m (s : Po) (hh : Held s) (c d : Int) : Meets Tryz.prog 29 [s.pv, .i c, .i d] [] (Ret (.tup [(ask s c d).1.pv, (ask s c d).2.1.pv, .d (el (ask s c d).2.2.1), .i (ask s c d).2.2.2])) := by
  refine meetsH [] tbOk mixed Tryz.func29 pl29 rfl rfl ?_
  simp [Tryz.ntmps29]
  have hd := doAsk_m s hh c d
  simp at hd
  refine hd.mono ?_
  rintro _ rfl
  simp
  refine vcRet_of [] ?_ rfl
  simp
set_option maxHeartbeats 4000000 in
theorem doDialled_m (s : Po) (hh : Held s) (c n : Int) (ok : Bool) : Meets Tryz.prog 48 [s.pv, .clo 53 [.ptr 1000000 0, .ptr 1000001 0, .ptr 1000002 0, .ptr 1000003 0]] [.box 2 [.i c], .box 4 [.b ok], .box 2 [.i n], sbox s]
    (fun z => z = ⟨.tup [(dialled s c n ok).1.pv, (dialled s c n ok).2.1.pv, .d (el (dialled s c n ok).2.2.1), .i (dialled s c n ok).2.2.2], [.box 2 [.i c], .box 4 [.b ok], .box 2 [.i n], sbox s], []⟩) := by
  refine meets_defer tbOk (drawH_ok [] tbOk mixed) Tryz.func48 pl48 rfl rfl rfl rfl rfl ?_
  simp [vcDefer, vcDeferred, Tryz.ntmps48]
  have hk := check_m s hh.i hh.l hh.d hh.w
  simp at hk
  refine hk.mono ?_
  rintro _ rfl
  by_cases hf : Fine s
  case neg =>
    have h6 : chk s = 6 := chk_bad hf
    simp [h6]
    refine ⟨by kernel_rfl, ?_⟩
    simp [kLast, vcLast]
    have hd := do1e_m 6 (by decide) s s Rs.z Rs.z (.v (.slice none 0 0))
    simp [Rs.z] at hd
    refine hd.mono ?_
    rintro _ rfl
    simp
    refine vcRet_of [] ?_ rfl
    simp [dialled, guarded, hf, bad, Rs.z]
  have h0 : chk s = 0 := if_pos hf
  have ho : dialled s c n ok = dialledK s c n ok := if_pos hf
  rw [ho]
  simp [h0]
  obtain ⟨S, R, es, ha, hm⟩ := dialled1_m hf c n ok
  simp [Rs.z] at hm
  refine effCallN hm ?_
  simp
  refine ⟨by kernel_rfl, ?_⟩
  simp [kLast, vcLast]
  by_cases he : (dialledK s c n ok).2.2.2 = 0
  · obtain ⟨rfl, rfl, rfl⟩ := ha he
    have hd := do1_m s (dialledK s c n ok).1 Rs.z (dialledK s c n ok).2.1 (dialledK s c n ok).2.2.1
    simp [Rs.z] at hd
    rw [he]
    refine hd.mono ?_
    rintro _ rfl
    simp
    refine vcRet_of [] ?_ rfl
    simp
  · have hb := (dialled_ok s c n ok).resolve_left he
    have hd := do1e_m (dialledK s c n ok).2.2.2 he s S Rs.z R (el es)
    simp [Rs.z] at hd
    refine hd.mono ?_
    rintro _ rfl
    simp
    refine vcRet_of [] ?_ rfl
    rw [hb]
    simp [bad, Rs.z]
theorem dialled_m (s : Po) (hh : Held s) (c n : Int) (ok : Bool) : Meets Tryz.prog 24 [s.pv, .i c, .i n, .b ok] [] (Ret (.tup [(dialled s c n ok).1.pv, (dialled s c n ok).2.1.pv, .d (el (dialled s c n ok).2.2.1), .i (dialled s c n ok).2.2.2])) := by
  refine meetsH [] tbOk mixed Tryz.func24 pl24 rfl rfl ?_
  simp [Tryz.ntmps24]
  have hd := doDialled_m s hh c n ok
  simp at hd
  refine hd.mono ?_
  rintro _ rfl
  simp
  refine vcRet_of [] ?_ rfl
  simp
set_option maxHeartbeats 4000000 in
theorem doFree_m (s : Po) (hh : Held s) (c : Int) (re : Bool) : Meets Tryz.prog 48 [s.pv, .clo 66 [.ptr 1000000 0, .ptr 1000001 0, .ptr 1000002 0]] [.box 2 [.i c], sbox s, .box 4 [.b re]]
    (fun z => z = ⟨.tup [(free s c re).1.pv, (free s c re).2.1.pv, .d (el (free s c re).2.2.1), .i (free s c re).2.2.2], [.box 2 [.i c], sbox s, .box 4 [.b re]], []⟩) := by
  refine meets_defer tbOk (drawH_ok [] tbOk mixed) Tryz.func48 pl48 rfl rfl rfl rfl rfl ?_
  simp [vcDefer, vcDeferred, Tryz.ntmps48]
  have hk := check_m s hh.i hh.l hh.d hh.w
  simp at hk
  refine hk.mono ?_
  rintro _ rfl
  by_cases hf : Fine s
  case neg =>
    have h6 : chk s = 6 := chk_bad hf
    simp [h6]
    refine ⟨by kernel_rfl, ?_⟩
    simp [kLast, vcLast]
    have hd := do1e_m 6 (by decide) s s Rs.z Rs.z (.v (.slice none 0 0))
    simp [Rs.z] at hd
    refine hd.mono ?_
    rintro _ rfl
    simp
    refine vcRet_of [] ?_ rfl
    simp [free, guarded, hf, bad, Rs.z]
  have h0 : chk s = 0 := if_pos hf
  have ho : free s c re = freeK s c re := if_pos hf
  rw [ho]
  simp [h0]
  obtain ⟨S, R, es, ha, hm⟩ := free1_m hf c re
  simp [Rs.z] at hm
  refine effCallN hm ?_
  simp
  refine ⟨by kernel_rfl, ?_⟩
  simp [kLast, vcLast]
  by_cases he : (freeK s c re).2.2.2 = 0
  · obtain ⟨rfl, rfl, rfl⟩ := ha he
    have hd := do1_m s (freeK s c re).1 Rs.z (freeK s c re).2.1 (freeK s c re).2.2.1
    simp [Rs.z] at hd
    rw [he]
    refine hd.mono ?_
    rintro _ rfl
    simp
    refine vcRet_of [] ?_ rfl
    simp
  · have hb := (free_ok s c re).resolve_left he
    have hd := do1e_m (freeK s c re).2.2.2 he s S Rs.z R (el es)
    simp [Rs.z] at hd
    refine hd.mono ?_
    rintro _ rfl
    simp
    refine vcRet_of [] ?_ rfl
    rw [hb]
    simp [bad, Rs.z]
theorem free_m (s : Po) (hh : Held s) (c : Int) (re : Bool) : Meets Tryz.prog 27 [s.pv, .i c, .b re] [] (Ret (.tup [(free s c re).1.pv, (free s c re).2.1.pv, .d (el (free s c re).2.2.1), .i (free s c re).2.2.2])) := by
  refine meetsH [] tbOk mixed Tryz.func27 pl27 rfl rfl ?_
  simp [Tryz.ntmps27]
  have hd := doFree_m s hh c re
  simp at hd
  refine hd.mono ?_
  rintro _ rfl
  simp
  refine vcRet_of [] ?_ rfl
  simp
set_option maxHeartbeats 4000000 in
theorem doCancel_m (s : Po) (hh : Held s) (c : Int) : Meets Tryz.prog 48 [s.pv, .clo 81 [.ptr 1000000 0, .ptr 1000001 0]] [.box 2 [.i c], sbox s]
    (fun z => z = ⟨.tup [(cancel s c).1.pv, (cancel s c).2.1.pv, .d (el (cancel s c).2.2.1), .i (cancel s c).2.2.2], [.box 2 [.i c], sbox s], []⟩) := by
  refine meets_defer tbOk (drawH_ok [] tbOk mixed) Tryz.func48 pl48 rfl rfl rfl rfl rfl ?_
  simp [vcDefer, vcDeferred, Tryz.ntmps48]
  have hk := check_m s hh.i hh.l hh.d hh.w
  simp at hk
  refine hk.mono ?_
  rintro _ rfl
  by_cases hf : Fine s
  case neg =>
    have h6 : chk s = 6 := chk_bad hf
    simp [h6]
    refine ⟨by kernel_rfl, ?_⟩
    simp [kLast, vcLast]
    have hd := do1e_m 6 (by decide) s s Rs.z Rs.z (.v (.slice none 0 0))
    simp [Rs.z] at hd
    refine hd.mono ?_
    rintro _ rfl
    simp
    refine vcRet_of [] ?_ rfl
    simp [cancel, guarded, hf, bad, Rs.z]
  have h0 : chk s = 0 := if_pos hf
  have ho : cancel s c = cancelK s c := if_pos hf
  rw [ho]
  simp [h0]
  obtain ⟨S, R, es, ha, hm⟩ := cancel1_m hf c
  simp [Rs.z] at hm
  refine effCallN hm ?_
  simp
  refine ⟨by kernel_rfl, ?_⟩
  simp [kLast, vcLast]
  by_cases he : (cancelK s c).2.2.2 = 0
  · obtain ⟨rfl, rfl, rfl⟩ := ha he
    have hd := do1_m s (cancelK s c).1 Rs.z (cancelK s c).2.1 (cancelK s c).2.2.1
    simp [Rs.z] at hd
    rw [he]
    refine hd.mono ?_
    rintro _ rfl
    simp
    refine vcRet_of [] ?_ rfl
    simp
  · have hb := (cancel_ok s c).resolve_left he
    have hd := do1e_m (cancelK s c).2.2.2 he s S Rs.z R (el es)
    simp [Rs.z] at hd
    refine hd.mono ?_
    rintro _ rfl
    simp
    refine vcRet_of [] ?_ rfl
    rw [hb]
    simp [bad, Rs.z]
theorem cancel_m (s : Po) (hh : Held s) (c : Int) : Meets Tryz.prog 35 [s.pv, .i c] [] (Ret (.tup [(cancel s c).1.pv, (cancel s c).2.1.pv, .d (el (cancel s c).2.2.1), .i (cancel s c).2.2.2])) := by
  refine meetsH [] tbOk mixed Tryz.func35 pl35 rfl rfl ?_
  simp [Tryz.ntmps35]
  have hd := doCancel_m s hh c
  simp at hd
  refine hd.mono ?_
  rintro _ rfl
  simp
  refine vcRet_of [] ?_ rfl
  simp
set_option maxHeartbeats 4000000 in
theorem doTick_m (s : Po) (hh : Held s) (n : Int) : Meets Tryz.prog 48 [s.pv, .clo 83 [.ptr 1000000 0, .ptr 1000001 0]] [.box 2 [.i n], sbox s]
    (fun z => z = ⟨.tup [(tick s n).1.pv, (tick s n).2.1.pv, .d (el (tick s n).2.2.1), .i (tick s n).2.2.2], [.box 2 [.i n], sbox s], []⟩) := by
  refine meets_defer tbOk (drawH_ok [] tbOk mixed) Tryz.func48 pl48 rfl rfl rfl rfl rfl ?_
  simp [vcDefer, vcDeferred, Tryz.ntmps48]
  have hk := check_m s hh.i hh.l hh.d hh.w
  simp at hk
  refine hk.mono ?_
  rintro _ rfl
  by_cases hf : Fine s
  case neg =>
    have h6 : chk s = 6 := chk_bad hf
    simp [h6]
    refine ⟨by kernel_rfl, ?_⟩
    simp [kLast, vcLast]
    have hd := do1e_m 6 (by decide) s s Rs.z Rs.z (.v (.slice none 0 0))
    simp [Rs.z] at hd
    refine hd.mono ?_
    rintro _ rfl
    simp
    refine vcRet_of [] ?_ rfl
    simp [tick, guarded, hf, bad, Rs.z]
  have h0 : chk s = 0 := if_pos hf
  have ho : tick s n = tickK s n := if_pos hf
  rw [ho]
  simp [h0]
  obtain ⟨S, R, es, ha, hm⟩ := tick1_m hf n
  simp [Rs.z] at hm
  refine effCallN hm ?_
  simp
  refine ⟨by kernel_rfl, ?_⟩
  simp [kLast, vcLast]
  by_cases he : (tickK s n).2.2.2 = 0
  · obtain ⟨rfl, rfl, rfl⟩ := ha he
    have hd := do1_m s (tickK s n).1 Rs.z (tickK s n).2.1 (tickK s n).2.2.1
    simp [Rs.z] at hd
    rw [he]
    refine hd.mono ?_
    rintro _ rfl
    simp
    refine vcRet_of [] ?_ rfl
    simp
  · have hb := (tick_ok s n).resolve_left he
    have hd := do1e_m (tickK s n).2.2.2 he s S Rs.z R (el es)
    simp [Rs.z] at hd
    refine hd.mono ?_
    rintro _ rfl
    simp
    refine vcRet_of [] ?_ rfl
    rw [hb]
    simp [bad, Rs.z]
theorem tick_m (s : Po) (hh : Held s) (n : Int) : Meets Tryz.prog 36 [s.pv, .i n] [] (Ret (.tup [(tick s n).1.pv, (tick s n).2.1.pv, .d (el (tick s n).2.2.1), .i (tick s n).2.2.2])) := by
  refine meetsH [] tbOk mixed Tryz.func36 pl36 rfl rfl ?_
  simp [Tryz.ntmps36]
  have hd := doTick_m s hh n
  simp at hd
  refine hd.mono ?_
  rintro _ rfl
  simp
  refine vcRet_of [] ?_ rfl
  simp
set_option maxHeartbeats 4000000 in
theorem doShut_m (s : Po) (hh : Held s) : Meets Tryz.prog 48 [s.pv, .clo 49 [.ptr 1000000 0]] [sbox s]
    (fun z => z = ⟨.tup [(shut s).1.pv, (shut s).2.1.pv, .d (el (shut s).2.2.1), .i (shut s).2.2.2], [sbox s], []⟩) := by
  refine meets_defer tbOk (drawH_ok [] tbOk mixed) Tryz.func48 pl48 rfl rfl rfl rfl rfl ?_
  simp [vcDefer, vcDeferred, Tryz.ntmps48]
  have hk := check_m s hh.i hh.l hh.d hh.w
  simp at hk
  refine hk.mono ?_
  rintro _ rfl
  by_cases hf : Fine s
  case neg =>
    have h6 : chk s = 6 := chk_bad hf
    simp [h6]
    refine ⟨by kernel_rfl, ?_⟩
    simp [kLast, vcLast]
    have hd := do1e_m 6 (by decide) s s Rs.z Rs.z (.v (.slice none 0 0))
    simp [Rs.z] at hd
    refine hd.mono ?_
    rintro _ rfl
    simp
    refine vcRet_of [] ?_ rfl
    simp [shut, guarded, hf, bad, Rs.z]
  have h0 : chk s = 0 := if_pos hf
  have ho : shut s = shutK s := if_pos hf
  rw [ho]
  simp [h0]
  obtain ⟨S, R, es, ha, hm⟩ := shut1_m hf
  simp [Rs.z] at hm
  refine effCallN hm ?_
  simp
  refine ⟨by kernel_rfl, ?_⟩
  simp [kLast, vcLast]
  by_cases he : (shutK s).2.2.2 = 0
  · obtain ⟨rfl, rfl, rfl⟩ := ha he
    have hd := do1_m s (shutK s).1 Rs.z (shutK s).2.1 (shutK s).2.2.1
    simp [Rs.z] at hd
    rw [he]
    refine hd.mono ?_
    rintro _ rfl
    simp
    refine vcRet_of [] ?_ rfl
    simp
  · have hb := (shut_ok s).resolve_left he
    have hd := do1e_m (shutK s).2.2.2 he s S Rs.z R (el es)
    simp [Rs.z] at hd
    refine hd.mono ?_
    rintro _ rfl
    simp
    refine vcRet_of [] ?_ rfl
    rw [hb]
    simp [bad, Rs.z]
theorem shut_m (s : Po) (hh : Held s) : Meets Tryz.prog 23 [s.pv] [] (Ret (.tup [(shut s).1.pv, (shut s).2.1.pv, .d (el (shut s).2.2.1), .i (shut s).2.2.2])) := by
  refine meetsH [] tbOk mixed Tryz.func23 pl23 rfl rfl ?_
  simp [Tryz.ntmps23]
  have hd := doShut_m s hh
  simp at hd
  refine hd.mono ?_
  rintro _ rfl
  simp
  refine vcRet_of [] ?_ rfl
  simp
end Go.Proofs.YtajjmhpdiikjhaaGreat.Po
