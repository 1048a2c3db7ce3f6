/- The pool: contracts, second part. No condition. -/
import Derived.Test.YtajjmhpdiikjhaaGreatN5
namespace Go.Proofs.YtajjmhpdiikjhaaGreat.Po
set_option maxRecDepth 100000
open Go.RowKit

/-- A set of numbers as a map. -/
def mset (ps : List Int) : List (Value × Value) := ps.map fun p => (.int .i64 p, .bool true)
def ins (a : Int) (ps : List Int) : List Int := if a ∈ ps then ps else ps ++ [a]
@[simp] theorem mset_nil : mset [] = [] := rfl
theorem same_int (k : IntKind) (a p : Int) : Instr.sameNow (.int k) (.int .i64 a) (.int .i64 p) = some (a == p) := by simp [Instr.sameNow]
@[simp] theorem find_mset (k : IntKind) (a : Int) : ∀ (ps : List Int), mFind (.int k) (.int .i64 a) (mset ps) = some (if a ∈ ps then some (.bool true) else none)
  | [] => rfl
  | p :: ps => by
    have ih := find_mset k a ps
    unfold mset at ih ⊢
    simp only [List.map_cons, mFind, same_int]
    by_cases h : a = p
    · simp [h]
    · rw [show (a == p) = false by simp [h]]
      simp [h, ih]
@[simp] theorem put_mset (k : IntKind) (a : Int) : ∀ (ps : List Int), mPut (.int k) (.int .i64 a) (.bool true) (mset ps) = some (mset (ins a ps))
  | [] => rfl
  | p :: ps => by
    have ih := put_mset k a ps
    unfold mset at ih ⊢
    simp only [List.map_cons, mPut, same_int]
    by_cases h : a = p
    · simp [h, ins]
    · rw [show (a == p) = false by simp [h]]
      simp only [ih, Option.map_some, ins, List.mem_cons, h, false_or]
      split <;> simp
def sets (l : List Int) : List Int := l.foldl (fun ps a => ins a ps) []
theorem sets_app (l : List Int) (a : Int) : sets (l ++ [a]) = ins a (sets l) := by simp [sets, List.foldl_append]
theorem mem_ins' {a b : Int} {l : List Int} : a ∈ ins b l ↔ a = b ∨ a ∈ l := by
  unfold ins
  split
  · constructor
    · exact .inr
    · rintro (rfl | h)
      · assumption
      · exact h
  · simp [or_comm]
theorem mem_sets {a : Int} (l : List Int) : a ∈ sets l ↔ a ∈ l := by
  suffices h : ∀ (l ps : List Int), a ∈ l.foldl (fun ps a => ins a ps) ps ↔ a ∈ ps ∨ a ∈ l by simpa [sets] using h l []
  intro l
  induction l with
  | nil => simp
  | cons b l ih =>
    intro ps
    rw [List.foldl_cons, ih, mem_ins']
    simp only [List.mem_cons]
    constructor
    · rintro ((h | h) | h)
      · exact .inr (.inl h)
      · exact .inl h
      · exact .inr (.inr h)
    · rintro (h | h | h)
      · exact .inl (.inr h)
      · exact .inl (.inl h)
      · exact .inr h
theorem sets_take {α : Type} {l : List α} {k : Nat} {x : α} (hx : l[k]? = some x) (f : α → Int) (pre : List Int) : sets (pre ++ (l.take (k + 1)).map f) = ins (f x) (sets (pre ++ (l.take k).map f)) := by
  rw [take_succ hx, List.map_append, ← List.append_assoc]
  exact sets_app _ _
theorem all_succ {α : Type} {l : List α} {k : Nat} {x : α} (hx : l[k]? = some x) (f : α → Bool) : (l.take (k + 1)).all f = ((l.take k).all f && f x) := by
  rw [take_succ hx, List.all_append]; simp
theorem chk_bad {s : Po} (h : ¬ Fine s) : chk s = 6 := if_neg h

def dsT (p : Bool) (s : Po) (k : Nat) : Bool := p && dsTo (lcs s) s.ds k
def idT (p : Bool) (s : Po) (k : Nat) : Bool := p && (s.idle.cs.take k).all (idB s.idle.idle s.idle.age s.now (lns s))
def wtT (p : Bool) (s : Po) (k : Nat) : Bool := p && (s.wt.ws.take k).all (wtB s.now (lcs s ++ dcs s))
def lcT (s : Po) (k : Nat) : List Int := sets ([] ++ (s.ls.take k).map Ls.call)
def lnT (s : Po) (k : Nat) : List Int := sets ([] ++ (s.ls.take k).map Ls.conn)
def dcT (s : Po) (k : Nat) : List Int := sets (lcs s ++ (s.ds.take k).map Dl.call)
def progB1 (s : Po) : Bool := lsTo s.now s.ls s.ls.length
def progB2 (s : Po) : Bool := dsT (progB1 s) s s.ds.length
set_option maxHeartbeats 16000000 in
theorem check_m (s : Po) (hi : s.idle.cs.length < 4294967290) (hL : s.ls.length < 4294967290) (hD : s.ds.length < 4294967290) (hW : s.wt.ws.length < 4294967290) : Meets Tryz.prog 32 [s.pv] [] (Ret (.i (chk s))) := by
  refine meetsH [] tbOk mixed Tryz.func32 pl32 rfl rfl ?_
  have bn : ¬ Nums s → chk s = 6 := fun h => chk_bad fun g => h g.f.n
  by_cases c1 : 0 ≤ s.back
  case neg =>
    have hb := bn fun g => c1 g.b0
    simp [Tryz.ntmps32, c1]
    refine vcRet_of [] ?_ rfl
    simp [hb]
  by_cases c2 : s.back < 16
  case neg =>
    have hb := bn fun g => c2 g.b1
    simp [Tryz.ntmps32, c1, c2]
    refine vcRet_of [] ?_ rfl
    simp [hb]
  by_cases c3 : 1 ≤ s.max
  case neg =>
    have hb := bn fun g => c3 g.m0
    simp [Tryz.ntmps32, c1, c2, c3]
    refine vcRet_of [] ?_ rfl
    simp [hb]
  by_cases c4 : s.max ≤ 64
  case neg =>
    have hb := bn fun g => c4 g.m1
    simp [Tryz.ntmps32, c1, c2, c3, c4]
    refine vcRet_of [] ?_ rfl
    simp [hb]
  simp [Tryz.ntmps32, c1, c2, c3, c4]
  refine (time_m s.now).mono ?_
  rintro _ rfl
  cases c5 : timeOk s.now
  · have hb := bn fun g => by rw [g.now] at c5; cases c5
    simp
    refine vcRet_of [] ?_ rfl
    simp [hb]
  by_cases c6 : s.idle.most = s.max
  case neg =>
    have hb := bn fun g => c6 g.most
    simp [c6]
    refine vcRet_of [] ?_ rfl
    simp [hb]
  simp [c6]
  have hic := Id.check_m s.idle (by omega)
  simp [c6] at hic
  refine hic.mono ?_
  rintro _ rfl
  by_cases c7 : Id.chk s.idle = 0
  case neg =>
    have hb := bn fun g => c7 g.idle
    simp [c7]
    refine vcRet_of [] ?_ rfl
    simp [hb]
  simp [c7]
  refine (Wa.check_m s.wt (by omega)).mono ?_
  rintro _ rfl
  by_cases c8 : Wa.chk s.wt = 0
  case neg =>
    have hb := bn fun g => c8 g.wt
    simp [c8]
    refine vcRet_of [] ?_ rfl
    simp [hb]
  have w1 : IntKind.i64.wrap ((s.idle.cs.length : Int) + s.ls.length) = (s.idle.cs.length : Int) + s.ls.length := IntWalk.i64_in _ (by omega)
  have w2 : IntKind.i64.wrap ((s.idle.cs.length : Int) + s.ls.length + s.ds.length) = (s.idle.cs.length : Int) + s.ls.length + s.ds.length := IntWalk.i64_in _ (by omega)
  by_cases c9 : (s.idle.cs.length : Int) + s.ls.length + s.ds.length ≤ s.max
  case neg =>
    have hb := bn fun g => c9 g.many
    simp [c8, w1, w2, c9]
    refine vcRet_of [] ?_ rfl
    simp [hb]
  have hN : Nums s := ⟨c1, c2, c3, c4, c5, c6, c7, c8, c9⟩
  have hnow := timeOk_iff.1 c5
  simp [c8, w1, w2, c9]
  refine vc_loop (fun n σ => ∃ k : Nat, n = s.ls.length - k ∧ k ≤ s.ls.length ∧ σ = ⟨277, [(83, .i k), (82, .i s.ls.length), (81, .d (ll s.ls)), (5, .b (lsTo s.now s.ls k)), (6, .i (lastK Ls.call s.ls k)), (3, .mp 16), (4, .mp 17), (1, .ptr 1 0), (2, .i 0)],
    [(1, .box 31 s.cells), (16, .map (mset (lcT s k))), (17, .map (mset (lnT s k)))]⟩) ?_ ?_
  · exact ⟨_, _, ⟨0, rfl, Nat.zero_le _, rfl⟩, [], _, rfl, by simp [lsTo, lastK, lcT, lnT, sets, c6]⟩
  rintro n σ ⟨k, rfl, hk, rfl⟩
  by_cases hlt : k < s.ls.length
  · obtain ⟨x, hx, e⟩ := at_lt hlt
    have hs1 : lcT s (k + 1) = ins x.call (lcT s k) := sets_take hx Ls.call []
    have hs2 : lnT s (k + 1) = ins x.conn (lnT s k) := sets_take hx Ls.conn []
    have hm : x.conn ∈ lnT s k ↔ x.conn ∈ (s.ls.take k).map Ls.conn := mem_sets _
    have hsu := lsTo_succ (now := s.now) hx
    have hla := lastK_succ (key := Ls.call) hx
    simp only [← hm] at hsu
    clear hm
    have wk := wrap_succ hlt (by omega)
    cases hp : lsTo s.now s.ls k
    case false =>
      rw [hp, Bool.false_and] at hsu
      simp [hlt, e]
      refine ⟨by kernel_rfl, ?_⟩
      refine ⟨_, ?_, _, ⟨k + 1, rfl, hlt, rfl⟩, [], _, rfl, by simp [hsu, hs1, hs2, hla, wk, c6]⟩
      omega
    rw [hp, Bool.true_and] at hsu
    by_cases a1 : lastK Ls.call s.ls k < x.call
    case neg =>
      simp [hlt, e, a1]
      refine ⟨by kernel_rfl, ?_⟩
      refine ⟨_, ?_, _, ⟨k + 1, rfl, hlt, rfl⟩, [], _, rfl, by simp [hsu, hs1, hs2, hla, wk, c6, a1]⟩
      omega
    simp [hlt, e, a1]
    refine (number_m x.call).mono ?_
    rintro _ rfl
    cases a2 : numOk x.call
    case false =>
      simp
      refine ⟨by kernel_rfl, ?_⟩
      refine ⟨_, ?_, _, ⟨k + 1, rfl, hlt, rfl⟩, [], _, rfl, by simp [hsu, hs1, hs2, hla, wk, c6, a1, a2]⟩
      omega
    simp
    refine (number_m x.conn).mono ?_
    rintro _ rfl
    cases a3 : numOk x.conn
    case false =>
      simp
      refine ⟨by kernel_rfl, ?_⟩
      refine ⟨_, ?_, _, ⟨k + 1, rfl, hlt, rfl⟩, [], _, rfl, by simp [hsu, hs1, hs2, hla, wk, c6, a1, a2, a3]⟩
      omega
    by_cases a4 : 0 ≤ x.born
    case neg =>
      simp [a4]
      refine ⟨by kernel_rfl, ?_⟩
      refine ⟨_, ?_, _, ⟨k + 1, rfl, hlt, rfl⟩, [], _, rfl, by simp [hsu, hs1, hs2, hla, wk, c6, a1, a2, a3, a4]⟩
      omega
    by_cases a5 : x.born ≤ s.now
    case neg =>
      simp [a4, a5]
      refine ⟨by kernel_rfl, ?_⟩
      refine ⟨_, ?_, _, ⟨k + 1, rfl, hlt, rfl⟩, [], _, rfl, by simp [hsu, hs1, hs2, hla, wk, c6, a1, a2, a3, a4, a5]⟩
      omega
    by_cases a6 : x.conn ∈ lnT s k
    case pos =>
      simp [a4, a5, a6]
      refine ⟨by kernel_rfl, ?_⟩
      refine ⟨_, ?_, _, ⟨k + 1, rfl, hlt, rfl⟩, [], _, rfl, by simp [hsu, hs1, hs2, hla, wk, c6, a1, a2, a3, a4, a5, a6]⟩
      omega
    simp [a4, a5, a6]
    refine ⟨by kernel_rfl, ?_⟩
    refine ⟨_, ?_, _, ⟨k + 1, rfl, hlt, rfl⟩, [], _, rfl, by simp [hsu, hs1, hs2, hla, wk, c6, a1, a2, a3, a4, a5, a6]⟩
    omega
  obtain rfl : k = s.ls.length := by omega
  have hk1 : lsTo s.now s.ls s.ls.length = progB1 s := rfl
  rw [hk1]
  generalize hp1 : progB1 s = p1
  have hcn : ∀ a, a ∈ lnT s s.ls.length ↔ a ∈ lns s := fun a => by unfold lnT; rw [List.take_length]; exact mem_sets _
  have hcc0 : lcT s s.ls.length = dcT s 0 := by unfold lcT dcT lcs; rw [List.take_length]; simp
  rw [hcc0]
  generalize lnT s s.ls.length = cn at hcn ⊢
  simp
  refine vc_loop (fun n σ => ∃ k : Nat, n = s.ds.length - k ∧ k ≤ s.ds.length ∧ σ = ⟨277, [(135, .i k), (134, .i s.ds.length), (133, .d (dl s.ds)), (5, .b (dsT p1 s k)), (6, .i (lastK Dl.call s.ds k)), (3, .mp 16), (4, .mp 17), (1, .ptr 1 0), (2, .i 0)],
    [(1, .box 31 s.cells), (16, .map (mset (dcT s k))), (17, .map (mset cn))]⟩) ?_ ?_
  · exact ⟨_, _, ⟨0, rfl, Nat.zero_le _, rfl⟩, [], _, rfl, by simp [dsT, dsTo, lastK, c6]⟩
  rintro n σ ⟨k, rfl, hk, rfl⟩
  by_cases hlt : k < s.ds.length
  · obtain ⟨x, hx, e⟩ := at_lt hlt
    have hs1 : dcT s (k + 1) = ins x.call (dcT s k) := sets_take hx Dl.call (lcs s)
    have hm : x.call ∈ dcT s k ↔ x.call ∈ lcs s ++ (s.ds.take k).map Dl.call := mem_sets _
    have hsu := dsTo_succ (cs := lcs s) hx
    have hla := lastK_succ (key := Dl.call) hx
    simp only [← hm] at hsu
    clear hm
    have wk := wrap_succ hlt (by omega)
    have hsu : dsT p1 s (k + 1) = (dsT p1 s k && (decide (lastK Dl.call s.ds k < x.call) && (numOk x.call && !decide (x.call ∈ dcT s k)))) := by
      unfold dsT; rw [hsu, ← Bool.and_assoc]
    cases hp : dsT p1 s k
    case false =>
      rw [hp, Bool.false_and] at hsu
      simp [hlt, e]
      refine ⟨_, ?_, _, ⟨k + 1, rfl, hlt, rfl⟩, [], _, rfl, by simp [hsu, hs1, hla, wk, c6]⟩
      omega
    rw [hp, Bool.true_and] at hsu
    by_cases a1 : lastK Dl.call s.ds k < x.call
    case neg =>
      simp [hlt, e, a1]
      refine ⟨_, ?_, _, ⟨k + 1, rfl, hlt, rfl⟩, [], _, rfl, by simp [hsu, hs1, hla, wk, c6, a1]⟩
      omega
    simp [hlt, e, a1]
    refine (number_m x.call).mono ?_
    rintro _ rfl
    cases a2 : numOk x.call
    case false =>
      simp
      refine ⟨_, ?_, _, ⟨k + 1, rfl, hlt, rfl⟩, [], _, rfl, by simp [hsu, hs1, hla, wk, c6, a1, a2]⟩
      omega
    by_cases a3 : x.call ∈ dcT s k
    case pos =>
      simp [a3]
      refine ⟨_, ?_, _, ⟨k + 1, rfl, hlt, rfl⟩, [], _, rfl, by simp [hsu, hs1, hla, wk, c6, a1, a2, a3]⟩
      omega
    simp [a3]
    refine ⟨_, ?_, _, ⟨k + 1, rfl, hlt, rfl⟩, [], _, rfl, by simp [hsu, hs1, hla, wk, c6, a1, a2, a3]⟩
    omega
  obtain rfl : k = s.ds.length := by omega
  have hk2 : dsT p1 s s.ds.length = progB2 s := by rw [← hp1]; rfl
  rw [hk2]
  generalize hp2 : progB2 s = p2
  have hcc : ∀ a, a ∈ dcT s s.ds.length ↔ a ∈ lcs s ++ dcs s := fun a => by unfold dcT; rw [List.take_length]; exact mem_sets _
  generalize dcT s s.ds.length = cc at hcc ⊢
  simp
  refine vc_loop (fun n σ => ∃ k : Nat, n = s.idle.cs.length - k ∧ k ≤ s.idle.cs.length ∧ σ = ⟨277, [(168, .i k), (167, .i s.idle.cs.length), (166, .d (Id.cl s.idle.cs)), (5, .b (idT p2 s k)), (3, .mp 16), (4, .mp 17), (1, .ptr 1 0), (2, .i 0)],
    [(1, .box 31 s.cells), (16, .map (mset cc)), (17, .map (mset cn))]⟩) ?_ ?_
  · exact ⟨_, _, ⟨0, rfl, Nat.zero_le _, rfl⟩, [], _, rfl, by simp [idT, c6]⟩
  rintro n σ ⟨k, rfl, hk, rfl⟩
  by_cases hlt : k < s.idle.cs.length
  · obtain ⟨x, hx, e⟩ := at_lt hlt
    have hxc := Id.chk_mem c7 (List.mem_of_getElem? hx)
    have v1 := small_wrap (a := s.now - x.since) (by omega)
    have v2 := small_wrap (a := s.now - x.born) (by omega)
    have wk := wrap_succ hlt (by omega)
    have hsu : idT p2 s (k + 1) = (idT p2 s k && (decide (x.since ≤ s.now) && (decide (s.now - x.since < s.idle.idle) && (decide (s.now - x.born < s.idle.age) && !decide (x.conn ∈ cn))))) := by
      unfold idT
      rw [all_succ hx, ← Bool.and_assoc]
      simp only [idB, hcn]
    cases hp : idT p2 s k
    case false =>
      rw [hp, Bool.false_and] at hsu
      simp [hlt, e]
      refine ⟨_, ?_, _, ⟨k + 1, rfl, hlt, rfl⟩, [], _, rfl, by simp [hsu, wk, c6]⟩
      omega
    rw [hp, Bool.true_and] at hsu
    by_cases a1 : x.since ≤ s.now
    case neg =>
      simp [hlt, e, a1]
      refine ⟨_, ?_, _, ⟨k + 1, rfl, hlt, rfl⟩, [], _, rfl, by simp [hsu, wk, c6, a1]⟩
      omega
    by_cases a2 : s.now - x.since < s.idle.idle
    case neg =>
      simp [hlt, e, v1, a1, a2]
      refine ⟨_, ?_, _, ⟨k + 1, rfl, hlt, rfl⟩, [], _, rfl, by simp [hsu, wk, c6, a1, a2]⟩
      omega
    by_cases a3 : s.now - x.born < s.idle.age
    case neg =>
      simp [hlt, e, v1, v2, a1, a2, a3]
      refine ⟨_, ?_, _, ⟨k + 1, rfl, hlt, rfl⟩, [], _, rfl, by simp [hsu, wk, c6, a1, a2, a3]⟩
      omega
    by_cases a4 : x.conn ∈ cn
    case pos =>
      simp [hlt, e, v1, v2, a1, a2, a3, a4]
      refine ⟨_, ?_, _, ⟨k + 1, rfl, hlt, rfl⟩, [], _, rfl, by simp [hsu, wk, c6, a1, a2, a3, a4]⟩
      omega
    simp [hlt, e, v1, v2, a1, a2, a3, a4]
    refine ⟨_, ?_, _, ⟨k + 1, rfl, hlt, rfl⟩, [], _, rfl, by simp [hsu, wk, c6, a1, a2, a3, a4]⟩
    omega
  obtain rfl : k = s.idle.cs.length := by omega
  generalize hp3 : idT p2 s s.idle.cs.length = p3
  simp
  refine vc_loop (fun n σ => ∃ k : Nat, n = s.wt.ws.length - k ∧ k ≤ s.wt.ws.length ∧ σ = ⟨277, [(214, .i k), (213, .i s.wt.ws.length), (212, .d (Wa.wl s.wt.ws)), (5, .b (wtT p3 s k)), (3, .mp 16), (4, .mp 17), (1, .ptr 1 0), (2, .i 0)],
    [(1, .box 31 s.cells), (16, .map (mset cc)), (17, .map (mset cn))]⟩) ?_ ?_
  · exact ⟨_, _, ⟨0, rfl, Nat.zero_le _, rfl⟩, [], _, rfl, by simp [wtT, c6]⟩
  rintro n σ ⟨k, rfl, hk, rfl⟩
  by_cases hlt : k < s.wt.ws.length
  · obtain ⟨x, hx, e⟩ := at_lt hlt
    have wk := wrap_succ hlt (by omega)
    have hsu : wtT p3 s (k + 1) = (wtT p3 s k && (decide (x.since ≤ s.now) && (decide (s.now < x.dead) && !decide (x.call ∈ cc)))) := by
      unfold wtT
      rw [all_succ hx, ← Bool.and_assoc]
      simp only [wtB, hcc]
    cases hp : wtT p3 s k
    case false =>
      rw [hp, Bool.false_and] at hsu
      simp [hlt, e]
      refine ⟨_, ?_, _, ⟨k + 1, rfl, hlt, rfl⟩, [], _, rfl, by simp [hsu, wk, c6]⟩
      omega
    rw [hp, Bool.true_and] at hsu
    by_cases a1 : x.since ≤ s.now
    case neg =>
      simp [hlt, e, a1]
      refine ⟨_, ?_, _, ⟨k + 1, rfl, hlt, rfl⟩, [], _, rfl, by simp [hsu, wk, c6, a1]⟩
      omega
    by_cases a2 : s.now < x.dead
    case neg =>
      simp [hlt, e, a1, a2]
      refine ⟨_, ?_, _, ⟨k + 1, rfl, hlt, rfl⟩, [], _, rfl, by simp [hsu, wk, c6, a1, a2]⟩
      omega
    by_cases a3 : x.call ∈ cc
    case pos =>
      simp [hlt, e, a1, a2, a3]
      refine ⟨_, ?_, _, ⟨k + 1, rfl, hlt, rfl⟩, [], _, rfl, by simp [hsu, wk, c6, a1, a2, a3]⟩
      omega
    simp [hlt, e, a1, a2, a3]
    refine ⟨_, ?_, _, ⟨k + 1, rfl, hlt, rfl⟩, [], _, rfl, by simp [hsu, wk, c6, a1, a2, a3]⟩
    omega
  obtain rfl : k = s.wt.ws.length := by omega
  have hend : (wtT p3 s s.wt.ws.length && endB s) = true ↔ Fine s := by
    rw [← prog_fine hN, ← hp3, ← hp2]
    simp only [wtT, idT, List.take_length, progB, progB2, dsT, progB1, Bool.and_assoc]
  generalize wtT p3 s s.wt.ws.length = p4 at hend ⊢
  have wm : IntKind.i64.wrap s.max = s.max := small_wrap (by omega)
  have wl : IntKind.i64.wrap ((s.ls.length : Int) + s.ds.length) = (s.ls.length : Int) + s.ds.length := IntWalk.i64_in _ (by omega)
  have cb : (p4 && endB s) = false → chk s = 6 := fun h => chk_bad fun g => by rw [hend.2 g] at h; cases h
  have cg : (p4 && endB s) = true → chk s = 0 := fun h => if_pos (hend.1 h)
  clear hend
  cases p4
  · simp
    refine vcRet_of [] ?_ rfl
    simp [cb rfl]
  rw [Bool.true_and] at cb cg
  by_cases d1 : 0 < s.wt.ws.length
  · by_cases d2 : (s.ls.length : Int) + s.ds.length = s.max
    · cases d3 : s.shut
      · simp [d1, d2, wm, d3]
        refine vcRet_of [] ?_ rfl
        simp [cg (by simp [endB, d2, d3])]
      · simp [d1, d2, wm, d3]
        refine vcRet_of [] ?_ rfl
        simp [cb (by simp [endB, d1, d3])]
    · simp [d1, d2, wl]
      refine vcRet_of [] ?_ rfl
      simp [cb (by simp [endB, d1, d2])]
  · cases d3 : s.shut
    · simp [d1, d3]
      refine vcRet_of [] ?_ rfl
      simp [cg (by simp [endB, d1, d3])]
    · by_cases d4 : 0 < s.idle.cs.length
      · simp [d1, d3, d4]
        refine vcRet_of [] ?_ rfl
        simp [cb (by simp [endB, d3, d4])]
      · simp [d1, d3, d4]
        refine vcRet_of [] ?_ rfl
        simp [cg (by simp [endB, d1, d4])]
end Go.Proofs.YtajjmhpdiikjhaaGreat.Po
namespace Go.Proofs.YtajjmhpdiikjhaaGreat.Po
set_option maxRecDepth 100000
open Go.RowKit

theorem endR_m (s : Po) (r : Rs) (es : List Ef) (k c : Int) :
    Meets Tryz.prog 62 [.ptr 1000000 0, .i k, .i c] [evb s r (.rw 1000001 es.length), erow es] (fun z => z = ⟨.tup [], [evb s (rs s k c) (.rw 1000001 es.length), erow es], []⟩) := by
  refine meetsH [] tbOk mixed Tryz.func62 pl62 rfl rfl ?_
  by_cases h : k = 7
  · simp [Tryz.ntmps62, h]
    refine vcRet_of [] ?_ rfl
    simp [rs]
  · simp [Tryz.ntmps62, h]
    refine vcRet_of [] ?_ rfl
    simp [rs, h]
theorem map_take_succ {α β : Type} {l : List α} {k : Nat} {x : α} (hx : l[k]? = some x) (f : α → β) : (l.take (k + 1)).map f = (l.take k).map f ++ [f x] := by
  rw [take_succ hx, List.map_append]; rfl
def efW (s : Po) (k : Int) (ws : List Wa.Wt) (j : Nat) : List Ef := (ws.take j).map fun w => ef s k w.call 0
theorem efW_succ {s : Po} {k : Int} {ws : List Wa.Wt} {j : Nat} {x : Wa.Wt} (hx : ws[j]? = some x) : efW s k ws (j + 1) = efW s k ws j ++ [ef s k x.call 0] := map_take_succ hx _
theorem efW_len {s : Po} {k : Int} {ws : List Wa.Wt} {j : Nat} (h : j ≤ ws.length) : (efW s k ws j).length = j := by rw [efW, List.length_map, List.length_take]; omega
def efC (s : Po) (es : List Ef) (cs : List Int) (j : Nat) : List Ef := es ++ (cs.take j).map fun c => ef s 11 0 c
theorem efC_succ {s : Po} {es : List Ef} {cs : List Int} {j : Nat} {x : Int} (hx : cs[j]? = some x) : efC s es cs (j + 1) = efC s es cs j ++ [ef s 11 0 x] := by rw [efC, map_take_succ hx, ← List.append_assoc]; rfl
theorem efC_len {s : Po} {es : List Ef} {cs : List Int} {j : Nat} (h : j ≤ cs.length) : (efC s es cs j).length = es.length + j := by rw [efC, List.length_append, List.length_map, List.length_take]; omega
set_option maxHeartbeats 4000000 in
theorem late_m (s : Po) (r : Rs) (k : Int) (ws : List Wa.Wt) (cs : List Int) (hw : ws.length < 1000000000) (hc : cs.length < 1000000000) :
    Meets Tryz.prog 52 [.ptr 1000000 0, .i k, .d (Wa.wl ws), .d (Id.nl cs)] [evb s r PV.nil] (fun z => z = ⟨.tup [], [evb s (rs s 7 0) (.d (el (lateE s k ws cs)))], []⟩) := by
  refine meetsH [] tbOk mixed Tryz.func52 pl52 rfl rfl ?_
  simp [Tryz.ntmps52]
  refine vc_loop (fun n σ => ∃ j : Nat, n = ws.length - j ∧ j ≤ ws.length ∧ σ = ⟨36, [(14, .i j), (13, .i ws.length), (12, .d (Wa.wl ws)), (0, .ptr 1000000 0), (1, .i k), (3, .d (Id.nl cs))],
    [(1000000, evb s r (.rw 5 (efW s k ws j).length)), (5, erow (efW s k ws j))]⟩) ?_ ?_
  · exact ⟨_, _, ⟨0, rfl, Nat.zero_le _, rfl⟩, [.cell 1000000 15 5 59 4], _, rfl, by simp [efW]⟩
  · rintro n σ ⟨j, rfl, hj, rfl⟩
    by_cases hlt : j < ws.length
    · obtain ⟨x, hx, e⟩ := at_lt hlt
      have hm := efW_succ (s := s) (k := k) hx
      have hes := efW_len (s := s) (k := k) hj
      simp [hlt, e]
      have hs := sayR_m s r (efW s k ws j) k x.call 0 (by omega)
      simp at hs
      refine hs.mono ?_
      rintro _ rfl
      simp [wrap_succ hlt (by omega)]
      refine ⟨_, ?_, _, ⟨j + 1, rfl, hlt, rfl⟩, [], _, rfl, by simp [hm]⟩
      omega
    · obtain rfl : j = ws.length := by omega
      have hA : efW s k ws ws.length = ws.map fun w => ef s k w.call 0 := by rw [efW, List.take_length]
      have hes := efW_len (s := s) (k := k) (Nat.le_refl ws.length)
      generalize efW s k ws ws.length = es at hA hes ⊢
      simp
      refine vc_loop (fun n σ => ∃ j : Nat, n = cs.length - j ∧ j ≤ cs.length ∧ σ = ⟨36, [(26, .i j), (25, .i cs.length), (24, .d (Id.nl cs)), (0, .ptr 1000000 0)],
        [(1000000, evb s r (.rw 5 (efC s es cs j).length)), (5, erow (efC s es cs j))]⟩) ?_ ?_
      · exact ⟨_, _, ⟨0, rfl, Nat.zero_le _, rfl⟩, [], _, rfl, by simp [efC]⟩
      rintro n σ ⟨j, rfl, hj, rfl⟩
      by_cases hlt : j < cs.length
      · obtain ⟨x, hx, e⟩ := at_lt hlt
        have hm := efC_succ (s := s) (es := es) hx
        have hfs := efC_len (s := s) (es := es) hj
        simp [hlt, e]
        have hs := sayR_m s r (efC s es cs j) 11 0 x (by omega)
        simp at hs
        refine hs.mono ?_
        rintro _ rfl
        simp [wrap_succ hlt (by omega)]
        refine ⟨_, ?_, _, ⟨j + 1, rfl, hlt, rfl⟩, [], _, rfl, by simp [hm]⟩
        omega
      · obtain rfl : j = cs.length := by omega
        have hB : efC s es cs cs.length = lateE s k ws cs := by rw [efC, List.take_length, hA]; rfl
        rw [hB]
        simp
        have hs := endR_m s r (lateE s k ws cs) 7 0
        simp at hs
        refine hs.mono ?_
        rintro _ rfl
        simp
        refine vcRet_prep [.seen 1000000 15] [] (by simp [Prep.all, Prep.run]; rfl) ?_ rfl
        simp
        exact List.take_of_length_le (by simp)
theorem gone_any {α : Type} {xs : List α} {p : α → Bool} : (xs.any p = true) ∨ xs.any p = false := by cases xs.any p <;> simp
set_option maxHeartbeats 2000000 in
theorem role_m (s : Po) (h : Form s) (c : Int) : Meets Tryz.prog 71 [s.pv, .i c] [] (Ret (.i (role s c))) := by
  refine meetsH [] tbOk mixed Tryz.func71 pl71 rfl rfl ?_
  simp [Tryz.ntmps71]
  refine (dropL_m s.ls h.lu c (by have := h.llen; omega)).mono ?_
  rintro _ rfl
  cases h1 : s.ls.any (fun x => x.call == c)
  case true =>
    simp
    refine vcRet_of [] ?_ rfl
    simp [role, h1]
  simp
  refine (dropD_m s.ds h.du c (by have := h.dlen; omega)).mono ?_
  rintro _ rfl
  cases h2 : s.ds.any (fun x => x.call == c)
  case true =>
    simp
    refine vcRet_of [] ?_ rfl
    simp [role, h1, h2]
  simp
  refine (Wa.place_m s.wt c (by have := h.wlen; omega)).mono ?_
  rintro _ rfl
  have hw : Wa.where_ s.wt c = if 0 ≤ Wa.place s.wt.ws c then (Wa.place s.wt.ws c, 0) else (0, 4) := by
    rw [Wa.where_, if_neg (by rw [h.n.wt]; simp)]
  cases h3 : s.wt.ws.any (fun x => x.call == c)
  · rw [if_neg (by rw [wa_place, h3]; simp)] at hw
    simp [hw]
    refine vcRet_of [] ?_ rfl
    simp [role, h1, h2, h3]
  · rw [if_pos (by rw [wa_place, h3])] at hw
    simp [hw]
    refine vcRet_of [] ?_ rfl
    simp [role, h1, h2, h3]
end Go.Proofs.YtajjmhpdiikjhaaGreat.Po
namespace Go.Proofs.YtajjmhpdiikjhaaGreat.Po
set_option maxRecDepth 100000
open Go.RowKit

@[simp] def sbox (s : Po) : MObj := .box 31 [.i s.back, .i s.max, .i s.now, .b s.shut, .i s.idle.most, .i s.idle.idle, .i s.idle.age, .d (Id.cl s.idle.cs), .d (ll s.ls), .d (dl s.ds), .i s.wt.most, .d (Wa.wl s.wt.ws)]
theorem goneL_at {l : List Ls} (hu : Up (l.map Ls.call)) {i : Nat} {x : Ls} (h : l[i]? = some x) : goneL l x.call = x := by
  rw [goneL, if_pos (any_mem.2 ⟨x, List.mem_of_getElem? h, rfl⟩), findL_at hu h]
theorem goneD_at {l : List Dl} (hu : Up (l.map Dl.call)) {i : Nat} {x : Dl} (h : l[i]? = some x) : goneD l x.call = x := by
  rw [goneD, if_pos (any_mem.2 ⟨x, List.mem_of_getElem? h, rfl⟩), findD_at hu h]
set_option maxHeartbeats 8000000 in
theorem ask1_m {s : Po} (h : Fine s) (c d : Int) : ∃ S R es, ((askK s c d).2.2.2 = 0 → S = (askK s c d).1 ∧ R = (askK s c d).2.1 ∧ es = (askK s c d).2.2.1) ∧
    Meets Tryz.prog 69 [.ptr 1000000 0, .ptr 1000001 0, .ptr 1000002 0, .ptr 1000003 0] [evb s Rs.z PV.nil, .box 2 [.i c], .box 2 [.i d], sbox s] (fun z => z = ⟨.i (askK s c d).2.2.2, [evb S R (.d (el es)), .box 2 [.i c], .box 2 [.i d], sbox s], []⟩) := by
  have hm := h.f.n.many
  have hm1 := h.f.n.m1
  refine ⟨(askK s c d).1, if (askK s c d).2.2.2 = 0 then (askK s c d).2.1 else Rs.z, (askK s c d).2.2.1, fun h0 => ⟨rfl, if_pos h0, rfl⟩, ?_⟩
  refine meetsH [] tbOk mixed Tryz.func69 pl69 rfl rfl ?_
  simp [Tryz.ntmps69]
  refine (number_m c).mono ?_
  rintro _ rfl
  cases hc : numOk c
  · simp
    refine vcRet_of [] ?_ rfl
    simp [askK, hc, bad, Rs.z]
  simp
  refine (time_m d).mono ?_
  rintro _ rfl
  cases hd : timeOk d
  · simp
    refine vcRet_of [] ?_ rfl
    simp [askK, hc, hd, bad, Rs.z]
  simp
  have hr := role_m s h.f c
  simp at hr
  refine hr.mono ?_
  rintro _ rfl
  by_cases h8 : role s c = 0
  case neg =>
    simp [h8]
    refine vcRet_of [] ?_ rfl
    simp [askK, hc, hd, h8, bad, Rs.z]
  have k0 : askK s c d = if s.shut = true then (s, rs s 6 0, [], 0)
      else if d ≤ s.now then (s, rs s 5 0, [], 0)
      else if 0 < s.idle.cs.length then
        ({ s with idle := ⟨s.idle.most, s.idle.idle, s.idle.age, s.idle.cs.take (s.idle.cs.length - 1)⟩, ls := insL s.ls ⟨c, (s.idle.cs.getD (s.idle.cs.length - 1) default).conn, (s.idle.cs.getD (s.idle.cs.length - 1) default).born⟩ }, rs s 1 (s.idle.cs.getD (s.idle.cs.length - 1) default).conn, [], 0)
      else if (s.ls.length : Int) + s.ds.length < s.max then ({ s with ds := insD s.ds ⟨c, false⟩ }, rs s 2 0, [], 0)
      else if (s.wt.ws.length : Int) < s.wt.most then ({ s with wt := ⟨s.wt.most, s.wt.ws ++ [⟨c, s.now, d⟩]⟩ }, rs s 3 0, [], 0)
      else (s, rs s 4 0, [], 0) := by
    simp only [askK, hc, hd, h8]; simp
  rw [k0]
  clear k0
  by_cases hs : s.shut = true
  · simp [h8, hs]
    have he := end_m s Rs.z (.v (.slice none 0 0)) 6 0
    simp [hs] at he
    refine he.mono ?_
    rintro _ rfl
    simp
    refine vcRet_of [] ?_ rfl
    simp
  by_cases hl : d ≤ s.now
  · simp [h8, hs, hl]
    have he := end_m s Rs.z (.v (.slice none 0 0)) 5 0
    simp [hs] at he
    refine he.mono ?_
    rintro _ rfl
    simp
    refine vcRet_of [] ?_ rfl
    simp
  have ht := Id.take_m s.idle s.now (by have := h.f.ilen; omega)
  by_cases h0 : 0 < s.idle.cs.length
  · rw [take_some h.f h0] at ht
    simp at ht
    simp [h8, hs, hl, h0]
    refine ht.mono ?_
    rintro _ rfl
    simp
    have hx := lease_m { s with idle := ⟨s.idle.most, s.idle.idle, s.idle.age, s.idle.cs.take (s.idle.cs.length - 1)⟩ } Rs.z (.v (.slice none 0 0)) h.f.lu (by have := h.f.llen; show s.ls.length < _; omega) c (s.idle.cs.getD (s.idle.cs.length - 1) default).conn (s.idle.cs.getD (s.idle.cs.length - 1) default).born
    simp [hs] at hx
    refine hx.mono ?_
    rintro _ rfl
    simp
    have he := end_m { s with idle := ⟨s.idle.most, s.idle.idle, s.idle.age, s.idle.cs.take (s.idle.cs.length - 1)⟩, ls := insL s.ls ⟨c, (s.idle.cs.getD (s.idle.cs.length - 1) default).conn, (s.idle.cs.getD (s.idle.cs.length - 1) default).born⟩ } Rs.z (.v (.slice none 0 0)) 1 (s.idle.cs.getD (s.idle.cs.length - 1) default).conn
    simp [hs] at he
    refine he.mono ?_
    rintro _ rfl
    simp
    refine vcRet_of [] ?_ rfl
    simp [rs]
  have hcs : s.idle.cs = [] := List.length_eq_zero_iff.1 (by omega)
  rw [take_none h.f hcs] at ht
  simp at ht
  have w1 : IntKind.i64.wrap ((s.ls.length : Int) + s.ds.length) = (s.ls.length : Int) + s.ds.length := IntWalk.i64_in _ (by have := h.f.llen; have := h.f.dlen; omega)
  simp [h8, hs, hl, h0]
  refine ht.mono ?_
  rintro _ rfl
  by_cases h5 : (s.ls.length : Int) + s.ds.length < s.max
  · simp [w1, h5]
    refine (addD_m s.ds h.f.du ⟨c, false⟩ (by have := h.f.dlen; omega)).mono ?_
    rintro _ rfl
    simp
    have he := end_m { s with ds := insD s.ds ⟨c, false⟩ } Rs.z (.v (.slice none 0 0)) 2 0
    simp [hs] at he
    refine he.mono ?_
    rintro _ rfl
    simp
    refine vcRet_of [] ?_ rfl
    simp [rs]
  have hj := Wa.join_m s.wt c s.now d (by have := h.f.wlen; omega)
  rw [join_ok h.f.wtAt hc hd (any_not.2 (role_zero.1 h8).2.2) (by omega)] at hj
  by_cases h6 : (s.wt.ws.length : Int) < s.wt.most
  · rw [if_pos h6] at hj
    simp at hj
    simp [w1, h5, h6]
    refine hj.mono ?_
    rintro _ rfl
    simp
    have he := end_m { s with wt := ⟨s.wt.most, s.wt.ws ++ [⟨c, s.now, d⟩]⟩ } Rs.z (.v (.slice none 0 0)) 3 0
    simp [hs] at he
    refine he.mono ?_
    rintro _ rfl
    simp
    refine vcRet_of [] ?_ rfl
    simp [rs]
  · rw [if_neg h6] at hj
    simp at hj
    simp [w1, h5, h6]
    refine hj.mono ?_
    rintro _ rfl
    simp
    have he := end_m s Rs.z (.v (.slice none 0 0)) 4 0
    simp [hs] at he
    refine he.mono ?_
    rintro _ rfl
    simp
    refine vcRet_of [] ?_ rfl
    simp [hs, rs]
set_option maxHeartbeats 4000000 in
theorem free1_m {s : Po} (h : Fine s) (c : Int) (re : Bool) : ∃ S R es, ((freeK s c re).2.2.2 = 0 → S = (freeK s c re).1 ∧ R = (freeK s c re).2.1 ∧ es = (freeK s c re).2.2.1) ∧
    Meets Tryz.prog 66 [.ptr 1000000 0, .ptr 1000001 0, .ptr 1000002 0, .ptr 1000003 0] [evb s Rs.z PV.nil, .box 2 [.i c], sbox s, .box 4 [.b re]] (fun z => z = ⟨.i (freeK s c re).2.2.2, [evb S R (.d (el es)), .box 2 [.i c], sbox s, .box 4 [.b re]], []⟩) := by
  refine ⟨(freeK s c re).1, if (freeK s c re).2.2.2 = 0 then (freeK s c re).2.1 else Rs.z, (freeK s c re).2.2.1, fun h0 => ⟨rfl, if_pos h0, rfl⟩, ?_⟩
  refine meetsH [] tbOk mixed Tryz.func66 pl66 rfl rfl ?_
  simp [Tryz.ntmps66]
  refine (number_m c).mono ?_
  rintro _ rfl
  cases hc : numOk c
  · simp
    refine vcRet_of [] ?_ rfl
    simp [freeK, hc, bad, Rs.z]
  simp
  refine (dropL_m s.ls h.f.lu c (by have := h.f.llen; omega)).mono ?_
  rintro _ rfl
  cases g1 : s.ls.any (fun x => x.call == c)
  · simp
    refine vcRet_of [] ?_ rfl
    simp [freeK, hc, g1, bad, Rs.z]
  obtain ⟨i, x, hx, rfl⟩ := mem_keyed g1
  have hh := h.holeL hx
  have hxm := List.mem_of_getElem? hx
  obtain ⟨_, k2, k3, k4⟩ := h.f.ls x hxm
  rw [goneL_at h.f.lu hx]
  simp
  have hg := give_m hh Rs.z (c := x.conn) (b := x.born) re k2 ⟨k3, k4⟩ (fun y hy => (h.ci x hxm y hy).symm)
  simp at hg
  refine hg.mono ?_
  rintro _ rfl
  simp
  have he := end_m (giveS { s with ls := dropL s.ls x.call } x.conn x.born re).1 Rs.z (el (giveS { s with ls := dropL s.ls x.call } x.conn x.born re).2) 7 0
  simp at he
  refine he.mono ?_
  rintro _ rfl
  simp
  refine vcRet_of [] ?_ rfl
  simp [freeK, hc, g1, findL_at h.f.lu hx, rs]
theorem cancel_yes {s : Po} (h : Form s) {c : Int} (ha : s.wt.ws.any (fun x => x.call == c) = true) : ∃ w, Wa.cancel s.wt c = (⟨s.wt.most, s.wt.ws.filter fun x => x.call != c⟩, w, 0) := by
  obtain ⟨k, x, hk, hx, hp⟩ := idx_some ha
  obtain rfl : x.call = c := by simpa using hp
  have hpl : Wa.place s.wt.ws x.call = k := hk
  refine ⟨s.wt.ws.getD k default, ?_⟩
  rw [Wa.cancel, if_neg (by rw [h.n.wt]; simp), hpl, Wa.outAt, if_neg (by omega), Int.toNat_natCast]
  have hc := h.wtAt.good.calls
  suffices he : s.wt.ws.eraseIdx k = s.wt.ws.filter fun y => y.call != x.call by rw [he]
  clear hk hpl ha hp
  generalize s.wt.ws = l at hc hx
  induction l generalizing k with
  | nil => simp at hx
  | cons y l ih =>
    rw [List.pairwise_cons] at hc
    cases k with
    | zero =>
      simp at hx; subst hx
      simp
      exact (filter_all fun z hz => by simpa using (hc.1 z hz).symm).symm
    | succ k =>
      simp at hx
      rw [List.filter_cons, if_pos (by simpa using hc.1 x (List.mem_of_getElem? hx)), List.eraseIdx_cons_succ, ih k hc.2 hx]
theorem cancel_no {s : Po} (h : Form s) {c : Int} (ha : s.wt.ws.any (fun x => x.call == c) = false) : Wa.cancel s.wt c = (s.wt, ⟨0, 0, 0⟩, 4) := by
  have hi : Wa.place s.wt.ws c = -1 := idx_none ha
  rw [Wa.cancel, if_neg (by rw [h.n.wt]; simp), hi, Wa.outAt, if_pos (by omega)]
set_option maxHeartbeats 4000000 in
theorem cancel1_m {s : Po} (h : Fine s) (c : Int) : ∃ S R es, ((cancelK s c).2.2.2 = 0 → S = (cancelK s c).1 ∧ R = (cancelK s c).2.1 ∧ es = (cancelK s c).2.2.1) ∧
    Meets Tryz.prog 81 [.ptr 1000000 0, .ptr 1000001 0, .ptr 1000002 0] [evb s Rs.z PV.nil, .box 2 [.i c], sbox s] (fun z => z = ⟨.i (cancelK s c).2.2.2, [evb S R (.d (el es)), .box 2 [.i c], sbox s], []⟩) := by
  refine ⟨(cancelK s c).1, if numOk c = true then rs s 7 0 else Rs.z, (cancelK s c).2.2.1, fun h0 => ⟨rfl, ?_, rfl⟩, ?_⟩
  · unfold cancelK at h0 ⊢
    cases hc : numOk c
    · simp [hc, bad] at h0
    · simp [hc] at h0 ⊢
      split
      · rfl
      · rename_i h1
        rw [if_neg h1] at h0
        split
        · rename_i h2
          rw [if_pos h2] at h0
          split
          · rename_i h3; simp [h3, bad] at h0
          · rfl
        · rename_i h2
          rw [if_neg h2] at h0
          split at h0 <;> simp [bad] at h0
  refine meetsH [] tbOk mixed Tryz.func81 pl81 rfl rfl ?_
  simp [Tryz.ntmps81]
  refine (number_m c).mono ?_
  rintro _ rfl
  cases hc : numOk c
  · simp
    refine vcRet_of [] ?_ rfl
    simp [cancelK, hc, bad, Rs.z]
  simp
  have he := end_m s Rs.z (.v (.slice none 0 0)) 7 0
  simp at he
  refine he.mono ?_
  rintro _ rfl
  simp
  have hw := Wa.cancel_m s.wt c (by have := h.f.wlen; omega)
  cases g1 : s.wt.ws.any (fun x => x.call == c)
  case true =>
    obtain ⟨w, hcy⟩ := cancel_yes h.f g1
    rw [hcy] at hw
    simp at hw
    refine hw.mono ?_
    rintro _ rfl
    simp
    refine vcRet_of [] ?_ rfl
    simp [cancelK, hc, g1, rs]
  rw [cancel_no h.f g1] at hw
  simp at hw
  refine hw.mono ?_
  rintro _ rfl
  simp
  refine (dropD_m s.ds h.f.du c (by have := h.f.dlen; omega)).mono ?_
  rintro _ rfl
  have hr := role_m s h.f c
  simp at hr
  cases g2 : s.ds.any (fun x => x.call == c)
  · have hgd : goneD s.ds c = ⟨0, false⟩ := by rw [goneD, g2]; rfl
    simp [hgd]
    refine hr.mono ?_
    rintro _ rfl
    cases g3 : s.ls.any (fun x => x.call == c)
    · have hz : role s c = 0 := by simp [role, g1, g2, g3]
      simp [hz]
      refine vcRet_of [] ?_ rfl
      simp [cancelK, hc, g1, g2, g3, bad]
    · have hz : role s c = 1 := by simp [role, g3]
      simp [hz]
      refine vcRet_of [] ?_ rfl
      simp [cancelK, hc, g1, g2, g3, bad]
  obtain ⟨i, x, hx, rfl⟩ := mem_keyed g2
  rw [goneD_at h.f.du hx]
  have hxm := List.mem_of_getElem? hx
  cases hg : x.gone
  · simp [hg]
    refine (addD_m (dropD s.ds x.call) (up_filter h.f.du) ⟨x.call, true⟩ (by have := h.f.dlen; have : (dropD s.ds x.call).length ≤ s.ds.length := List.length_filter_le _ _; omega)).mono ?_
    rintro _ rfl
    have hi : insD (dropD s.ds x.call) ⟨x.call, true⟩ = s.ds.map fun z => if z.call = x.call then (⟨x.call, true⟩ : Dl) else z := by
      rw [map_set h.f.du hx]
      exact ins_filter h.f.du hx rfl
    rw [hi]
    simp
    refine vcRet_of [] ?_ rfl
    simp [cancelK, hc, g1, g2, findD_at h.f.du hx, hg, rs]
  · simp [hg]
    refine hr.mono ?_
    rintro _ rfl
    have hz : role s x.call = 2 := by
      have : s.ls.any (fun y => y.call == x.call) = false := any_not.2 fun y hy => h.ld y hy x hxm
      simp [role, g2, this]
    simp [hz]
    refine vcRet_of [] ?_ rfl
    simp [cancelK, hc, g1, g2, findD_at h.f.du hx, hg, bad]
end Go.Proofs.YtajjmhpdiikjhaaGreat.Po
