/- The reference, together. No condition. -/
import Derived.Test.YtplooifpgmlofaaGreatN14
import Derived.Test.YtplooifpgmlofaaGreatN4
import Derived.Test.YtplooifpgmlofaaGreatN8
namespace Go.Proofs.YtplooifpgmlofaaGreat
open Go.RowKit

def seen (Y : Sys) (f : Cf) (w : Option ByteArray) : FdR := goX (leafR Y f w) Y f 60 [] [] f.switches (⟨0, 0, true, false⟩, ⟨[], [], [], false⟩)
def seenR (Y : Sys) (f : Cf) (w : Option ByteArray) : Rz := ⟨(seen Y f w).1.runs, (seen Y f w).1.stuck, (seen Y f w).2.outs, (seen Y f w).1.full⟩
theorem Meets.nil12 {P : Program} {f sz sz2 : Nat} {a : PV} {args : List PV} {ext : List MObj} {Q : Res → Prop} (h0 : 0 < sz) (h2 : 0 < sz2) (h : Meets P f (a :: .d (.sl sz []) :: .d (.sl sz2 []) :: args) ext Q) : Meets P f (a :: .d (.v (.slice none 0 0)) :: .d (.v (.slice none 0 0)) :: args) ext Q := by
  refine ⟨h.1, fun w S m T vs hv hM => h.2 w S m T vs ?_ hM⟩
  revert hv
  cases vs.toList with
  | nil => exact id
  | cons u vs => cases vs with
    | nil => exact fun h => h.2.elim
    | cons v vs => cases vs with
      | nil => exact fun h => h.2.2.elim
      | cons x vs => exact fun ⟨g1, g2, g3, g4⟩ => ⟨g1, nil_data g2 h0, nil_data g3 h2, g4⟩
@[simp] def search0 (f : Cf) (w : Option ByteArray) : MObj :=
  .box 81 [.d (.v (.pointer none)), .i f.most, .i f.switches, .b f.sleeps, .b false, .b w.isSome, .d (.v (.string (w.getD ByteArray.empty))), .d (.v (.slice none 0 0)), .b false, .d (.v (.slice none 0 0)), .i 0, .i 0, .d (.v (.slice none 0 0)), .b false]
inductive SeeR {Y : Sys} (A : RPlr Y) (f : Cf) (w : Option ByteArray) : Res → Prop
  | mk (p : List Int) (hp : legal Y p) : SeeR A f w ⟨(seenR Y f w).pv, [.sys (A.at_ (some p)), searchO f w (seen Y f w) 1000000 2000000], [runsO (seen Y f w).2.runs]⟩
set_option maxRecDepth 20000 in
set_option maxHeartbeats 2000000 in
theorem refExplore_m {Y : Sys} (hY : Fair Y) (A : RPlr Y) (f : Cf) (w : Option ByteArray) (hm : 0 ≤ f.most ∧ f.most ≤ 100000) (hs : 0 ≤ f.switches ∧ f.switches ≤ 60) (q : Option (List Int)) (hq : ∀ p, q = some p → legal Y p) :
    Meets Tryz.prog 24 [.ptr 1000000 0, .ptr 1000001 0] [.sys (A.at_ q), search0 f w] (SeeR A f w) := by
  refine meetsP [(5, [.cell 1000001 9 900 24 1, .cell 1000001 12 901 9 1, .seen 1000001 12, .cell 1000001 7 902 3 1, .seen 1000001 7])] tbSOk mixed Tryz.func24 pl24 rfl rfl ?_
  obtain ⟨R, hR⟩ : ∃ R, seen Y f w = R := ⟨_, rfl⟩
  simp [Tryz.ntmps24, Prep.run]
  refine (Meets.nil12 (sz := 1) (sz2 := 2) (by omega) (by omega) (refFrom_m hY A f w 60 [] [] f.switches (⟨0, 0, true, false⟩, ⟨[], [], [], false⟩) q (by simp) (legal_nil Y) hq (by simp) (fun _ h => by cases h) hs ⟨⟨hm.2, by simp, by simpa using hm.1, by simp, by simp⟩, by simp, by simp⟩ rfl)).mono ?_
  rw [show goX (leafR Y f w) Y f 60 [] [] f.switches (⟨0, 0, true, false⟩, ⟨[], [], [], false⟩) = R from hR]
  rintro _ ⟨p, hp, rfl⟩
  simp
  refine vcRet_of [900] ?_ (.mk p hp)
  simp [seenR, hR]
inductive RefR {Y : Sys} (A : RPlr Y) (q : Option (List Int)) (ok : Prop) (f : Cf) (e : Int) : Res → Prop
  | yes (h : ok) (p : List Int) (hp : legal Y p) : RefR A q ok f e ⟨.tup [(seenR Y f none).pv, .i 0], [.sys (A.at_ (some p))], []⟩
  | no (h : ¬ ok) : RefR A q ok f e ⟨.tup [pz0, .i e], [.sys (A.at_ q)], []⟩
theorem refRuns_m (most : Int) : Meets Tryz.prog 23 [.i most] [] (Ret (.i (if okRuns most then 0 else 7))) := by
  refine meets tbSOk mixed Tryz.func23 pl23 rfl rfl ?_
  by_cases h1 : most < 1
  · simp [Tryz.ntmps23, h1]
    refine vcRet_of [] ?_ rfl
    simp [show ¬ 1 ≤ most by omega]
  · by_cases h2 : 100000 < most
    · simp [Tryz.ntmps23, h1, h2]
      refine vcRet_of [] ?_ rfl
      simp [show ¬ most ≤ 100000 by omega]
    · simp [Tryz.ntmps23, h1, h2]
      refine vcRet_of [] ?_ rfl
      simp [show most ≤ 100000 by omega, show 1 ≤ most by omega]
section
variable {Y : Sys} (hY : Fair Y) (A : RPlr Y)
include hY
theorem refAll_m (most : Int) (q : Option (List Int)) (hq : ∀ p, q = some p → legal Y p) :
    Meets Tryz.prog 7 [.ptr 1000000 0, .i most] [.sys (A.at_ q)] (RefR A q (okRuns most) ⟨most, 60, false⟩ 7) := by
  refine meetsP [] tbSOk mixed Tryz.func7 pl7 rfl rfl ?_
  simp [Tryz.ntmps7]
  refine (refRuns_m most).mono ?_
  rintro _ rfl
  by_cases hr : okRuns most
  · simp [if_pos hr]
    refine (refExplore_m hY A ⟨most, 60, false⟩ none (by unfold okRuns at hr; constructor <;> dsimp only <;> omega) (by dsimp only; omega) q hq).mono ?_
    rintro _ ⟨p, hp⟩
    simp
    refine vcRet_of [] ?_ (.yes hr p hp)
    simp [seenR]
  · simp [if_neg hr]
    refine vcRet_of [] ?_ (.no hr)
    simp
end
end Go.Proofs.YtplooifpgmlofaaGreat
namespace Go.Proofs.YtplooifpgmlofaaGreat
open Go.RowKit

theorem less_lt : ∀ a b : List UInt8, Op.bytesLess a b = decide (a < b)
  | a, [] => by
    rw [show Op.bytesLess a [] = false by cases a <;> rfl]
    exact (decide_eq_false (List.not_lt_nil a)).symm
  | [], b :: y => by
    rw [show Op.bytesLess [] (b :: y) = true from rfl]
    exact (decide_eq_true (List.nil_lt_cons b y)).symm
  | a :: x, b :: y => by
    rw [show Op.bytesLess (a :: x) (b :: y) = (decide (a < b) || (a == b && Op.bytesLess x y)) from rfl, less_lt x y, Bool.eq_iff_iff]
    simp [List.cons_lt_cons_iff]
def leB (x y : ByteArray) : Prop := x.data.toList ≤ y.data.toList
theorem less_le {x y : ByteArray} : Op.bytesLess x.toList y.toList = true ↔ ¬ leB y x := by
  rw [less_lt, ByteArray.toList_eq, ByteArray.toList_eq]
  unfold leB
  simp
theorem leB_trans {x y z : ByteArray} (h1 : leB x y) (h2 : leB y z) : leB x z := List.le_trans h1 h2
theorem leB_anti {x y : ByteArray} (h1 : leB x y) (h2 : leB y x) : x = y := by
  have h := List.le_antisymm h1 h2
  exact ByteArray.ext (Array.toList_inj.1 h)
theorem leB_total (x y : ByteArray) : leB x y ∨ leB y x := List.le_total _ _
theorem leB_refl (x : ByteArray) : leB x x := (leB_total x x).elim id id
theorem sortB_sorted (l : List ByteArray) : (sortB l).Pairwise leB := by
  unfold sortB
  rw [List.pairwise_map]
  have tr : ∀ a b c : List UInt8, decide (a ≤ b) = true → decide (b ≤ c) = true → decide (a ≤ c) = true := fun a b c h1 h2 => decide_eq_true (List.le_trans (of_decide_eq_true h1) (of_decide_eq_true h2))
  have tt : ∀ a b : List UInt8, (decide (a ≤ b) || decide (b ≤ a)) = true := fun a b => by
    rcases List.le_total a b with h | h <;> simp [h]
  refine (List.pairwise_mergeSort tr tt _).imp fun {a b} h => ?_
  show (⟨a.toArray⟩ : ByteArray).data.toList ≤ (⟨b.toArray⟩ : ByteArray).data.toList
  simpa using h
theorem sortB_self (l : List ByteArray) : (sortB l).Perm l := by
  unfold sortB
  have h := (List.mergeSort_perm (l.map fun s : ByteArray => s.data.toList) fun x y => decide (x ≤ y)).map fun b : List UInt8 => (⟨b.toArray⟩ : ByteArray)
  rw [List.map_map] at h
  have : ((fun b : List UInt8 => (⟨b.toArray⟩ : ByteArray)) ∘ fun s : ByteArray => s.data.toList) = id := by
    funext s; rfl
  rw [this, List.map_id] at h
  exact h
theorem sorted_eq {l l' : List ByteArray} (h : l.Perm l') (h1 : l.Pairwise leB) (h2 : l'.Pairwise leB) : l = l' :=
  h.eq_of_pairwise (fun _ _ _ _ g1 g2 => leB_anti g1 g2) h1 h2
theorem lowR_spec (o : ByteArray) (l : List ByteArray) : (∀ x ∈ l.take (lowR o l), Op.bytesLess x.toList o.toList = true) ∧ (∀ x, l[lowR o l]? = some x → Op.bytesLess x.toList o.toList = false) := by
  constructor
  · intro x hx
    obtain ⟨i, hi, rfl⟩ := List.mem_iff_getElem.1 hx
    rw [List.length_take] at hi
    rw [List.getElem_take]
    have := List.not_of_lt_findIdx (p := fun x : ByteArray => !Op.bytesLess x.toList o.toList) (xs := l) (i := i) (show i < lowR o l by omega)
    simpa using this
  · intro x hx
    obtain ⟨hl, e⟩ := List.getElem?_eq_some_iff.1 hx
    have := List.findIdx_getElem (p := fun x : ByteArray => !Op.bytesLess x.toList o.toList) (xs := l) (w := hl)
    have this : (!Op.bytesLess (l[lowR o l]).toList o.toList) = true := this
    rw [e] at this
    simpa using this
theorem addR_sort (o : ByteArray) (l : List ByteArray) : addR o (sortB l) = sortB (putZ o l) := by
  have hs := sortB_sorted l
  have hp := sortB_self l
  generalize sortB l = L at hs hp
  obtain ⟨h1, h2⟩ := lowR_spec o L
  have hle := lowR_le o L
  have hge : ∀ x ∈ L.drop (lowR o L), leB o x := fun x hx => by
    cases hd : L.drop (lowR o L) with
    | nil => rw [hd] at hx; cases hx
    | cons y r =>
      have hy : L[lowR o L]? = some y := by
        have := List.getElem?_drop (xs := L) (i := lowR o L) (j := 0)
        rw [hd] at this
        simpa using this.symm
      have hoy : leB o y := by
        have := h2 y hy
        have hn : ¬ ¬ leB o y := fun h => by rw [less_le.2 h] at this; cases this
        exact Classical.not_not.1 hn
      rw [hd] at hx
      rcases List.mem_cons.1 hx with rfl | hx
      · exact hoy
      · have := List.Pairwise.sublist (List.drop_sublist (lowR o L) L) hs
        rw [hd, List.pairwise_cons] at this
        exact leB_trans hoy (this.1 x hx)
  have hlt : ∀ x ∈ L.take (lowR o L), leB x o := fun x hx => by
    have := less_le.1 (h1 x hx)
    exact (leB_total x o).resolve_right this
  by_cases ho : o ∈ l
  · have hoL : o ∈ L := hp.mem_iff.2 ho
    have hfix : sortB l = L := sorted_eq ((sortB_self l).trans hp.symm) (sortB_sorted l) hs
    have hat : L[lowR o L]? = some o := by
      have hnt : o ∉ L.take (lowR o L) := fun h => by
        have := less_le.1 (h1 o h)
        exact this (leB_refl o)
      have hd : o ∈ L.drop (lowR o L) := by
        rw [← List.take_append_drop (lowR o L) L] at hoL
        exact (List.mem_append.1 hoL).resolve_left hnt
      cases hdd : L.drop (lowR o L) with
      | nil => rw [hdd] at hd; cases hd
      | cons y r =>
        have hy : L[lowR o L]? = some y := by
          have := List.getElem?_drop (xs := L) (i := lowR o L) (j := 0)
          rw [hdd] at this
          simpa using this.symm
        have hoy := hge y (by rw [hdd]; simp)
        have hyo : leB y o := by
          rw [hdd] at hd
          rcases List.mem_cons.1 hd with rfl | hd
          · exact leB_refl _
          · have := List.Pairwise.sublist (List.drop_sublist (lowR o L) L) hs
            rw [hdd, List.pairwise_cons] at this
            exact this.1 o hd
        rw [hy, leB_anti hyo hoy]
    unfold addR putZ
    rw [if_pos hat, if_pos ho, hfix]
  · have hno : ¬ L[lowR o L]? = some o := fun h => ho (hp.mem_iff.1 (List.mem_of_getElem? h))
    unfold addR putZ
    rw [if_neg hno, if_neg ho]
    refine sorted_eq ?_ ?_ (sortB_sorted _)
    · refine List.Perm.trans ?_ (sortB_self _).symm
      refine (List.perm_middle).trans ?_
      rw [List.take_append_drop]
      exact (List.Perm.cons o hp).trans (List.perm_append_singleton o l).symm
    · rw [List.pairwise_append]
      refine ⟨List.Pairwise.sublist (List.take_sublist _ _) hs, ?_, fun a ha b hb => ?_⟩
      · rw [List.pairwise_cons]
        exact ⟨hge, List.Pairwise.sublist (List.drop_sublist _ _) hs⟩
      · rcases List.mem_cons.1 hb with rfl | hb
        · exact hlt a ha
        · exact leB_trans (hlt a ha) (hge b hb)
theorem goX_rel {β γ : Type} {Y : Sys} {f : Cf} {lf : List Int → Bool → FdB β → FdB β} {lg : List Int → Bool → FdB γ → FdB γ} {R : FdB β → FdB γ → Prop} (h1 : ∀ s u, R s u → s.1 = u.1) (hf : ∀ s u, R s u → R ({ s.1 with full := false }, s.2) ({ u.1 with full := false }, u.2))
    (hlf : ∀ p cut s u, R s u → R (lf p cut s) (lg p cut u)) : ∀ (n : Nat) (p : List Int) (sl : List Stp) (left : Int) (s : FdB β) (u : FdB γ), R s u → R (goX lf Y f n p sl left s) (goX lg Y f n p sl left u)
  | 0, _, _, _, _, _, h => hlf _ _ _ _ h
  | n + 1, p, sl, left, s, u, h => by
    unfold goX
    split
    · exact hlf _ _ _ _ h
    · have : ∀ (last : Int) (ts : List Int) (sl : List Stp) (s : FdB β) (u : FdB γ), R s u → R (loopX (goX lf Y f n) Y f p last left ts sl s) (loopX (goX lg Y f n) Y f p last left ts sl u) := by
        intro last ts
        induction ts with
        | nil => exact fun _ _ _ h => h
        | cons t ts ih =>
          intro sl s u h
          have hr := goX_rel (Y := Y) (f := f) h1 hf hlf n (p ++ [t]) (sl.filter fun q => indy q.uses (Y.foot p t)) (if 0 < last ∧ last ≠ t then left - 1 else left) s u h
          unfold loopX
          generalize (if 0 < last ∧ last ≠ t then left - 1 else left) = r at hr ⊢
          rw [h1 _ _ hr]
          split
          · exact ih _ _ _ h
          · split
            · exact ih _ _ _ (hf _ _ h)
            · split
              · exact hr
              · exact ih _ _ _ hr
      exact this _ _ _ _ _ h
theorem leaf_rel {Y : Sys} {f : Cf} (p : List Int) (cut : Bool) (s : Fd) (u : FdR) (h : s.1 = u.1 ∧ sortB s.2 = u.2.outs) : (lfN Y f p cut s).1 = (leafR Y f none p cut u).1 ∧ sortB (lfN Y f p cut s).2 = (leafR Y f none p cut u).2.outs := by
  obtain ⟨h1, h2⟩ := h
  unfold lfN leafN leafR
  rw [h1]
  split
  · exact ⟨rfl, h2⟩
  · split
    · exact ⟨rfl, h2⟩
    · refine ⟨by simp, ?_⟩
      show sortB (putZ (Y.out p) s.2) = addR (Y.out p) u.2.outs
      rw [← addR_sort, h2]
theorem found_seen (Y : Sys) (f : Cf) : foundR Y f = seenR Y f none := by
  have := goX_rel (Y := Y) (f := f) (lf := lfN Y f) (lg := leafR Y f none) (R := fun s u => s.1 = u.1 ∧ sortB s.2 = u.2.outs) (fun _ _ h => h.1) (fun s u h => ⟨by rw [h.1], h.2⟩) leaf_rel 60 [] [] f.switches (⟨0, 0, true, false⟩, []) (⟨0, 0, true, false⟩, ⟨[], [], [], false⟩) ⟨rfl, by simp [sortB]⟩
  obtain ⟨h1, h2⟩ := this
  unfold foundR seenR found seen
  rw [h1, h2]
end Go.Proofs.YtplooifpgmlofaaGreat
namespace Go.Proofs.YtplooifpgmlofaaGreat
open Go.RowKit
open Lo (Sy Lk Qu chk Fits Wide)

@[simp] def Sx.pv (x : Sx) : PV := .agg [.d (Lo.lks x.s.locks), .d (Lo.qus x.s.queues), .d (Lo.il x.s.groups), .d (prgsD x.ps)]
def insFar (y : Ins) : Bool := decide (y.op = 11) || (decide (y.op = 12) || decide (y.op = 13))
def quFar (u : Qu) : Bool := decide (5 < u.items.length)
def countTo (ps : List Prg) : Nat → Int
  | 0 => 0
  | k + 1 => IntKind.i64.wrap (countTo ps k + (ps.getD k []).length)
def smallX (x : Sx) : Bool :=
  !(x.ps.any fun l => l.any insFar) && (!(x.s.queues.any quFar) && (decide (newE x.s x.ps = 0) && (decide (countTo x.ps x.ps.length ≤ 14) && (decide (1 ≤ x.ps.length) && (decide (x.ps.length ≤ 3) && (decide (x.s.locks.length ≤ 3) && (decide (x.s.queues.length ≤ 3) && decide (x.s.groups.length ≤ 3))))))))
def Lies (x : Sx) : Prop := Wide x.s ∧ x.ps.length ≤ 9223372036854775807 ∧ ∀ l ∈ x.ps, l.length ≤ 9223372036854775807
set_option maxRecDepth 20000 in
set_option maxHeartbeats 4000000 in
theorem small_m (x : Sx) (hx : Lies x) : Meets Tryz.prog 5 [x.pv] [] (Ret (.b (smallX x))) := by
  obtain ⟨⟨f1, f2, f3, f4, f5⟩, g1, g2⟩ := hx
  refine meetsP [] tbSOk mixed Tryz.func5 pl5 rfl rfl ?_
  simp [Tryz.ntmps5]
  refine vc_loop (fun n σ => ∃ k : Nat, n = x.ps.length - k ∧ k ≤ x.ps.length ∧ noneTo (fun l : Prg => l.any insFar) x.ps k ∧ σ = ⟨119, [(3, .i (countTo x.ps k)), (4, .i k), (1, .ptr 1 0)], [(1, .box 29 [.d (Lo.lks x.s.locks), .d (Lo.qus x.s.queues), .d (Lo.il x.s.groups), .d (prgsD x.ps)])]⟩) ⟨_, _, ⟨0, rfl, Nat.zero_le _, noneTo_zero _ _, rfl⟩, [], _, rfl, by simp [countTo]⟩ ?_
  rintro n σ ⟨k, rfl, hk, hn, rfl⟩
  by_cases hlt : k < x.ps.length
  · obtain ⟨l, hl, e⟩ := at_lt hlt
    have hll := g2 l (List.mem_of_getElem? hl)
    have hct : countTo x.ps (k + 1) = IntKind.i64.wrap (countTo x.ps k + l.length) := by rw [countTo, List.getD_eq_getElem?_getD, hl]; rfl
    simp [hlt, e]
    refine vc_loop (fun n σ => ∃ j : Nat, n = l.length - j ∧ j ≤ l.length ∧ noneTo insFar l j ∧ σ = ⟨119, [(6, .i j), (5, .d (insD l)), (3, .i (countTo x.ps (k + 1))), (4, .i k), (1, .ptr 1 0)], [(1, .box 29 [.d (Lo.lks x.s.locks), .d (Lo.qus x.s.queues), .d (Lo.il x.s.groups), .d (prgsD x.ps)])]⟩) ⟨_, _, ⟨0, rfl, Nat.zero_le _, noneTo_zero _ _, rfl⟩, [], _, rfl, by simp [hct]⟩ ?_
    rintro n σ ⟨j, rfl, hj, hn2, rfl⟩
    by_cases hlt2 : j < l.length
    · obtain ⟨y, hy, e2⟩ := at_lt hlt2
      by_cases h11 : y.op = 11
      · simp [hlt2, e2, h11]
        refine vcRet_of [] ?_ rfl
        have h1 : l.any insFar = true := any_hit hy (by simp [insFar, h11])
        simp [smallX, any_hit (p := fun l : Prg => l.any insFar) hl h1]
      by_cases h12 : y.op = 12
      · simp [hlt2, e2, h12]
        refine vcRet_of [] ?_ rfl
        have h1 : l.any insFar = true := any_hit hy (by simp [insFar, h12])
        simp [smallX, any_hit (p := fun l : Prg => l.any insFar) hl h1]
      by_cases h13 : y.op = 13
      · simp [hlt2, e2, h13]
        refine vcRet_of [] ?_ rfl
        have h1 : l.any insFar = true := any_hit hy (by simp [insFar, h13])
        simp [smallX, any_hit (p := fun l : Prg => l.any insFar) hl h1]
      simp [hlt2, e2, h11, h12, h13, Lo.wrap_suW hlt2 hll]
      exact ⟨_, by omega, _, ⟨j + 1, rfl, hlt2, noneTo_succ hn2 hy (by simp [insFar, h11, h12, h13]), rfl⟩, [], _, rfl, by simp⟩
    · obtain rfl : j = l.length := by omega
      simp [Lo.wrap_suW hlt g1]
      exact ⟨_, by omega, _, ⟨k + 1, rfl, hlt, noneTo_succ hn hl (noneTo_any hn2), rfl⟩, [], _, rfl, by simp⟩
  obtain rfl : k = x.ps.length := by omega
  have hfar := noneTo_any hn
  simp
  refine vc_loop (fun n σ => ∃ k : Nat, n = x.s.queues.length - k ∧ k ≤ x.s.queues.length ∧ noneTo quFar x.s.queues k ∧ σ = ⟨119, [(7, .i k), (3, .i (countTo x.ps x.ps.length)), (1, .ptr 1 0)], [(1, .box 29 [.d (Lo.lks x.s.locks), .d (Lo.qus x.s.queues), .d (Lo.il x.s.groups), .d (prgsD x.ps)])]⟩) ⟨_, _, ⟨0, rfl, Nat.zero_le _, noneTo_zero _ _, rfl⟩, [], _, rfl, by simp⟩ ?_
  rintro n σ ⟨k, rfl, hk, hn3, rfl⟩
  by_cases hlt : k < x.s.queues.length
  · obtain ⟨u, hu, e⟩ := at_lt hlt
    by_cases h5 : (5 : Int) < u.items.length
    · simp [hlt, e, h5]
      refine vcRet_of [] ?_ rfl
      have : quFar u = true := decide_eq_true (by omega)
      simp [smallX, any_hit hu this]
    · simp [hlt, e, h5, Lo.wrap_suW hlt f2]
      exact ⟨_, by omega, _, ⟨k + 1, rfl, hlt, noneTo_succ hn3 hu (decide_eq_false (by omega)), rfl⟩, [], _, rfl, by simp⟩
  obtain rfl : k = x.s.queues.length := by omega
  have hqf := noneTo_any hn3
  simp
  refine (newBench_m x.s ⟨f1, f2, f3, f4, f5⟩ x.ps).mono ?_
  rintro _ (h | ⟨e, h, h0⟩)
  · by_cases hc : countTo x.ps x.ps.length ≤ 14
    case neg =>
      simp [hc]
      refine vcRet_of [] ?_ rfl
      simp [smallX, hc]
    by_cases a0 : (1 : Int) ≤ x.ps.length
    case neg =>
      simp [hc, a0]
      refine vcRet_of [] ?_ rfl
      simp [smallX, show ¬ 1 ≤ x.ps.length by omega]
    by_cases a1 : (x.ps.length : Int) ≤ 3
    case neg =>
      simp [hc, a0, a1]
      refine vcRet_of [] ?_ rfl
      simp [smallX, show ¬ x.ps.length ≤ 3 by omega]
    by_cases a2 : (x.s.locks.length : Int) ≤ 3
    case neg =>
      simp [hc, a0, a1, a2]
      refine vcRet_of [] ?_ rfl
      simp [smallX, show ¬ x.s.locks.length ≤ 3 by omega]
    by_cases a3 : (x.s.queues.length : Int) ≤ 3
    case neg =>
      simp [hc, a0, a1, a2, a3]
      refine vcRet_of [] ?_ rfl
      simp [smallX, show ¬ x.s.queues.length ≤ 3 by omega]
    by_cases a4 : (x.s.groups.length : Int) ≤ 3
    case neg =>
      simp [hc, a0, a1, a2, a3, a4]
      refine vcRet_of [] ?_ rfl
      simp [smallX, show ¬ x.s.groups.length ≤ 3 by omega]
    simp [hc, a0, a1, a2, a3, a4]
    refine vcRet_of [] ?_ rfl
    simp [smallX, hfar, hqf, h, hc, show 1 ≤ x.ps.length by omega, show x.ps.length ≤ 3 by omega, show x.s.locks.length ≤ 3 by omega, show x.s.queues.length ≤ 3 by omega, show x.s.groups.length ≤ 3 by omega]
  · simp [h0]
    refine vcRet_of [] ?_ rfl
    simp [smallX, h, h0]
end Go.Proofs.YtplooifpgmlofaaGreat
namespace Go.Proofs.YtplooifpgmlofaaGreat
open Go.RowKit

def anyH {α : Type} (F : α → Hid) (ok : α → Prop) : Hid where
  R := fun b sub w S => ∃ a, ok a ∧ (F a).R b sub w S
  keep := fun hS hc hb ⟨a, h1, h2⟩ => ⟨a, h1, (F a).keep hS hc hb h2⟩
  held := fun ⟨a, _, h2⟩ => (F a).held h2
theorem look_sys {k : Nat} {H : Hid} : look k (extMem 1000000 [MObj.sys H] ++ extMem 2000000 []) = if k = 1000000 then some (.sys H) else none := by
  simp [extMem, look]
theorem Meets.blur {P : Program} {f : Nat} {args : List PV} {ext : List MObj} {v : PV} {α : Type} {F : α → Hid} {ok : α → Prop} (h : Meets P f args ext (fun r => ∃ a, ok a ∧ r = ⟨v, [.sys (F a)], []⟩)) :
    Meets P f args ext (fun r => r = ⟨v, [.sys (anyH F ok)], []⟩) := by
  refine ⟨h.1, fun w S m T vs hv hM => (h.2 w S m T vs hv hM).mono ?_⟩
  rintro e w' ⟨_, u, m', S', ⟨a, ha, rfl⟩, he, hr, hM', hk, hl, hn⟩
  refine ⟨_, u, m', S', rfl, he, hr, ?_, ⟨fun k l h1 => ?_, hk.2⟩, hl, hn⟩
  · refine { dom := fun k l h1 => ?_, objs := fun k o h1 => ?_, subs := fun k i c b h1 => ?_, subx := hM'.subx, parts := hM'.parts, young := hM'.young, grow := hM'.grow, sold := hM'.sold, snew := hM'.snew, sin := hM'.sin, scell := hM'.scell, ext := fun k l h1 h2 h3 => ?_, marks := hM'.marks }
    · have := hM'.dom k l h1
      rw [look_sys] at this ⊢
      by_cases hk0 : k = 1000000
      · rw [if_pos hk0]; rfl
      · rw [if_neg hk0] at this; cases this
    · rw [look_sys] at h1
      by_cases hk0 : k = 1000000
      · rw [if_pos hk0] at h1
        cases h1
        obtain ⟨b, c, g1, g2⟩ := hM'.objs k _ (by rw [look_sys, if_pos hk0])
        exact ⟨b, c, g1, a, ha, g2⟩
      · rw [if_neg hk0] at h1; cases h1
    · obtain ⟨o, g1, _⟩ := hM'.subs k i c b h1
      rw [look_sys] at g1
      by_cases hk0 : k = 1000000
      · exact ⟨_, by rw [look_sys, if_pos hk0], rfl⟩
      · rw [if_neg hk0] at g1; cases g1
    · refine (hM'.ext k l h1 h2 h3).imp id fun ⟨g1, g2⟩ => ⟨?_, g2⟩
      rw [look_sys] at g1 ⊢
      by_cases hk0 : k + 3000000 = 1000000
      · rw [if_pos hk0]; rfl
      · rw [if_neg hk0] at g1; cases g1
  · obtain ⟨l', g1, g2⟩ := hk.1 k l h1
    refine ⟨l', g1, g2.imp id fun ⟨g3, g4⟩ => ⟨?_, g4⟩⟩
    revert g3
    unfold grownAt
    cases hx : k - 1000000 with
    | zero => exact id
    | succ n => exact id
abbrev begun {Y : Sys} (A : Plr Y) : Hid := anyH (fun p => A.at_ (some p)) (legal Y)
section
variable {Y : Sys} (hY : Fair Y) (A : RPlr Y)
include hY
theorem refAllU_m (most : Int) (hr : okRuns most) (q : Option (List Int)) (hq : ∀ p, q = some p → legal Y p) :
    Meets Tryz.prog 7 [.ptr 1000000 0, .i most] [.sys (A.at_ q)] (fun r => r = ⟨.tup [(seenR Y ⟨most, 60, false⟩ none).pv, .i 0], [.sys (begun A.toPlr)], []⟩) := by
  refine Meets.blur ((refAll_m hY A most q hq).mono ?_)
  rintro _ (⟨_, p, hp⟩ | h)
  · exact ⟨p, hp, rfl⟩
  · exact absurd hr h
end
end Go.Proofs.YtplooifpgmlofaaGreat
namespace Go.Proofs.YtplooifpgmlofaaGreat
open Go.RowKit
open Lo (Sy Lk Qu chk Fits Wide)

structure Vals (x : Sx) : Prop where
  vals : ∀ l ∈ x.ps, ∀ y ∈ l, I64 y.val
  items : ∀ u ∈ x.s.queues, ∀ v ∈ u.items, I64 v
theorem small_ok {x : Sx} (h : smallX x = true) (hv : Vals x) : XOk x := by
  unfold smallX at h
  simp only [Bool.and_eq_true, Bool.not_eq_true', decide_eq_true_eq] at h
  obtain ⟨h1, h2, h3, h4, h5, h6, h7, h8, h9⟩ := h
  unfold newE at h3
  split at h3
  · rename_i hc; exact absurd h3 hc
  · rename_i hc
    split at h3
    · cases h3
    · rename_i h16
      split at h3
      · cases h3
      · rename_i hl
        split at h3
        · cases h3
        · rename_i hb
          refine ⟨⟨by simpa using hc, ⟨by omega, fun l hm => ?_, fun l hm y hy => ?_⟩⟩, hv.vals, hv.items⟩
          · have := List.any_eq_false.1 (by simpa using hl : x.ps.any prgLong = false) l hm
            unfold prgLong at this
            simp at this
            exact this
          · have g1 := List.any_eq_false.1 (by simpa using hb : (x.ps.any fun l => l.any insBad) = false) l hm
            have g2 := List.any_eq_false.1 (by simpa using g1 : l.any insBad = false) y hy
            have g3 := List.any_eq_false.1 h1 l hm
            have g4 := List.any_eq_false.1 (by simpa using g3 : l.any insFar = false) y hy
            unfold insBad at g2
            unfold insFar at g4
            simp at g2 g4
            exact ⟨g2.1, g2.2, g4.1, g4.2.1, g4.2.2⟩
theorem seenR_len {Y : Sys} {f : Cf} (hm : 0 ≤ f.most ∧ f.most ≤ 100000) : (seenR Y f none).outs.length < 4294967296 := by
  have := goX_inv (f := f) (lf := leafR Y f none) (Y := Y) (R := FdR.Ok f) (fun s h => ⟨⟨h.ct.most, h.ct.runs0, h.ct.runs, h.ct.stuck0, h.ct.stuck⟩, h.outs, h.runs⟩) (fun p cut s h => leafR_ok h) 60 [] [] f.switches (⟨0, 0, true, false⟩, ⟨[], [], [], false⟩) ⟨⟨hm.2, by simp, by simpa using hm.1, by simp, by simp⟩, by simp, by simp⟩
  have h1 := this.outs
  have h2 := this.ct.runs
  show (goX (leafR Y f none) Y f 60 [] [] f.switches (⟨0, 0, true, false⟩, ⟨[], [], [], false⟩)).2.outs.length < _
  omega
theorem hideN {x : Sx} (hx : XOk x) {f : Nat} {a : PV} {args : List PV} {r : Res} (h : Meets Tryz.prog f (a :: args) [.sys ((refQ x hx).at_ none)] (fun r' => r' = r)) : Meets Tryz.prog f (a :: args) [plN x] (fun r' => r' = r) :=
  Meets.hide (by simp) h
end Go.Proofs.YtplooifpgmlofaaGreat
namespace Go.Proofs.YtplooifpgmlofaaGreat
open Go.RowKit Go.ChangeShapes Go.WideShapes
open Lo (Sy Lk Qu il lks qus)
set_option maxRecDepth 100000
theorem opens2r : Opens Tryz.prog 2 (fun ds => ∃ x, ds = [x] ∧ ∃ n, x = .v (.int .i64 n) ∧ I64 n) := (opens_int (k := .i64) Tryz.underlying2 (by kernel_rfl)).mono fun _ ⟨n, e, h1, h2⟩ => ⟨_, e, n, rfl, h1, h2⟩
theorem opens3r : Opens Tryz.prog 3 (fun ds => ∃ x, ds = [x] ∧ ∃ n, x = .v (.int .i64 n) ∧ I64 n) := (opens_int (k := .i64) Tryz.underlying3 (by kernel_rfl)).mono fun _ ⟨n, e, h1, h2⟩ => ⟨_, e, n, rfl, h1, h2⟩
abbrev Far {α : Type} (l : List α) : Prop := l.length ≤ 9223372036854775807
theorem far_of {α : Type} {l : List α} (h : l.length ≤ maxLen) : Far l := by unfold maxLen at h; exact h
theorem opens24 : Opens Tryz.prog 24 (fun ds => ∃ x, ds = [x] ∧ ∃ l : List Int, x = il l ∧ Far l) :=
  (opens_slice Tryz.underlying24 (by kernel_rfl) (opens3r.mono (Q' := fun ds => ∃ n : Int, ds = Lo.ics n ∧ True) fun ds ⟨x, h, n, e, _⟩ => ⟨n, by rw [h, e]; rfl, trivial⟩) (sz := 1) (by kernel_rfl) (by decide)).mono fun ds h => by
    obtain ⟨xs, rfl, h1, h2⟩ := h
    obtain ⟨ws, rfl, _⟩ := rows_of h1
    exact ⟨_, rfl, ws, rfl, far_of (by simpa using h2)⟩
theorem opens75 : Opens Tryz.prog 67 (fun ds => ∃ x, ds = [x] ∧ ∃ l : List Int, x = il l ∧ Far l ∧ ∀ v ∈ l, I64 v) :=
  (opens_slice Tryz.underlying67 (by kernel_rfl) (opens2r.mono (Q' := fun ds => ∃ n : Int, ds = Lo.ics n ∧ I64 n) fun ds ⟨x, h, n, e, hn⟩ => ⟨n, by rw [h, e]; rfl, hn⟩) (sz := 1) (by kernel_rfl) (by decide)).mono fun ds h => by
    obtain ⟨xs, rfl, h1, h2⟩ := h
    obtain ⟨ws, rfl, h3⟩ := rows_of h1
    exact ⟨_, rfl, ws, rfl, far_of (by simpa using h2), h3⟩
theorem opens134 : Opens Tryz.prog 140 (fun ds => ∃ x : Lk, ds = x.ds ∧ Far x.rd) :=
  (opens_struct Tryz.underlying140 (Qs := [_, _]) ⟨rfl, opens3r, by kernel_rfl, opens24, by show _ = _; kernel_rfl⟩).mono fun ds h => by
    obtain ⟨_, _, rfl, ⟨_, rfl, a, rfl, _⟩, _, _, rfl, ⟨_, rfl, b, rfl, hb⟩, rfl⟩ := h
    exact ⟨⟨a, b⟩, rfl, hb⟩
theorem opens77 : Opens Tryz.prog 69 (fun ds => ∃ x : Qu, ds = x.ds ∧ Far x.items ∧ ∀ v ∈ x.items, I64 v) :=
  (opens_struct Tryz.underlying69 (Qs := [_, _, _]) ⟨rfl, opens3r, by kernel_rfl, opens75, by kernel_rfl, opens4, by show _ = _; kernel_rfl⟩).mono fun ds h => by
    obtain ⟨_, _, rfl, ⟨_, rfl, a, rfl, _⟩, _, _, rfl, ⟨_, rfl, b, rfl, hb⟩, _, _, rfl, ⟨_, rfl, c, rfl⟩, rfl⟩ := h
    exact ⟨⟨a, b, c⟩, rfl, hb⟩
theorem opens22 : Opens Tryz.prog 22 (fun ds => ∃ x, ds = [x] ∧ ∃ l : List Lk, x = lks l ∧ Far l ∧ ∀ y ∈ l, Far y.rd) :=
  (opens_slice Tryz.underlying22 (by kernel_rfl) opens134 (sz := 2) (by kernel_rfl) (by decide)).mono fun ds h => by
    obtain ⟨xs, rfl, h1, h2⟩ := h
    obtain ⟨ws, rfl, h3⟩ := rows_of h1
    exact ⟨_, rfl, ws, rfl, far_of (by simpa using h2), h3⟩
theorem opens23 : Opens Tryz.prog 23 (fun ds => ∃ x, ds = [x] ∧ ∃ l : List Qu, x = qus l ∧ Far l ∧ ∀ y ∈ l, Far y.items ∧ ∀ v ∈ y.items, I64 v) :=
  (opens_slice Tryz.underlying23 (by kernel_rfl) opens77 (sz := 3) (by kernel_rfl) (by decide)).mono fun ds h => by
    obtain ⟨xs, rfl, h1, h2⟩ := h
    obtain ⟨ws, rfl, h3⟩ := rows_of h1
    exact ⟨_, rfl, ws, rfl, far_of (by simpa using h2), h3⟩
theorem opens26 : Opens Tryz.prog 26 (fun ds => ∃ s : Sy, ds = [lks s.locks, qus s.queues, il s.groups] ∧ Lo.Wide s ∧ ∀ u ∈ s.queues, ∀ v ∈ u.items, I64 v) :=
  (opens_struct Tryz.underlying26 (Qs := [_, _, _]) ⟨rfl, opens22, by kernel_rfl, opens23, by kernel_rfl, opens24, by show _ = _; kernel_rfl⟩).mono fun ds h => by
    obtain ⟨_, _, rfl, ⟨_, rfl, a, rfl, ha, ha2⟩, _, _, rfl, ⟨_, rfl, b, rfl, hb, hb2⟩, _, _, rfl, ⟨_, rfl, c, rfl, hc⟩, rfl⟩ := h
    exact ⟨⟨a, b, c⟩, rfl, ⟨ha, hb, hc, ha2, fun u hu => (hb2 u hu).1⟩, fun u hu => (hb2 u hu).2⟩
theorem opens74 : Opens Tryz.prog 66 (fun ds => ∃ x : Ins, ds = x.ds ∧ I64 x.val) :=
  (opens_struct Tryz.underlying66 (Qs := [_, _, _]) ⟨rfl, opens3r, by kernel_rfl, opens3r, by kernel_rfl, opens2r, by show _ = _; kernel_rfl⟩).mono fun ds h => by
    obtain ⟨_, _, rfl, ⟨_, rfl, a, rfl, _⟩, _, _, rfl, ⟨_, rfl, b, rfl, _⟩, _, _, rfl, ⟨_, rfl, c, rfl, hc⟩, rfl⟩ := h
    exact ⟨⟨a, b, c⟩, rfl, hc⟩
theorem opens70 : Opens Tryz.prog 62 (fun ds => ∃ x, ds = [x] ∧ ∃ l : Prg, x = insD l ∧ Far l ∧ ∀ y ∈ l, I64 y.val) :=
  (opens_slice Tryz.underlying62 (by kernel_rfl) opens74 (sz := 3) (by kernel_rfl) (by decide)).mono fun ds h => by
    obtain ⟨xs, rfl, h1, h2⟩ := h
    obtain ⟨ws, rfl, h3⟩ := rows_of h1
    exact ⟨_, rfl, ws, rfl, far_of (by simpa using h2), h3⟩
theorem opens72 : Opens Tryz.prog 64 (fun ds => ∃ x : Prg, ds = prgC x ∧ Far x ∧ ∀ y ∈ x, I64 y.val) :=
  (opens_struct Tryz.underlying64 (Qs := [_]) ⟨rfl, opens70, by show _ = _; kernel_rfl⟩).mono fun ds h => by
    obtain ⟨_, _, rfl, ⟨_, rfl, a, rfl, ha⟩, rfl⟩ := h
    exact ⟨a, rfl, ha⟩
theorem opens27 : Opens Tryz.prog 27 (fun ds => ∃ x, ds = [x] ∧ ∃ l : List Prg, x = prgsD l ∧ Far l ∧ ∀ y ∈ l, Far y ∧ ∀ z ∈ y, I64 z.val) :=
  (opens_slice Tryz.underlying27 (by kernel_rfl) opens72 (sz := 1) (by kernel_rfl) (by decide)).mono fun ds h => by
    obtain ⟨xs, rfl, h1, h2⟩ := h
    obtain ⟨ws, rfl, h3⟩ := rows_of h1
    exact ⟨_, rfl, ws, rfl, far_of (by simpa using h2), h3⟩
theorem opens29 : Opens Tryz.prog 29 (fun ds => ∃ x : Sx, PV.agg (ds.map PV.d) = x.pv ∧ Lies x ∧ (∀ l ∈ x.ps, ∀ y ∈ l, I64 y.val) ∧ ∀ u ∈ x.s.queues, ∀ v ∈ u.items, I64 v) :=
  (opens_struct Tryz.underlying29 (Qs := [_, _]) ⟨rfl, opens26, by kernel_rfl, opens27, by show _ = _; kernel_rfl⟩).mono fun ds h => by
    obtain ⟨_, _, rfl, ⟨s, rfl, hs1, hs2⟩, _, _, rfl, ⟨_, rfl, l, rfl, hl, hl2⟩, rfl⟩ := h
    exact ⟨⟨s, l⟩, rfl, ⟨hs1, hl, fun y hy => (hl2 y hy).1⟩, fun y hy => (hl2 y hy).2, hs2⟩
section
variable {H : Type} {enc : TypeId × Value → H} {w : World} {base : Nat} {spare : Nat → Bool} {held : Bool} {r : Reach} {b0 : Nat} {v : Value} {d : DataW H} {p : List MemPlace} {m : Map}
theorem argSx (hv : Value.okWide Tryz.prog w r b0 29 v) (h : DataW.Trod enc Tryz.prog w base spare held 29 v d p) : ∃ x : Sx, (Lies x ∧ (∀ l ∈ x.ps, ∀ y ∈ l, I64 y.val) ∧ ∀ u ∈ x.s.queues, ∀ v ∈ u.items, I64 v) ∧ Rep m w (allCells w) v x.pv := by
  obtain ⟨ds, ⟨x, hx, h1⟩, hr⟩ := arg_struct (m := m) Tryz.underlying29 opens29 hv h
  rw [hx] at hr
  exact ⟨x, h1, hr⟩
end
end Go.Proofs.YtplooifpgmlofaaGreat
