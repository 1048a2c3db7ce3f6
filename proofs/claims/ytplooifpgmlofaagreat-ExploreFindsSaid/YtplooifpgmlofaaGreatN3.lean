/- Contracts: explore 3. No condition. -/
import Derived.Shelf.Sort.Plain
import Derived.Test.YtplooifpgmlofaaGreatN2
import Derived.Shelf.Slices.In.SortNone
namespace Go.Proofs.YtplooifpgmlofaaGreat
open Go.RowKit Go.Shelf

def rhoF : Nat → Nat
  | 125 => 68
  | 128 => 85
  | 129 => 86
  | 190 => 50
  | 258 => 67
  | 302 => 76
  | 303 => 77
  | 304 => 78
  | 305 => 79
  | 306 => 80
  | 307 => 81
  | 308 => 82
  | 309 => 83
  | 310 => 84
  | 329 => 98
  | 330 => 99
  | 333 => 97
  | 334 => 100
  | 335 => 101
  | 336 => 102
  | 344 => 106
  | n => n
def rhoT : Nat → Nat
  | 31 => 32
  | 46 => 146
  | 51 => 166
  | 53 => 168
  | 131 => 163
  | 182 => 157
  | 183 => 158
  | 218 => 179
  | 222 => 183
  | 228 => 188
  | 229 => 189
  | n => n
def rho : Ren := ⟨rhoF, rhoT, fun x => x⟩
set_option maxRecDepth 100000 in
theorem laysSort : Lays.n190 Tryz.prog rho where
  mixed := mixed
  f125 := by kernel_rfl
  f128 := by kernel_rfl
  f129 := by kernel_rfl
  f190 := by kernel_rfl
  f258 := by kernel_rfl
  f302 := by kernel_rfl
  f303 := by kernel_rfl
  f304 := by kernel_rfl
  f305 := by kernel_rfl
  f306 := by kernel_rfl
  f307 := by kernel_rfl
  f308 := by kernel_rfl
  f309 := by kernel_rfl
  f310 := by kernel_rfl
  f329 := by kernel_rfl
  f330 := by kernel_rfl
  f333 := by kernel_rfl
  f334 := by kernel_rfl
  f335 := by kernel_rfl
  f336 := by kernel_rfl
  f344 := by kernel_rfl
  t0 := by kernel_rfl
  a0 := fun _ => by kernel_rfl
  z0 := fun _ => by kernel_rfl
  v0 := fun _ => by kernel_rfl
  t3 := by kernel_rfl
  a3 := fun _ => by kernel_rfl
  z3 := fun _ => by kernel_rfl
  v3 := fun _ => by kernel_rfl
  t4 := by kernel_rfl
  a4 := fun _ => by kernel_rfl
  z4 := fun _ => by kernel_rfl
  v4 := fun _ => by kernel_rfl
  t5 := by kernel_rfl
  a5 := fun _ => by kernel_rfl
  z5 := fun _ => by kernel_rfl
  v5 := fun _ => by kernel_rfl
  t9 := by kernel_rfl
  a9 := fun _ => by kernel_rfl
  z9 := fun _ => by kernel_rfl
  v9 := fun _ => by kernel_rfl
  t31 := by kernel_rfl
  a31 := fun _ => by kernel_rfl
  z31 := fun _ => by kernel_rfl
  v31 := fun _ => by kernel_rfl
  t46 := by kernel_rfl
  a46 := fun _ => by kernel_rfl
  z46 := fun _ => by kernel_rfl
  v46 := fun _ => by kernel_rfl
  t51 := by kernel_rfl
  a51 := fun _ => by kernel_rfl
  z51 := fun _ => by kernel_rfl
  v51 := fun _ => by kernel_rfl
  t53 := by kernel_rfl
  a53 := fun _ => by kernel_rfl
  z53 := fun _ => by kernel_rfl
  v53 := fun _ => by kernel_rfl
  t131 := by kernel_rfl
  a131 := fun _ => by kernel_rfl
  z131 := fun _ => by kernel_rfl
  v131 := fun _ => by kernel_rfl
  t182 := by kernel_rfl
  a182 := fun _ => by kernel_rfl
  z182 := fun _ => by kernel_rfl
  v182 := fun _ => by kernel_rfl
  t183 := by kernel_rfl
  a183 := fun _ => by kernel_rfl
  z183 := fun _ => by kernel_rfl
  v183 := fun _ => by kernel_rfl
  t218 := by kernel_rfl
  a218 := fun _ => by kernel_rfl
  z218 := fun _ => by kernel_rfl
  v218 := fun _ => by kernel_rfl
  t222 := by kernel_rfl
  a222 := fun _ => by kernel_rfl
  z222 := fun _ => by kernel_rfl
  v222 := fun _ => by kernel_rfl
  t228 := by kernel_rfl
  a228 := fun _ => by kernel_rfl
  z228 := fun _ => by kernel_rfl
  v228 := fun _ => by kernel_rfl
  t229 := by kernel_rfl
  a229 := fun _ => by kernel_rfl
  z229 := fun _ => by kernel_rfl
  v229 := fun _ => by kernel_rfl

@[simp] def strC (s : ByteArray) : List D := [.v (.string s)]
/-- The bytes of texts, in order. -/
def sortB (l : List ByteArray) : List ByteArray := ((l.map fun s => s.data.toList).mergeSort fun x y => decide (x ≤ y)).map fun b => ⟨b.toArray⟩
theorem sortB_len (l : List ByteArray) : (sortB l).length = l.length := by simp [sortB]
theorem flat_str : ∀ l : List ByteArray, (l.map strC).flatten = l.map fun s => D.v (.string s)
  | [] => rfl
  | a :: l => by rw [List.map_cons, List.flatten_cons, flat_str l]; rfl
theorem all2_str {w : World} {S : Cells} : ∀ (l : List ByteArray) (us : List Value), All2 (RepD w S) us (l.map fun s => D.v (.string s)) → us = l.map fun s => Value.string s
  | [], [], _ => rfl
  | [], _ :: _, h => h.elim
  | _ :: _, [], h => h.elim
  | a :: l, u :: us, ⟨h1, h2⟩ => by
    have h1 : RepD w S u (.v (.string a)) := h1
    cases h1
    rw [all2_str l us h2]; rfl
theorem all2_str' {w : World} {S : Cells} : ∀ (l : List ByteArray), All2 (RepD w S) (l.map fun s => Value.string s) (l.map fun s => D.v (.string s))
  | [] => trivial
  | _ :: l => ⟨.v _, all2_str' l⟩
open Go.Sort in
theorem sort_m (l : List ByteArray) (h0 : 0 < l.length) (hl : l.length < 4294967296) : Meets Tryz.prog 50 [.rw 1000000 l.length] [.row 9 1 (l.map strC) false] (fun r => r = ⟨unitV, [.row 9 1 ((sortB l).map strC) false], []⟩) := by
  refine ⟨pl50, fun w S m T vs hv hM => ?_⟩
  obtain ⟨v, rfl⟩ : ∃ v, vs = #[v] := by
    obtain ⟨vs⟩ := vs
    match vs, hv with
    | [v], _ => exact ⟨v, rfl⟩
    | [], h => exact h.elim
    | _ :: _ :: _, h => exact h.2.elim
  obtain ⟨lc, k1, k2⟩ := hv.1
  have hk : look 1000000 (extMem 1000000 [MObj.row 9 1 (l.map strC) false]) = some (.row 9 1 (l.map strC) false) := rfl
  obtain ⟨_, hx, lc', k3, k4⟩ := hM.objs _ _ hk
  rw [k1] at k3; cases k3
  rcases k2 with ⟨_, _, e⟩ | ⟨b, e1, rfl, e2⟩
  · omega
  rcases k4 with ⟨e3, _⟩ | ⟨b', arr, us, e3, g1, g2, g3, g4, g5, g6, g7, g8, _⟩
  · rw [e1] at e3; cases e3
  rw [e1] at e3; cases e3
  have hus : us = l.map fun s => Value.string s := all2_str l us (by rw [← flat_str]; exact g5)
  have hsz : l.length ≤ arr.size := by
    rw [g4]; simp at g2; omega
  have hat : ∀ j, j < l.length → arr[j]? = some (.string (l.getD j default)) := fun j hj => by
    refine g7 j _ ?_
    rw [hus, List.getElem?_map, List.getD_eq_getElem?_getD, List.getElem?_eq_getElem hj]
    rfl
  have hH : Holds encStr w b 0 (l.map fun s => s.data.toList).toArray := fun j hj => by
    have hj' : j < l.length := by simpa using hj
    refine ⟨?_, by simp [World.frozen?, g1]⟩
    simp only [World.cell?, g1, Nat.zero_add]
    rw [show ((l.map fun s => s.data.toList).toArray[j]!) = (l.getD j default).data.toList from by
      rw [getElem!_pos _ j hj]
      simp [List.getD_eq_getElem?_getD, List.getElem?_eq_getElem hj']]
    have := hat j hj'
    simp [this, encStr]
  have hblk : b < w.heap.size := (Array.getElem?_eq_some_iff.1 g1).1
  have hS : ∀ o, ¬ S b o := fun o ho => by have := (g8 o ho).1; cases this
  have key := Any.slices_Sort_string laysSort b 0 lc.cap (l.map fun s => s.data.toList) w hH hblk (by rw [List.length_map]; omega)
  rw [List.length_map] at key
  refine (show Calls Tryz.prog 50 _ w _ from key).mono ?_
  rintro e w' ⟨rfl, n, os, rfl⟩
  obtain ⟨d, hd⟩ : ∃ d, ((l.map fun s => s.data.toList).mergeSort fun x y => decide (x ≤ y)) = d := ⟨_, rfl⟩
  have hdl : d.length = l.length := by rw [← hd]; simp
  have hsort : sortB l = d.map fun b => ⟨b.toArray⟩ := by unfold sortB; rw [hd]
  rw [hd]
  have hmod : ∀ q, (putRow encStr (Go.Sort.ahead w n) b 0 d.toArray).heap[q]? = if b = q then (w.heap[q]?).map (onCells (putCells encStr 0 d.toArray)) else w.heap[q]? := fun q => by
    show ((w.heap.modify b _)[q]?) = _
    rw [Array.getElem?_modify]
  have hsize : (putRow encStr (Go.Sort.ahead w n) b 0 d.toArray).heap.size = w.heap.size := by
    show (w.heap.modify b _).size = _
    simp
  have hheap : ∀ q, q < w.heap.size → (grow (putRow encStr (Go.Sort.ahead w n) b 0 d.toArray) os).heap[q]? = if b = q then (w.heap[q]?).map (onCells (putCells encStr 0 d.toArray)) else w.heap[q]? := fun q hq => by
    show (((putRow encStr (Go.Sort.ahead w n) b 0 d.toArray).heap ++ os)[q]?) = _
    rw [Array.getElem?_append_left (by rw [hsize]; exact hq), hmod]
  have hg : Grow (· = b) w (grow (putRow encStr (Go.Sort.ahead w n) b 0 d.toArray) os) := ⟨rfl, rfl, rfl, by
    show _ ≤ ((putRow encStr (Go.Sort.ahead w n) b 0 d.toArray).heap ++ os).size
    rw [Array.size_append, hsize]; omega, fun q hq hne => by rw [hheap q hq, if_neg (fun e => hne e.symm)]⟩
  have hput : (grow (putRow encStr (Go.Sort.ahead w n) b 0 d.toArray) os).heap[b]? = some (.cells (putCells encStr 0 d.toArray arr) 9 (0, 0)) := by
    rw [hheap b hblk, if_pos rfl, g1]; rfl
  have hob : ObjOk m (grow (putRow encStr (Go.Sort.ahead w n) b 0 d.toArray) os) S 1000000 (.row 9 1 ((sortB l).map strC) false) := by
    refine ⟨by omega, fun x hx => ?_, lc, k1, .inr ⟨b, _, (sortB l).map fun s => Value.string s, e1, hput, ?_, g3, ?_, ?_, fun u hu => ?_, fun j v hj => ?_, fun o ho => (hS o ho).elim, fun h => by cases h⟩⟩
    · obtain ⟨s, _, rfl⟩ := List.mem_map.1 hx; rfl
    · rw [List.length_map, sortB_len]; exact e2
    · simp [putCells, g4]
    · rw [flat_str]; exact all2_str' _
    · obtain ⟨s, _, rfl⟩ := List.mem_map.1 hu; rfl
    · have hjl : j < d.length := by
        have := (List.getElem?_eq_some_iff.1 hj).1
        simpa [sortB_len, hdl] using this
      have hja : j < arr.size := by omega
      rw [hsort, List.map_map, List.getElem?_map, List.getElem?_eq_getElem hjl] at hj
      simp only [putCells, Array.getElem?_mapIdx, Array.getElem?_eq_getElem hja, Option.map_some]
      rw [if_pos ⟨by omega, by simp; omega⟩]
      cases hj
      congr 1
      simp [hjl]
  have hw := hM.write (o' := .row 9 1 ((sortB l).map strC) false) hk (.inl rfl) (show m 1000000 = some ⟨some b, lc.cap⟩ from by rw [k1]; cases lc; cases e1; rfl) hS hg hob
  have hlk : ∀ k, look k ((1000000, MObj.row 9 1 ((sortB l).map strC) false) :: extMem 1000000 [MObj.row 9 1 (l.map strC) false]) = look k (extMem 1000000 [MObj.row 9 1 ((sortB l).map strC) false] ++ extMem 2000000 []) := fun k => by
    show (if k = 1000000 then _ else (if k = 1000000 then _ else none)) = (if k = 1000000 then _ else none)
    split
    · rfl
    · rfl
  refine ⟨⟨unitV, [.row 9 1 ((sortB l).map strC) false], []⟩, .tuple #[], m, S, rfl, rfl, ⟨[], rfl, trivial⟩, { hw with dom := fun k l' h => by rw [← hlk]; exact hw.dom k l' h, objs := fun k o h => hw.objs k o (by rw [hlk]; exact h), subs := fun k i c b h => by rw [← hlk]; exact hw.subs k i c b h, ext := fun k l' q1 q2 h => .inl h }, ⟨fun k l' h => ⟨l', h, .inl rfl⟩, fun k _ _ i c b h => .inr (.inr ⟨i, c, h⟩)⟩, rfl, by simp⟩
end Go.Proofs.YtplooifpgmlofaaGreat
namespace Go.Proofs.YtplooifpgmlofaaGreat
open Go.RowKit

theorem sort0_m : Meets Tryz.prog 50 [.rw 1000000 0] [.row 9 1 [] false] (fun r => r = ⟨unitV, [.row 9 1 [] false], []⟩) := by
  refine ⟨pl50, fun w S m T vs hv hM => ?_⟩
  obtain ⟨v, rfl⟩ : ∃ v, vs = #[v] := by
    obtain ⟨vs⟩ := vs
    match vs, hv with
    | [v], _ => exact ⟨v, rfl⟩
    | [], h => exact h.elim
    | _ :: _ :: _, h => exact h.2.elim
  obtain ⟨lc, k1, k2⟩ := hv.1
  have hrun : Calls Tryz.prog 50 #[v] w fun e w' => e = .returned (.tuple #[]) ∧ w' = w := by
    rcases k2 with ⟨_, rfl, _⟩ | ⟨b, _, rfl, _⟩
    · exact Any.slices_Sort_string_none laysSort none 0 w
    · exact Any.slices_Sort_string_none laysSort (some ⟨b, 0, none⟩) lc.cap w
  refine hrun.mono ?_
  rintro e w' ⟨rfl, rfl⟩
  have hlk : ∀ k, look k (extMem 1000000 [MObj.row 9 1 [] false]) = look k (extMem 1000000 [MObj.row 9 1 [] false] ++ extMem 2000000 []) := fun k => by rw [show extMem 2000000 [] = ([] : Mem) from rfl, List.append_nil]
  exact ⟨⟨unitV, [.row 9 1 [] false], []⟩, .tuple #[], m, S, rfl, rfl, ⟨[], rfl, trivial⟩, hM, ⟨fun k l' h => ⟨l', h, .inl rfl⟩, fun k _ _ i c b h => .inr (.inr ⟨i, c, h⟩)⟩, rfl, by simp⟩
theorem sortA_m (l : List ByteArray) (hl : l.length < 4294967296) : Meets Tryz.prog 50 [.rw 1000000 l.length] [.row 9 1 (l.map strC) false] (fun r => r = ⟨unitV, [.row 9 1 ((sortB l).map strC) false], []⟩) := by
  cases l with
  | nil => simpa [sortB] using sort0_m
  | cons a l => exact sort_m (a :: l) (by simp) hl

theorem Meets.nil0 {P : Program} {f sz : Nat} {args : List PV} {ext : List MObj} {Q : Res → Prop} (h0 : 0 < sz) (h : Meets P f (.d (.sl sz []) :: args) ext Q) : Meets P f (.d (.v (.slice none 0 0)) :: args) ext Q := by
  refine ⟨h.1, fun w S m T vs hv hM => h.2 w S m T vs ?_ hM⟩
  revert hv
  cases vs.toList with
  | nil => exact id
  | cons v vs => exact fun ⟨h1, h2⟩ => ⟨nil_data h1 h0, h2⟩
theorem sortB_perm {l l' : List ByteArray} (h : l.Perm l') : sortB l = sortB l' := by
  unfold sortB
  congr 1
  have tr : ∀ a b c : List UInt8, decide (a ≤ b) = true → decide (b ≤ c) = true → decide (a ≤ c) = true := fun a b c h1 h2 => decide_eq_true (List.le_trans (of_decide_eq_true h1) (of_decide_eq_true h2))
  have tt : ∀ a b : List UInt8, (decide (a ≤ b) || decide (b ≤ a)) = true := fun a b => by
    rcases List.le_total a b with h | h <;> simp [h]
  refine List.Perm.eq_of_pairwise (le := fun a b => decide (a ≤ b) = true) (fun a b _ _ h1 h2 => List.le_antisymm (of_decide_eq_true h1) (of_decide_eq_true h2)) (List.pairwise_mergeSort tr tt _) (List.pairwise_mergeSort tr tt _) ?_
  exact (List.mergeSort_perm _ _).trans ((h.map _).trans (List.mergeSort_perm _ _).symm)
/-- There are no more outcomes than runs. -/
def lenOk (s : Fd) : Prop := (s.2.length : Int) ≤ s.1.runs
theorem leafN_len {Y : Sys} {f : Cf} {p : List Int} {cut : Bool} {s : Fd} (h : lenOk s) : lenOk (lfN Y f p cut s) := by
  unfold lenOk lfN leafN at *
  split
  · exact h
  · split
    · show (s.2.length : Int) ≤ s.1.runs + 1
      omega
    · show ((putZ (Y.out p) s.2).length : Int) ≤ s.1.runs + 1
      unfold putZ
      split
      · omega
      · simp; omega
theorem loopX_len {Y : Sys} {f : Cf} {rec : List Int → List Stp → Int → Fd → Fd} {p : List Int} {last left : Int} (hrec : ∀ p sl left s, lenOk s → lenOk (rec p sl left s)) : ∀ (ts : List Int) (sl : List Stp) (s : Fd), lenOk s → lenOk (loopX rec Y f p last left ts sl s)
  | [], _, _, h => h
  | t :: ts, sl, s, h => by
    unfold loopX
    generalize (if 0 < last ∧ last ≠ t then left - 1 else left) = r
    split
    · exact loopX_len hrec ts sl s h
    · split
      · exact loopX_len hrec ts sl _ h
      · split
        · exact hrec _ _ _ _ h
        · exact loopX_len hrec ts _ _ (hrec _ _ _ _ h)
theorem goX_len {Y : Sys} {f : Cf} {lf : List Int → Bool → Fd → Fd} (hlf : ∀ p cut s, lenOk s → lenOk (lf p cut s)) : ∀ (n : Nat) (p : List Int) (sl : List Stp) (left : Int) (s : Fd), lenOk s → lenOk (goX lf Y f n p sl left s)
  | 0, p, _, _, s, h => hlf _ _ _ h
  | n + 1, p, sl, left, s, h => by
    unfold goX
    split
    · exact hlf _ _ _ h
    · exact loopX_len (fun p sl left s h => goX_len hlf n p sl left s h) _ _ _ h
theorem eraseI_perm {α : Type} : ∀ {l : List α} {i : Nat} (h : i < l.length), (l[i] :: l.eraseIdx i).Perm l
  | x :: l, 0, _ => .refl _
  | x :: l, i + 1, h => (List.Perm.swap x (l[i]'(by simpa using h)) (l.eraseIdx i)).trans ((eraseI_perm (by simpa using h)).cons x)
/-- The outcomes that are still to come, and those that came. -/
inductive OutI (A : PV) (f : Cf) (c : Ct) (l : List ByteArray) (H : Hid) : Nat → Sta → Prop
  | mk (lz acc : List ByteArray) (cur : Option (Value × Value)) (hp : (acc ++ lz).Perm l) :
    OutI A f c l H lz.length ⟨52, [(25, .ptr 25 0), (5, .ptr 5 0), (4, .ptr 4 0)], [(25, .sys (iterH (mapZ lz) cur)), (901, .row 9 1 (acc.map strC) false), (13, .box 120 [.i f.most, .i f.switches, .b f.sleeps, .d (.v .nilFunc), A, .any, .i c.runs, .i c.stuck, .rw 901 acc.length, .b c.full, .any, .b c.enough]), (5, .box 117 [.ptr 13 0]), (4, .box 34 [.i 0, .i 0, .d (.v (.slice none 0 0)), .b false]), (1000000, .sys H)]⟩

set_option maxHeartbeats 2000000 in
theorem explore_m {Y : Sys} (hY : Fair Y) (A : Plr Y) (f : Cf) (hm : 0 ≤ f.most ∧ f.most ≤ 100000) (hs : 0 ≤ f.switches ∧ f.switches ≤ 60) (q : Option (List Int)) (hq : ∀ p, q = some p → legal Y p) :
    Meets Tryz.prog 26 [.ifc A.t 1000000, .agg [.i f.most, .i f.switches, .b f.sleeps, .d (.v .nilFunc)]] [.sys (A.at_ q)]
      (fun r => ∃ p, legal Y p ∧ r = ⟨.agg [.i (goX (lfN Y f) Y f 60 [] [] f.switches (⟨0, 0, true, false⟩, [])).1.runs, .i (goX (lfN Y f) Y f 60 [] [] f.switches (⟨0, 0, true, false⟩, [])).1.stuck, .d (.sl 1 ((sortB (goX (lfN Y f) Y f 60 [] [] f.switches (⟨0, 0, true, false⟩, [])).2).map strC)), .b (goX (lfN Y f) Y f 60 [] [] f.switches (⟨0, 0, true, false⟩, [])).1.full], [.sys (A.at_ (some p))], []⟩) := by
  obtain ⟨R, hR⟩ : ∃ R, goX (lfN Y f) Y f 60 [] [] f.switches (⟨0, 0, true, false⟩, []) = R := ⟨_, rfl⟩
  refine meetsP [(15, [.cell 13 5 900 3 1]), (21, [.cell 13 8 901 9 1])] tbOk mixed Tryz.func26 pl26 rfl rfl ?_
  simp [Tryz.ntmps26, Prep.run]
  refine (reach_m A f ⟨0, 0, true, false⟩ [] q hq [] (legal_nil Y)).mono ?_
  rintro _ rfl
  simp
  refine (Meets.nil0 (sz := 2) (by omega) (from_m hY A f 60 [] [] f.switches (⟨0, 0, true, false⟩, []) (by simp) (legal_nil Y) (by simp) (fun _ h => by cases h) hs ⟨hm.2, by simp, by simpa using hm.1, by simp, by simp⟩)).mono ?_
  rw [hR]
  rintro _ ⟨p, hp, rfl⟩
  simp [Prep.run]
  have hRok : Ct.Ok f R.1 := by rw [← hR]; exact goX_ok (fun p cut s h => leafN_ok h) 60 _ _ _ _ ⟨hm.2, by simp, by simpa using hm.1, by simp, by simp⟩
  have hRl : lenOk R := by rw [← hR]; exact goX_len (fun p cut s h => leafN_len h) 60 _ _ _ _ (by simp [lenOk])
  have hRn : R.2.length ≤ 100000 := by
    have h1 := hRok.runs
    have h2 := hRok.most
    unfold lenOk at hRl
    omega
  refine vc_loop (OutI (.ifc A.t 1000000) f R.1 R.2 (A.at_ (some p))) ⟨_, _, .mk R.2 [] none (by simp), [], _, rfl, by simp⟩ ?_
  rintro m σ ⟨lz, acc, cur, hpm⟩
  have hpl := hpm.length_eq
  rw [List.length_append] at hpl
  simp
  refine nextOk.of (fun h => ?_) (fun i e hi => ?_)
  · have hlz : lz = [] := by simpa [mapZ] using h
    subst hlz
    refine (sortA_m acc (by omega)).mono ?_
    rintro _ rfl
    simp
    have hac : acc.Perm R.2 := by simpa using hpm
    refine vcRet_of [] ?_ ⟨p, hp, rfl⟩
    have hsl : (sortB R.2).length = acc.length := by rw [sortB_len, hac.length_eq]
    simp [sortB_perm hac, sortB_len]
    exact ⟨by rw [hac.length_eq]; exact Nat.le_refl _, List.take_of_length_le (by rw [List.length_map, hsl]; exact Nat.le_refl _)⟩
  · obtain ⟨s, hs, rfl⟩ : ∃ s, lz[i]? = some s ∧ e = (.string s, .bool true) := by
      unfold mapZ at hi
      rw [List.getElem?_map] at hi
      obtain ⟨s, h1, h2⟩ := Option.map_eq_some_iff.1 hi
      exact ⟨s, h1, h2.symm⟩
    simp
    refine entryOk.of ?_
    simp
    have hil : i < lz.length := (List.getElem?_eq_some_iff.1 hs).1
    have hperm : (acc ++ [s] ++ lz.eraseIdx i).Perm R.2 := by
      refine List.Perm.trans ?_ hpm
      rw [List.append_assoc]
      refine List.Perm.append_left acc ?_
      have hx : lz[i] = s := by rw [List.getElem?_eq_getElem hil] at hs; exact Option.some.inj hs
      rw [← hx]
      exact eraseI_perm hil
    refine ⟨by omega, by kernel_rfl, _, ?_, _, .mk (lz.eraseIdx i) (acc ++ [s]) (some (.string s, .bool true)) hperm, [], _, rfl, by simp [mapZ, map_eraseI]⟩
    rw [List.length_eraseIdx_of_lt hil]; omega
end Go.Proofs.YtplooifpgmlofaaGreat
