/- Exploring. No condition. -/
import Derived.Shelf.Sort.Plain
import Derived.Test.YtplooifpgmlofaaGreatN2
import Derived.Shelf.Slices.In.SortNone
namespace Go.Proofs.YtplooifpgmlofaaGreat
open Go.RowKit Go.Shelf

def rhoF : Nat → Nat
  | 125 => 68
  | 128 => 85
  | 129 => 86
  | 190 => 50
  | 258 => 67
  | 302 => 76
  | 303 => 77
  | 304 => 78
  | 305 => 79
  | 306 => 80
  | 307 => 81
  | 308 => 82
  | 309 => 83
  | 310 => 84
  | 329 => 98
  | 330 => 99
  | 333 => 97
  | 334 => 100
  | 335 => 101
  | 336 => 102
  | 344 => 106
  | n => n
def rhoT : Nat → Nat
  | 31 => 32
  | 46 => 146
  | 51 => 166
  | 53 => 168
  | 131 => 163
  | 182 => 157
  | 183 => 158
  | 218 => 179
  | 222 => 183
  | 228 => 188
  | 229 => 189
  | n => n
def rho : Ren := ⟨rhoF, rhoT, fun x => x⟩
set_option maxRecDepth 100000 in
theorem laysSort : Lays.n190 Tryz.prog rho where
  mixed := mixed
  f125 := by kernel_rfl
  f128 := by kernel_rfl
  f129 := by kernel_rfl
  f190 := by kernel_rfl
  f258 := by kernel_rfl
  f302 := by kernel_rfl
  f303 := by kernel_rfl
  f304 := by kernel_rfl
  f305 := by kernel_rfl
  f306 := by kernel_rfl
  f307 := by kernel_rfl
  f308 := by kernel_rfl
  f309 := by kernel_rfl
  f310 := by kernel_rfl
  f329 := by kernel_rfl
  f330 := by kernel_rfl
  f333 := by kernel_rfl
  f334 := by kernel_rfl
  f335 := by kernel_rfl
  f336 := by kernel_rfl
  f344 := by kernel_rfl
  t0 := by kernel_rfl
  a0 := fun _ => by kernel_rfl
  z0 := fun _ => by kernel_rfl
  v0 := fun _ => by kernel_rfl
  t3 := by kernel_rfl
  a3 := fun _ => by kernel_rfl
  z3 := fun _ => by kernel_rfl
  v3 := fun _ => by kernel_rfl
  t4 := by kernel_rfl
  a4 := fun _ => by kernel_rfl
  z4 := fun _ => by kernel_rfl
  v4 := fun _ => by kernel_rfl
  t5 := by kernel_rfl
  a5 := fun _ => by kernel_rfl
  z5 := fun _ => by kernel_rfl
  v5 := fun _ => by kernel_rfl
  t9 := by kernel_rfl
  a9 := fun _ => by kernel_rfl
  z9 := fun _ => by kernel_rfl
  v9 := fun _ => by kernel_rfl
  t31 := by kernel_rfl
  a31 := fun _ => by kernel_rfl
  z31 := fun _ => by kernel_rfl
  v31 := fun _ => by kernel_rfl
  t46 := by kernel_rfl
  a46 := fun _ => by kernel_rfl
  z46 := fun _ => by kernel_rfl
  v46 := fun _ => by kernel_rfl
  t51 := by kernel_rfl
  a51 := fun _ => by kernel_rfl
  z51 := fun _ => by kernel_rfl
  v51 := fun _ => by kernel_rfl
  t53 := by kernel_rfl
  a53 := fun _ => by kernel_rfl
  z53 := fun _ => by kernel_rfl
  v53 := fun _ => by kernel_rfl
  t131 := by kernel_rfl
  a131 := fun _ => by kernel_rfl
  z131 := fun _ => by kernel_rfl
  v131 := fun _ => by kernel_rfl
  t182 := by kernel_rfl
  a182 := fun _ => by kernel_rfl
  z182 := fun _ => by kernel_rfl
  v182 := fun _ => by kernel_rfl
  t183 := by kernel_rfl
  a183 := fun _ => by kernel_rfl
  z183 := fun _ => by kernel_rfl
  v183 := fun _ => by kernel_rfl
  t218 := by kernel_rfl
  a218 := fun _ => by kernel_rfl
  z218 := fun _ => by kernel_rfl
  v218 := fun _ => by kernel_rfl
  t222 := by kernel_rfl
  a222 := fun _ => by kernel_rfl
  z222 := fun _ => by kernel_rfl
  v222 := fun _ => by kernel_rfl
  t228 := by kernel_rfl
  a228 := fun _ => by kernel_rfl
  z228 := fun _ => by kernel_rfl
  v228 := fun _ => by kernel_rfl
  t229 := by kernel_rfl
  a229 := fun _ => by kernel_rfl
  z229 := fun _ => by kernel_rfl
  v229 := fun _ => by kernel_rfl

@[simp] def strC (s : ByteArray) : List D := [.v (.string s)]
def sortB (l : List ByteArray) : List ByteArray := ((l.map fun s => s.data.toList).mergeSort fun x y => decide (x ≤ y)).map fun b => ⟨b.toArray⟩
theorem sortB_len (l : List ByteArray) : (sortB l).length = l.length := by simp [sortB]
theorem flat_str : ∀ l : List ByteArray, (l.map strC).flatten = l.map fun s => D.v (.string s)
  | [] => rfl
  | a :: l => by rw [List.map_cons, List.flatten_cons, flat_str l]; rfl
theorem all2_str {w : World} {S : Cells} : ∀ (l : List ByteArray) (us : List Value), All2 (RepD w S) us (l.map fun s => D.v (.string s)) → us = l.map fun s => Value.string s
  | [], [], _ => rfl
  | [], _ :: _, h => h.elim
  | _ :: _, [], h => h.elim
  | a :: l, u :: us, ⟨h1, h2⟩ => by
    have h1 : RepD w S u (.v (.string a)) := h1
    cases h1
    rw [all2_str l us h2]; rfl
theorem all2_str' {w : World} {S : Cells} : ∀ (l : List ByteArray), All2 (RepD w S) (l.map fun s => Value.string s) (l.map fun s => D.v (.string s))
  | [] => trivial
  | _ :: l => ⟨.v _, all2_str' l⟩
open Go.Sort in
theorem sort_m (l : List ByteArray) (h0 : 0 < l.length) (hl : l.length < 4294967296) : Meets Tryz.prog 50 [.rw 1000000 l.length] [.row 9 1 (l.map strC) false] (fun r => r = ⟨unitV, [.row 9 1 ((sortB l).map strC) false], []⟩) := by
  refine ⟨pl50, fun w S m T vs hv hM => ?_⟩
  obtain ⟨v, rfl⟩ : ∃ v, vs = #[v] := by
    obtain ⟨vs⟩ := vs
    match vs, hv with
    | [v], _ => exact ⟨v, rfl⟩
    | [], h => exact h.elim
    | _ :: _ :: _, h => exact h.2.elim
  obtain ⟨lc, k1, k2⟩ := hv.1
  have hk : look 1000000 (extMem 1000000 [MObj.row 9 1 (l.map strC) false]) = some (.row 9 1 (l.map strC) false) := rfl
  obtain ⟨_, hx, lc', k3, k4⟩ := hM.objs _ _ hk
  rw [k1] at k3; cases k3
  rcases k2 with ⟨_, _, e⟩ | ⟨b, e1, rfl, e2⟩
  · omega
  rcases k4 with ⟨e3, _⟩ | ⟨b', arr, us, e3, g1, g2, g3, g4, g5, g6, g7, g8, _⟩
  · rw [e1] at e3; cases e3
  rw [e1] at e3; cases e3
  have hus : us = l.map fun s => Value.string s := all2_str l us (by rw [← flat_str]; exact g5)
  have hsz : l.length ≤ arr.size := by
    rw [g4]; simp at g2; omega
  have hat : ∀ j, j < l.length → arr[j]? = some (.string (l.getD j default)) := fun j hj => by
    refine g7 j _ ?_
    rw [hus, List.getElem?_map, List.getD_eq_getElem?_getD, List.getElem?_eq_getElem hj]
    rfl
  have hH : Holds encStr w b 0 (l.map fun s => s.data.toList).toArray := fun j hj => by
    have hj' : j < l.length := by simpa using hj
    refine ⟨?_, by simp [World.frozen?, g1]⟩
    simp only [World.cell?, g1, Nat.zero_add]
    rw [show ((l.map fun s => s.data.toList).toArray[j]!) = (l.getD j default).data.toList from by
      rw [getElem!_pos _ j hj]
      simp [List.getD_eq_getElem?_getD, List.getElem?_eq_getElem hj']]
    have := hat j hj'
    simp [this, encStr]
  have hblk : b < w.heap.size := (Array.getElem?_eq_some_iff.1 g1).1
  have hS : ∀ o, ¬ S b o := fun o ho => by have := (g8 o ho).1; cases this
  have key := Any.slices_Sort_string laysSort b 0 lc.cap (l.map fun s => s.data.toList) w hH hblk (by rw [List.length_map]; omega)
  rw [List.length_map] at key
  refine (show Calls Tryz.prog 50 _ w _ from key).mono ?_
  rintro e w' ⟨rfl, n, os, rfl⟩
  obtain ⟨d, hd⟩ : ∃ d, ((l.map fun s => s.data.toList).mergeSort fun x y => decide (x ≤ y)) = d := ⟨_, rfl⟩
  have hdl : d.length = l.length := by rw [← hd]; simp
  have hsort : sortB l = d.map fun b => ⟨b.toArray⟩ := by unfold sortB; rw [hd]
  rw [hd]
  have hmod : ∀ q, (putRow encStr (Go.Sort.ahead w n) b 0 d.toArray).heap[q]? = if b = q then (w.heap[q]?).map (onCells (putCells encStr 0 d.toArray)) else w.heap[q]? := fun q => by
    show ((w.heap.modify b _)[q]?) = _
    rw [Array.getElem?_modify]
  have hsize : (putRow encStr (Go.Sort.ahead w n) b 0 d.toArray).heap.size = w.heap.size := by
    show (w.heap.modify b _).size = _
    simp
  have hheap : ∀ q, q < w.heap.size → (grow (putRow encStr (Go.Sort.ahead w n) b 0 d.toArray) os).heap[q]? = if b = q then (w.heap[q]?).map (onCells (putCells encStr 0 d.toArray)) else w.heap[q]? := fun q hq => by
    show (((putRow encStr (Go.Sort.ahead w n) b 0 d.toArray).heap ++ os)[q]?) = _
    rw [Array.getElem?_append_left (by rw [hsize]; exact hq), hmod]
  have hg : Grow (· = b) w (grow (putRow encStr (Go.Sort.ahead w n) b 0 d.toArray) os) := ⟨rfl, rfl, rfl, by
    show _ ≤ ((putRow encStr (Go.Sort.ahead w n) b 0 d.toArray).heap ++ os).size
    rw [Array.size_append, hsize]; omega, fun q hq hne => by rw [hheap q hq, if_neg (fun e => hne e.symm)]⟩
  have hput : (grow (putRow encStr (Go.Sort.ahead w n) b 0 d.toArray) os).heap[b]? = some (.cells (putCells encStr 0 d.toArray arr) 9 (0, 0)) := by
    rw [hheap b hblk, if_pos rfl, g1]; rfl
  have hob : ObjOk m (grow (putRow encStr (Go.Sort.ahead w n) b 0 d.toArray) os) S 1000000 (.row 9 1 ((sortB l).map strC) false) := by
    refine ⟨by omega, fun x hx => ?_, lc, k1, .inr ⟨b, _, (sortB l).map fun s => Value.string s, e1, hput, ?_, g3, ?_, ?_, fun u hu => ?_, fun j v hj => ?_, fun o ho => (hS o ho).elim, fun h => by cases h⟩⟩
    · obtain ⟨s, _, rfl⟩ := List.mem_map.1 hx; rfl
    · rw [List.length_map, sortB_len]; exact e2
    · simp [putCells, g4]
    · rw [flat_str]; exact all2_str' _
    · obtain ⟨s, _, rfl⟩ := List.mem_map.1 hu; rfl
    · have hjl : j < d.length := by
        have := (List.getElem?_eq_some_iff.1 hj).1
        simpa [sortB_len, hdl] using this
      have hja : j < arr.size := by omega
      rw [hsort, List.map_map, List.getElem?_map, List.getElem?_eq_getElem hjl] at hj
      simp only [putCells, Array.getElem?_mapIdx, Array.getElem?_eq_getElem hja, Option.map_some]
      rw [if_pos ⟨by omega, by simp; omega⟩]
      cases hj
      congr 1
      simp [hjl]
  have hw := hM.write (o' := .row 9 1 ((sortB l).map strC) false) hk (.inl rfl) (show m 1000000 = some ⟨some b, lc.cap⟩ from by rw [k1]; cases lc; cases e1; rfl) hS hg hob
  have hlk : ∀ k, look k ((1000000, MObj.row 9 1 ((sortB l).map strC) false) :: extMem 1000000 [MObj.row 9 1 (l.map strC) false]) = look k (extMem 1000000 [MObj.row 9 1 ((sortB l).map strC) false] ++ extMem 2000000 []) := fun k => by
    show (if k = 1000000 then _ else (if k = 1000000 then _ else none)) = (if k = 1000000 then _ else none)
    split
    · rfl
    · rfl
  refine ⟨⟨unitV, [.row 9 1 ((sortB l).map strC) false], []⟩, .tuple #[], m, S, rfl, rfl, ⟨[], rfl, trivial⟩, { hw with dom := fun k l' h => by rw [← hlk]; exact hw.dom k l' h, objs := fun k o h => hw.objs k o (by rw [hlk]; exact h), subs := fun k i c b h => by rw [← hlk]; exact hw.subs k i c b h, ext := fun k l' q1 q2 h => .inl h }, ⟨fun k l' h => ⟨l', h, .inl rfl⟩, fun k _ _ i c b h => .inr (.inr ⟨i, c, h⟩)⟩, rfl, by simp⟩
end Go.Proofs.YtplooifpgmlofaaGreat
namespace Go.Proofs.YtplooifpgmlofaaGreat
open Go.RowKit

theorem sort0_m : Meets Tryz.prog 50 [.rw 1000000 0] [.row 9 1 [] false] (fun r => r = ⟨unitV, [.row 9 1 [] false], []⟩) := by
  refine ⟨pl50, fun w S m T vs hv hM => ?_⟩
  obtain ⟨v, rfl⟩ : ∃ v, vs = #[v] := by
    obtain ⟨vs⟩ := vs
    match vs, hv with
    | [v], _ => exact ⟨v, rfl⟩
    | [], h => exact h.elim
    | _ :: _ :: _, h => exact h.2.elim
  obtain ⟨lc, k1, k2⟩ := hv.1
  have hrun : Calls Tryz.prog 50 #[v] w fun e w' => e = .returned (.tuple #[]) ∧ w' = w := by
    rcases k2 with ⟨_, rfl, _⟩ | ⟨b, _, rfl, _⟩
    · exact Any.slices_Sort_string_none laysSort none 0 w
    · exact Any.slices_Sort_string_none laysSort (some ⟨b, 0, none⟩) lc.cap w
  refine hrun.mono ?_
  rintro e w' ⟨rfl, rfl⟩
  have hlk : ∀ k, look k (extMem 1000000 [MObj.row 9 1 [] false]) = look k (extMem 1000000 [MObj.row 9 1 [] false] ++ extMem 2000000 []) := fun k => by rw [show extMem 2000000 [] = ([] : Mem) from rfl, List.append_nil]
  exact ⟨⟨unitV, [.row 9 1 [] false], []⟩, .tuple #[], m, S, rfl, rfl, ⟨[], rfl, trivial⟩, hM, ⟨fun k l' h => ⟨l', h, .inl rfl⟩, fun k _ _ i c b h => .inr (.inr ⟨i, c, h⟩)⟩, rfl, by simp⟩
theorem sortA_m (l : List ByteArray) (hl : l.length < 4294967296) : Meets Tryz.prog 50 [.rw 1000000 l.length] [.row 9 1 (l.map strC) false] (fun r => r = ⟨unitV, [.row 9 1 ((sortB l).map strC) false], []⟩) := by
  cases l with
  | nil => simpa [sortB] using sort0_m
  | cons a l => exact sort_m (a :: l) (by simp) hl

theorem Meets.nil0 {P : Program} {f sz : Nat} {args : List PV} {ext : List MObj} {Q : Res → Prop} (h0 : 0 < sz) (h : Meets P f (.d (.sl sz []) :: args) ext Q) : Meets P f (.d (.v (.slice none 0 0)) :: args) ext Q := by
  refine ⟨h.1, fun w S m T vs hv hM => h.2 w S m T vs ?_ hM⟩
  revert hv
  cases vs.toList with
  | nil => exact id
  | cons v vs => exact fun ⟨h1, h2⟩ => ⟨nil_data h1 h0, h2⟩
theorem sortB_perm {l l' : List ByteArray} (h : l.Perm l') : sortB l = sortB l' := by
  unfold sortB
  congr 1
  have tr : ∀ a b c : List UInt8, decide (a ≤ b) = true → decide (b ≤ c) = true → decide (a ≤ c) = true := fun a b c h1 h2 => decide_eq_true (List.le_trans (of_decide_eq_true h1) (of_decide_eq_true h2))
  have tt : ∀ a b : List UInt8, (decide (a ≤ b) || decide (b ≤ a)) = true := fun a b => by
    rcases List.le_total a b with h | h <;> simp [h]
  refine List.Perm.eq_of_pairwise (le := fun a b => decide (a ≤ b) = true) (fun a b _ _ h1 h2 => List.le_antisymm (of_decide_eq_true h1) (of_decide_eq_true h2)) (List.pairwise_mergeSort tr tt _) (List.pairwise_mergeSort tr tt _) ?_
  exact (List.mergeSort_perm _ _).trans ((h.map _).trans (List.mergeSort_perm _ _).symm)
def lenOk (s : Fd) : Prop := (s.2.length : Int) ≤ s.1.runs
theorem leafN_len {Y : Sys} {f : Cf} {p : List Int} {cut : Bool} {s : Fd} (h : lenOk s) : lenOk (lfN Y f p cut s) := by
  unfold lenOk lfN leafN at *
  split
  · exact h
  · split
    · show (s.2.length : Int) ≤ s.1.runs + 1
      omega
    · show ((putZ (Y.out p) s.2).length : Int) ≤ s.1.runs + 1
      unfold putZ
      split
      · omega
      · simp; omega
theorem loopX_len {Y : Sys} {f : Cf} {rec : List Int → List Stp → Int → Fd → Fd} {p : List Int} {last left : Int} (hrec : ∀ p sl left s, lenOk s → lenOk (rec p sl left s)) : ∀ (ts : List Int) (sl : List Stp) (s : Fd), lenOk s → lenOk (loopX rec Y f p last left ts sl s)
  | [], _, _, h => h
  | t :: ts, sl, s, h => by
    unfold loopX
    generalize (if 0 < last ∧ last ≠ t then left - 1 else left) = r
    split
    · exact loopX_len hrec ts sl s h
    · split
      · exact loopX_len hrec ts sl _ h
      · split
        · exact hrec _ _ _ _ h
        · exact loopX_len hrec ts _ _ (hrec _ _ _ _ h)
theorem goX_len {Y : Sys} {f : Cf} {lf : List Int → Bool → Fd → Fd} (hlf : ∀ p cut s, lenOk s → lenOk (lf p cut s)) : ∀ (n : Nat) (p : List Int) (sl : List Stp) (left : Int) (s : Fd), lenOk s → lenOk (goX lf Y f n p sl left s)
  | 0, p, _, _, s, h => hlf _ _ _ h
  | n + 1, p, sl, left, s, h => by
    unfold goX
    split
    · exact hlf _ _ _ h
    · exact loopX_len (fun p sl left s h => goX_len hlf n p sl left s h) _ _ _ h
theorem eraseI_perm {α : Type} : ∀ {l : List α} {i : Nat} (h : i < l.length), (l[i] :: l.eraseIdx i).Perm l
  | x :: l, 0, _ => .refl _
  | x :: l, i + 1, h => (List.Perm.swap x (l[i]'(by simpa using h)) (l.eraseIdx i)).trans ((eraseI_perm (by simpa using h)).cons x)
inductive OutI (A : PV) (f : Cf) (c : Ct) (l : List ByteArray) (H : Hid) : Nat → Sta → Prop
  | mk (lz acc : List ByteArray) (cur : Option (Value × Value)) (hp : (acc ++ lz).Perm l) :
    OutI A f c l H lz.length ⟨52, [(25, .ptr 25 0), (5, .ptr 5 0), (4, .ptr 4 0)], [(25, .sys (iterH (mapZ lz) cur)), (901, .row 9 1 (acc.map strC) false), (13, .box 120 [.i f.most, .i f.switches, .b f.sleeps, .d (.v .nilFunc), A, .any, .i c.runs, .i c.stuck, .rw 901 acc.length, .b c.full, .any, .b c.enough]), (5, .box 117 [.ptr 13 0]), (4, .box 34 [.i 0, .i 0, .d (.v (.slice none 0 0)), .b false]), (1000000, .sys H)]⟩

set_option maxHeartbeats 2000000 in
theorem explore_m {Y : Sys} (hY : Fair Y) (A : Plr Y) (f : Cf) (hm : 0 ≤ f.most ∧ f.most ≤ 100000) (hs : 0 ≤ f.switches ∧ f.switches ≤ 60) (q : Option (List Int)) (hq : ∀ p, q = some p → legal Y p) :
    Meets Tryz.prog 26 [.ifc A.t 1000000, .agg [.i f.most, .i f.switches, .b f.sleeps, .d (.v .nilFunc)]] [.sys (A.at_ q)]
      (fun r => ∃ p, legal Y p ∧ r = ⟨.agg [.i (goX (lfN Y f) Y f 60 [] [] f.switches (⟨0, 0, true, false⟩, [])).1.runs, .i (goX (lfN Y f) Y f 60 [] [] f.switches (⟨0, 0, true, false⟩, [])).1.stuck, .d (.sl 1 ((sortB (goX (lfN Y f) Y f 60 [] [] f.switches (⟨0, 0, true, false⟩, [])).2).map strC)), .b (goX (lfN Y f) Y f 60 [] [] f.switches (⟨0, 0, true, false⟩, [])).1.full], [.sys (A.at_ (some p))], []⟩) := by
  obtain ⟨R, hR⟩ : ∃ R, goX (lfN Y f) Y f 60 [] [] f.switches (⟨0, 0, true, false⟩, []) = R := ⟨_, rfl⟩
  refine meetsP [(15, [.cell 13 5 900 3 1]), (21, [.cell 13 8 901 9 1])] tbOk mixed Tryz.func26 pl26 rfl rfl ?_
  simp [Tryz.ntmps26, Prep.run]
  refine (reach_m A f ⟨0, 0, true, false⟩ [] q hq [] (legal_nil Y)).mono ?_
  rintro _ rfl
  simp
  refine (Meets.nil0 (sz := 2) (by omega) (from_m hY A f 60 [] [] f.switches (⟨0, 0, true, false⟩, []) (by simp) (legal_nil Y) (by simp) (fun _ h => by cases h) hs ⟨hm.2, by simp, by simpa using hm.1, by simp, by simp⟩)).mono ?_
  rw [hR]
  rintro _ ⟨p, hp, rfl⟩
  simp [Prep.run]
  have hRok : Ct.Ok f R.1 := by rw [← hR]; exact goX_ok (fun p cut s h => leafN_ok h) 60 _ _ _ _ ⟨hm.2, by simp, by simpa using hm.1, by simp, by simp⟩
  have hRl : lenOk R := by rw [← hR]; exact goX_len (fun p cut s h => leafN_len h) 60 _ _ _ _ (by simp [lenOk])
  have hRn : R.2.length ≤ 100000 := by
    have h1 := hRok.runs
    have h2 := hRok.most
    unfold lenOk at hRl
    omega
  refine vc_loop (OutI (.ifc A.t 1000000) f R.1 R.2 (A.at_ (some p))) ⟨_, _, .mk R.2 [] none (by simp), [], _, rfl, by simp⟩ ?_
  rintro m σ ⟨lz, acc, cur, hpm⟩
  have hpl := hpm.length_eq
  rw [List.length_append] at hpl
  simp
  refine nextOk.of (fun h => ?_) (fun i e hi => ?_)
  · have hlz : lz = [] := by simpa [mapZ] using h
    subst hlz
    refine (sortA_m acc (by omega)).mono ?_
    rintro _ rfl
    simp
    have hac : acc.Perm R.2 := by simpa using hpm
    refine vcRet_of [] ?_ ⟨p, hp, rfl⟩
    have hsl : (sortB R.2).length = acc.length := by rw [sortB_len, hac.length_eq]
    simp [sortB_perm hac, sortB_len]
    exact ⟨by rw [hac.length_eq]; exact Nat.le_refl _, List.take_of_length_le (by rw [List.length_map, hsl]; exact Nat.le_refl _)⟩
  · obtain ⟨s, hs, rfl⟩ : ∃ s, lz[i]? = some s ∧ e = (.string s, .bool true) := by
      unfold mapZ at hi
      rw [List.getElem?_map] at hi
      obtain ⟨s, h1, h2⟩ := Option.map_eq_some_iff.1 hi
      exact ⟨s, h1, h2.symm⟩
    simp
    refine entryOk.of ?_
    simp
    have hil : i < lz.length := (List.getElem?_eq_some_iff.1 hs).1
    have hperm : (acc ++ [s] ++ lz.eraseIdx i).Perm R.2 := by
      refine List.Perm.trans ?_ hpm
      rw [List.append_assoc]
      refine List.Perm.append_left acc ?_
      have hx : lz[i] = s := by rw [List.getElem?_eq_getElem hil] at hs; exact Option.some.inj hs
      rw [← hx]
      exact eraseI_perm hil
    refine ⟨by omega, by kernel_rfl, _, ?_, _, .mk (lz.eraseIdx i) (acc ++ [s]) (some (.string s, .bool true)) hperm, [], _, rfl, by simp [mapZ, map_eraseI]⟩
    rw [List.length_eraseIdx_of_lt hil]; omega
end Go.Proofs.YtplooifpgmlofaaGreat
namespace Go.Proofs.YtplooifpgmlofaaGreat
open Go.RowKit

def digN (n : Nat) : List Int := if h : n < 10 then [48 + (n : Int)] else digN (n / 10) ++ [48 + ((n % 10 : Nat) : Int)]
theorem digN_lt {n : Nat} (h : n < 10) : digN n = [48 + (n : Int)] := by rw [digN, dif_pos h]
theorem digN_ge {n : Nat} (h : ¬ n < 10) : digN n = digN (n / 10) ++ [48 + ((n % 10 : Nat) : Int)] := by rw [digN, dif_neg h]
def digZ (n : Int) : List Int := if n < 0 then 45 :: digN n.natAbs else digN n.natAbs
theorem digN_len : ∀ (n : Nat), n < 10000000000000000000000000 → (digN n).length ≤ 30 := by
  have key : ∀ (k n : Nat), n < 10 ^ (k + 1) → (digN n).length ≤ k + 1 := by
    intro k
    induction k with
    | zero => intro n h; rw [digN_lt (by omega)]; simp
    | succ k ih =>
      intro n h
      by_cases h10 : n < 10
      · rw [digN_lt h10]; simp
      · rw [digN_ge h10, List.length_append]
        have := ih (n / 10) (by rw [Nat.pow_succ] at h; omega)
        simp; omega
  exact fun n h => key 29 n (Nat.lt_trans h (by decide))
abbrev digB (n : Int) : ByteArray := strOfNums (digZ n)

theorem strs_app (a b : List Int) : strOfNums a ++ strOfNums b = strOfNums (a ++ b) := by
  apply ByteArray.ext
  simp [strOfNums]
theorem u8_in {x : Int} (h : 0 ≤ x ∧ x < 256) : IntKind.u8.wrap x = x := by
  simp only [IntKind.wrap, IntKind.bits, IntKind.signed]
  simp
  omega
theorem i64_full {n : Int} (h : -9223372036854775808 ≤ n ∧ n ≤ 9223372036854775807) : IntKind.i64.wrap n = n := IntWalk.i64_in _ (by omega)
theorem td_neg {n : Int} (h : n < 0) : n.tdiv 10 = -((-n) / 10) ∧ n.tmod 10 = -((-n) % 10) := by
  obtain ⟨m, rfl⟩ : ∃ m, n = -m := ⟨-n, by omega⟩
  rw [Int.neg_tdiv, Int.neg_tmod, Int.tdiv_eq_ediv_of_nonneg (by omega), Int.tmod_eq_emod_of_nonneg (by omega), Int.neg_neg]
  exact ⟨rfl, rfl⟩
theorem td_pos {n : Int} (h : 0 ≤ n) : n.tdiv 10 = n / 10 ∧ n.tmod 10 = n % 10 := ⟨Int.tdiv_eq_ediv_of_nonneg h, Int.tmod_eq_emod_of_nonneg h⟩
theorem digZ_big {n : Int} (h : 9 < n ∨ n < -9) : digZ n = digZ (n.tdiv 10) ++ [48 + ((n.tmod 10).natAbs : Int)] := by
  have e1 : (n.tdiv 10).natAbs = n.natAbs / 10 := Int.natAbs_tdiv n 10
  have e2 : (n.tmod 10).natAbs = n.natAbs % 10 := Int.natAbs_tmod n 10
  have e3 : ¬ n.natAbs < 10 := by omega
  have e4 : n.tdiv 10 < 0 ↔ n < 0 := by
    by_cases hn : n < 0
    · have := (td_neg hn).1; omega
    · have := (td_pos (Int.not_lt.1 hn)).1; omega
  unfold digZ
  by_cases hn : n < 0
  · rw [if_pos hn, if_pos (e4.2 hn), e1, e2, digN_ge e3]; rfl
  · rw [if_neg hn, if_neg (fun h => hn (e4.1 h)), e1, e2, digN_ge e3]
theorem digZ_neg {n : Int} (h : n < 0) (h9 : -9 ≤ n) : digZ n = [45] ++ digZ (-n) := by
  unfold digZ
  rw [if_pos h, if_neg (by omega), Int.natAbs_neg]; rfl
theorem digZ_small {n : Int} (h : 0 ≤ n) (h9 : n ≤ 9) : digZ n = [48 + n] := by
  unfold digZ
  rw [if_neg (by omega), digN_lt (by omega)]
  congr 2
  omega
theorem digZ_len {n : Int} (h : -9223372036854775808 ≤ n ∧ n ≤ 9223372036854775807) : (digZ n).length ≤ 31 := by
  have := digN_len n.natAbs (by omega)
  unfold digZ
  split <;> simp <;> omega
theorem strs_size (a : List Int) : (strOfNums a).size = a.length := by simp [strOfNums, ByteArray.size]
theorem str_minus : (⟨#[45]⟩ : ByteArray) = strOfNums [45] := rfl

set_option maxHeartbeats 1000000 in
theorem digitsK_m : ∀ (k : Nat) (n : Int), 2 * n.natAbs + (if n < 0 then 1 else 0) < k → (-9223372036854775808 ≤ n ∧ n ≤ 9223372036854775807) → Meets Tryz.prog 70 [.i n] [] (Ret (.d (.v (.string (digB n))))) := by
  intro k
  induction k with
  | zero => intro n h; omega
  | succ k ih =>
    intro n hk hr
    refine meets tbOk mixed Tryz.func70 pl70 rfl rfl ?_
    by_cases hb : 9 < n ∨ n < -9
    · have hq : (n.tdiv 10).natAbs = n.natAbs / 10 := Int.natAbs_tdiv n 10
      have hm : (n.tmod 10).natAbs = n.natAbs % 10 := Int.natAbs_tmod n 10
      have hqr : -9223372036854775808 ≤ n.tdiv 10 ∧ n.tdiv 10 ≤ 9223372036854775807 := by omega
      have w1 : IntKind.i64.wrap (n.tdiv 10) = n.tdiv 10 := i64_full hqr
      have hrec := ih (n.tdiv 10) (by rw [hq]; split <;> split at hk <;> omega) hqr
      have hlen := digZ_len hqr
      have e0 : digB n = strOfNums (digZ (n.tdiv 10)) ++ strOfNums [48 + ((n.tmod 10).natAbs : Int)] := by
        show strOfNums (digZ n) = _
        rw [strs_app, ← digZ_big hb]
      have hcond : (decide (n > 9) || decide (n < -9)) = true := by rcases hb with h | h <;> simp [h]
      have hsz : (strOfNums (digZ (n.tdiv 10))).size + (strOfNums [48 + ((n.tmod 10).natAbs : Int)]).size ≤ 4611686018427387904 := by
        rw [strs_size, strs_size]; simp; omega
      by_cases hd : n.tmod 10 < 0
      · have w2 : IntKind.i64.wrap (-(n.tmod 10)) = -(n.tmod 10) := wrap_in (by omega)
        have w3 : IntKind.i64.wrap (48 + -(n.tmod 10)) = 48 + -(n.tmod 10) := wrap_in (by omega)
        have w4 : IntKind.u8.wrap (48 + -(n.tmod 10)) = 48 + -(n.tmod 10) := u8_in (by omega)
        have e1 : ((n.tmod 10).natAbs : Int) = -(n.tmod 10) := by omega
        rw [e1] at e0 hsz
        by_cases h9 : 9 < n
        · have := (td_pos (show (0 : Int) ≤ n by omega)).2; omega
        · have h9' : n < -9 := by omega
          simp [Tryz.ntmps70, h9, h9', hd, w1, w2]
          refine effCall hrec ?_
          simp [w3, w4, numsOf]
          refine ⟨hsz, by kernel_rfl, vcRet_of [] ?_ rfl⟩
          simp [e0]
      · have w3 : IntKind.i64.wrap (48 + n.tmod 10) = 48 + n.tmod 10 := wrap_in (by omega)
        have w4 : IntKind.u8.wrap (48 + n.tmod 10) = 48 + n.tmod 10 := u8_in (by omega)
        have e1 : ((n.tmod 10).natAbs : Int) = n.tmod 10 := by omega
        rw [e1] at e0 hsz
        by_cases h9 : 9 < n
        · simp [Tryz.ntmps70, h9, hd, w1]
          refine effCall hrec ?_
          simp [w3, w4, numsOf]
          refine ⟨hsz, by kernel_rfl, vcRet_of [] ?_ rfl⟩
          simp [e0]
        · have h9' : n < -9 := by omega
          simp [Tryz.ntmps70, h9, h9', hd, w1]
          refine effCall hrec ?_
          simp [w3, w4, numsOf]
          refine ⟨hsz, by kernel_rfl, vcRet_of [] ?_ rfl⟩
          simp [e0]
    · have h1 : ¬ 9 < n := by omega
      have h2 : ¬ n < -9 := by omega
      by_cases hn : n < 0
      · have w1 : IntKind.i64.wrap (-n) = -n := wrap_in (by omega)
        simp [Tryz.ntmps70, h1, h2, hn, w1]
        refine (ih (-n) (by rw [Int.natAbs_neg, if_neg (by omega)]; rw [if_pos hn] at hk; omega) (by omega)).mono ?_
        rintro _ rfl
        have hlen := digZ_len (n := -n) (by omega)
        have hsz : (⟨#[45]⟩ : ByteArray).size + (digB (-n)).size ≤ 4611686018427387904 := by
          show 1 + (strOfNums (digZ (-n))).size ≤ _
          rw [strs_size]; omega
        simp
        refine ⟨hsz, vcRet_of [] ?_ rfl⟩
        simp [digB, digZ_neg hn (Int.not_lt.1 h2), str_minus, strs_app]
      · have w3 : IntKind.i64.wrap (48 + n) = 48 + n := wrap_in (by omega)
        have w4 : IntKind.u8.wrap (48 + n) = 48 + n := u8_in (by omega)
        simp [Tryz.ntmps70, h1, h2, hn, w3, w4, numsOf]
        refine vcRet_of [] ?_ rfl
        simp [digB, digZ_small (Int.not_lt.1 hn) (Int.not_lt.1 h1)]
theorem digits_m (n : Int) (hr : -9223372036854775808 ≤ n ∧ n ≤ 9223372036854775807) : Meets Tryz.prog 70 [.i n] [] (Ret (.d (.v (.string (digB n))))) := digitsK_m _ n (Nat.lt_succ_self _) hr
end Go.Proofs.YtplooifpgmlofaaGreat
namespace Go.Proofs.YtplooifpgmlofaaGreat
open Go.RowKit

structure SS where
  sum : Int
  p1 : Int
  p2 : Int
  r1 : Int
  r2 : Int
@[simp] def SS.box (s : SS) : MObj := .box 75 [.i s.sum, .i 0, .i s.p1, .i s.p2, .i 0, .i s.r1, .i s.r2]
def ss0 : SS := ⟨0, 0, 0, 0, 0⟩
def SS.step (s : SS) (t : Int) : SS :=
  if t = 1 then (if s.p1 = 0 then ⟨s.sum, s.p1 + 1, s.p2, s.sum, s.r2⟩ else ⟨s.r1 + 1, s.p1 + 1, s.p2, s.r1, s.r2⟩)
  else (if s.p2 = 0 then ⟨s.sum, s.p1, s.p2 + 1, s.r1, s.sum⟩ else ⟨s.r2 + 2, s.p1, s.p2 + 1, s.r1, s.r2⟩)
def SS.en (s : SS) : List Int := (if s.p1 < 2 then [1] else []) ++ if s.p2 < 2 then [2] else []
def SS.at_ (p : List Int) : SS := p.foldl SS.step ss0
def sumY : Sys where
  en := fun p => (SS.at_ p).en
  foot := fun p t => [⟨5, if t = 1 then (SS.at_ p).p1 == 1 else (SS.at_ p).p2 == 1⟩]
  done := fun p => (SS.at_ p).p1 == 2 && (SS.at_ p).p2 == 2
  out := fun p => digB (SS.at_ p).sum
structure SS.Ok (s : SS) (n : Int) : Prop where
  p1 : 0 ≤ s.p1 ∧ s.p1 ≤ n
  p2 : 0 ≤ s.p2 ∧ s.p2 ≤ n
  sum : 0 ≤ s.sum ∧ s.sum ≤ 2 * n
  r1 : 0 ≤ s.r1 ∧ s.r1 ≤ 2 * n
  r2 : 0 ≤ s.r2 ∧ s.r2 ≤ 2 * n
theorem SS.ok_step {s : SS} {n : Int} (h : s.Ok n) (t : Int) : (s.step t).Ok (n + 1) := by
  obtain ⟨h1, h2, h3, h4, h5⟩ := h
  unfold SS.step
  split <;> split <;> exact ⟨by dsimp only; omega, by dsimp only; omega, by dsimp only; omega, by dsimp only; omega, by dsimp only; omega⟩
theorem SS.at_snoc (p : List Int) (t : Int) : SS.at_ (p ++ [t]) = (SS.at_ p).step t := by simp [SS.at_]
theorem SS.ok_from : ∀ (p : List Int) (s : SS) (n : Int), s.Ok n → (p.foldl SS.step s).Ok (n + p.length)
  | [], s, n, h => by simpa using h
  | t :: p, s, n, h => by
    have := SS.ok_from p (s.step t) (n + 1) (SS.ok_step h t)
    rw [List.foldl_cons, List.length_cons]
    rwa [show n + ((p.length + 1 : Nat) : Int) = n + 1 + p.length by omega]
theorem SS.ok_at (p : List Int) : (SS.at_ p).Ok p.length := by
  have := SS.ok_from p ss0 0 ⟨by decide, by decide, by decide, by decide, by decide⟩
  rwa [Int.zero_add] at this
theorem sum_fair : Fair sumY where
  pos := fun p t h => by
    have h : t ∈ (SS.at_ p).en := h
    unfold SS.en at h
    rw [List.mem_append] at h
    rcases h with h | h <;> split at h <;> simp at h <;> subst h <;> omega
  few := fun p => by
    show (SS.at_ p).en.length < 1000
    unfold SS.en
    split <;> split <;> simp
  uses := fun p t => by show 1 < 1000; omega
theorem mem_en {s : SS} {t : Int} (h : t ∈ s.en) : t = 1 ∧ s.p1 < 2 ∨ t = 2 ∧ s.p2 < 2 := by
  unfold SS.en at h
  rw [List.mem_append] at h
  rcases h with h | h <;> split at h <;> simp at h <;> subst h
  · exact .inl ⟨rfl, ‹_›⟩
  · exact .inr ⟨rfl, ‹_›⟩

theorem sStart_m (s : SS) : Meets Tryz.prog 129 [.ptr 1000000 0] [s.box] (fun r => r = ⟨unitV, [ss0.box], []⟩) := by
  refine meets tbOk mixed Tryz.func129 pl129 rfl rfl ?_
  simp [Tryz.ntmps129]
  refine vcRet_of [] ?_ rfl
  simp [ss0]
theorem sDone_m (s : SS) : Meets Tryz.prog 125 [.ptr 1000000 0] [s.box] (fun r => r = ⟨.b (s.p1 == 2 && s.p2 == 2), [s.box], []⟩) := by
  refine meets tbOk mixed Tryz.func125 pl125 rfl rfl ?_
  by_cases h1 : s.p1 = 2
  · simp [Tryz.ntmps125, h1]
    refine vcRet_of [] ?_ rfl
    simp
    rfl
  · simp [Tryz.ntmps125, h1]
    refine vcRet_of [] ?_ rfl
    simp [h1]
theorem sOut_m (s : SS) (h : -4294967296 ≤ s.sum ∧ s.sum ≤ 4294967296) : Meets Tryz.prog 128 [.ptr 1000000 0] [s.box] (fun r => r = ⟨.d (.v (.string (digB s.sum))), [s.box], []⟩) := by
  refine meets tbOk mixed Tryz.func128 pl128 rfl rfl ?_
  simp [Tryz.ntmps128]
  refine (digits_m s.sum (by omega)).mono ?_
  rintro _ rfl
  simp
  refine vcRet_of [] ?_ rfl
  simp
theorem sFoot_m (s : SS) (t : Int) (ht : t = 1 ∨ t = 2) : Meets Tryz.prog 127 [.ptr 1000000 0, .i t] [s.box] (fun r => r = ⟨.d (fpD [⟨5, if t = 1 then s.p1 == 1 else s.p2 == 1⟩]), [s.box], []⟩) := by
  refine meets tbOk mixed Tryz.func127 pl127 rfl rfl ?_
  rcases ht with rfl | rfl
  · simp [Tryz.ntmps127]
    refine vcRet_of [] ?_ rfl
    simp
    rfl
  · simp [Tryz.ntmps127]
    refine vcRet_of [] ?_ rfl
    simp
    rfl
theorem sStep_m (s : SS) (n : Int) (hn : n < 100) (hs : s.Ok n) (t : Int) (ht : t = 1 ∨ t = 2) : Meets Tryz.prog 130 [.ptr 1000000 0, .i t] [s.box] (fun r => r = ⟨unitV, [(s.step t).box], []⟩) := by
  obtain ⟨h1, h2, h3, h4, h5⟩ := hs
  have w1 : IntKind.i64.wrap (s.p1 + 1) = s.p1 + 1 := wrap_in (by omega)
  have w2 : IntKind.i64.wrap (s.p2 + 1) = s.p2 + 1 := wrap_in (by omega)
  have w3 : IntKind.i64.wrap (s.r1 + 1) = s.r1 + 1 := wrap_in (by omega)
  have w4 : IntKind.i64.wrap (s.r2 + 2) = s.r2 + 2 := wrap_in (by omega)
  have W1 : IntKind.i64.wrap 1 = 1 := rfl
  refine meets tbOk mixed Tryz.func130 pl130 rfl rfl ?_
  rcases ht with rfl | rfl
  · by_cases h : s.p1 = 0
    · simp [Tryz.ntmps130, h]
      refine ⟨by kernel_rfl, by kernel_rfl, vcRet_of [] ?_ rfl⟩
      simp [SS.step, h, W1]
    · simp [Tryz.ntmps130, h, w1, w3]
      refine ⟨by kernel_rfl, vcRet_of [] ?_ rfl⟩
      simp [SS.step, h]
  · by_cases h : s.p2 = 0
    · simp [Tryz.ntmps130, h]
      refine ⟨by kernel_rfl, by kernel_rfl, vcRet_of [] ?_ rfl⟩
      simp [SS.step, h, W1]
    · simp [Tryz.ntmps130, h, w2, w4]
      refine ⟨by kernel_rfl, vcRet_of [] ?_ rfl⟩
      simp [SS.step, h]
def SS.enK (s : SS) (k : Nat) : List Int := if k = 0 then [] else if k = 1 then (if s.p1 < 2 then [1] else []) else s.en
inductive EnI (s : SS) : Nat → Sta → Prop
  | mk (k : Nat) (hk : k ≤ 2) : EnI s (10 - k) ⟨21, [(4, .i ((k : Int) + 1)), (3, .rw 3 (s.enK k).length), (0, .ptr 1000000 0)], [(3, .row 3 1 ((s.enK k).map intC) false), (1000000, s.box)]⟩
theorem sEn_m (s : SS) : Meets Tryz.prog 126 [.ptr 1000000 0] [s.box] (fun r => r = ⟨.d (intD s.en), [s.box], []⟩) := by
  refine meets tbOk mixed Tryz.func126 pl126 rfl rfl ?_
  simp [Tryz.ntmps126]
  have W2 : IntKind.i64.wrap 2 = 2 := rfl
  have W3 : IntKind.i64.wrap 3 = 3 := rfl
  refine vc_loop (EnI s) ⟨_, _, .mk 0 (Nat.zero_le _), [.row 3 3 1], _, rfl, by simp [SS.enK]⟩ ?_
  rintro n σ ⟨k, hk⟩
  obtain rfl | rfl | rfl : k = 0 ∨ k = 1 ∨ k = 2 := by omega
  · by_cases h : s.p1 < 2
    · simp [h, SS.enK]
      exact ⟨9, by omega, _, .mk 1 (by omega), [], _, rfl, by simp [SS.enK, h, W2]⟩
    · simp [h, SS.enK]
      exact ⟨9, by omega, _, .mk 1 (by omega), [], _, rfl, by simp [SS.enK, h, W2]⟩
  · by_cases h1 : s.p1 < 2
    · by_cases h : s.p2 < 2
      · simp [h, h1, SS.enK]
        exact ⟨8, by omega, _, .mk 2 (by omega), [], _, rfl, by simp [SS.enK, SS.en, h, h1, W3]⟩
      · simp [h, h1, SS.enK]
        exact ⟨8, by omega, _, .mk 2 (by omega), [], _, rfl, by simp [SS.enK, SS.en, h, h1, W3]⟩
    · by_cases h : s.p2 < 2
      · simp [h, h1, SS.enK]
        exact ⟨8, by omega, _, .mk 2 (by omega), [], _, rfl, by simp [SS.enK, SS.en, h, h1, W3]⟩
      · simp [h, h1, SS.enK]
        exact ⟨8, by omega, _, .mk 2 (by omega), [], _, rfl, by simp [SS.enK, SS.en, h, h1, W3]⟩
  · simp
    refine vcRet_of [] ?_ rfl
    simp [SS.enK]
    rw [List.take_of_length_le (by simp)]
def sumH (s : SS) : Hid := holdH [s.box]
theorem sumLift {f : Nat} {args : List PV} {s s' : SS} {v : PV} (ha : ∀ p ∈ args, p.keys = []) (hv : v.keys = []) (h : Meets Tryz.prog f (.ptr 1000000 0 :: args) [s.box] (fun r => r = ⟨v, [s'.box], []⟩)) :
    Meets Tryz.prog f (.ptr 1000000 0 :: args) [.sys (sumH s)] (fun r => r = ⟨v, [.sys (sumH s')], []⟩) := by
  refine Meets.lift ha (by simp) (h.mono ?_)
  rintro _ rfl
  refine ⟨[1000000], ?_, ?_⟩
  · simp [liftOk, resObj, flatO, isNest]
    exact hv
  · simp [liftObjs, resObj, sumH]
def sumAt (q : Option (List Int)) : Hid := sumH (match q with | some p => SS.at_ p | none => ss0)
def sumP : Plr sumY where
  t := 72
  fS := 129
  fE := 126
  fT := 130
  fF := 127
  fD := 125
  fO := 128
  nS := by kernel_rfl
  nE := by kernel_rfl
  nT := by kernel_rfl
  nF := by kernel_rfl
  nD := by kernel_rfl
  nO := by kernel_rfl
  at_ := sumAt
  mS := fun q _ => sumLift (args := []) (by simp) rfl (sStart_m _)
  mE := fun p _ => sumLift (args := []) (by simp) rfl (sEn_m (SS.at_ p))
  mT := fun p t hp ht h60 => by
    have h := sStep_m (SS.at_ p) p.length (by omega) (SS.ok_at p) t ((mem_en (show t ∈ (SS.at_ p).en from ht)).imp And.left And.left)
    rw [← SS.at_snoc] at h
    exact sumLift (args := [.i t]) (by simp) rfl h
  mF := fun p t _ ht => sumLift (args := [.i t]) (by simp) rfl (sFoot_m (SS.at_ p) t ((mem_en (show t ∈ (SS.at_ p).en from ht)).imp And.left And.left))
  mD := fun p _ => sumLift (args := []) (by simp) rfl (sDone_m (SS.at_ p))
  mO := fun p hp => sumLift (args := []) (by simp) rfl (sOut_m (SS.at_ p) (by have := (SS.ok_at p).sum; have := hp.1; omega))
end Go.Proofs.YtplooifpgmlofaaGreat
namespace Go.Proofs.YtplooifpgmlofaaGreat
open Go.RowKit

structure Rz where
  runs : Int
  stuck : Int
  outs : List ByteArray
  full : Bool
@[simp] def Rz.pv (r : Rz) : PV := .agg [.i r.runs, .i r.stuck, .d (.sl 1 (r.outs.map strC)), .b r.full]
def rz0 : Rz := ⟨0, 0, [], false⟩
@[simp] def pz0 : PV := .agg [.i 0, .i 0, .d (.v (.slice none 0 0)), .b false]
def found (Y : Sys) (f : Cf) : Fd := goX (lfN Y f) Y f 60 [] [] f.switches (⟨0, 0, true, false⟩, [])
def foundR (Y : Sys) (f : Cf) : Rz := ⟨(found Y f).1.runs, (found Y f).1.stuck, sortB (found Y f).2, (found Y f).1.full⟩
abbrev okRuns (most : Int) : Prop := 1 ≤ most ∧ most ≤ 100000
inductive ExpR {Y : Sys} (A : Plr Y) (q : Option (List Int)) (ok : Prop) (f : Cf) : Res → Prop
  | yes (h : ok) (p : List Int) (hp : legal Y p) : ExpR A q ok f ⟨.tup [(foundR Y f).pv, .i 0], [.sys (A.at_ (some p))], []⟩
  | no (h : ¬ ok) : ExpR A q ok f ⟨.tup [pz0, .i 7], [.sys (A.at_ q)], []⟩

theorem ready_m (t : Nat) (H : Hid) (most : Int) : Meets Tryz.prog 25 [.ifc t 1000000, .i most] [.sys H] (fun r => r = ⟨.i (if okRuns most then 0 else 7), [.sys H], []⟩) := by
  refine meets tbOk mixed Tryz.func25 pl25 rfl rfl ?_
  by_cases h1 : most < 1
  · simp [Tryz.ntmps25, h1]
    refine vcRet_of [] ?_ rfl
    simp [show ¬ 1 ≤ most by omega]
  · by_cases h2 : 100000 < most
    · simp [Tryz.ntmps25, h1, h2]
      refine vcRet_of [] ?_ rfl
      simp [show ¬ most ≤ 100000 by omega]
    · simp [Tryz.ntmps25, h1, h2]
      refine vcRet_of [] ?_ rfl
      simp [show most ≤ 100000 by omega, show 1 ≤ most by omega]
section
variable {Y : Sys} (hY : Fair Y) (A : Plr Y)
include hY
theorem exploreR_m (f : Cf) (hm : 0 ≤ f.most ∧ f.most ≤ 100000) (hs : 0 ≤ f.switches ∧ f.switches ≤ 60) (q : Option (List Int)) (hq : ∀ p, q = some p → legal Y p) :
    Meets Tryz.prog 26 [.ifc A.t 1000000, .agg [.i f.most, .i f.switches, .b f.sleeps, .d (.v .nilFunc)]] [.sys (A.at_ q)] (fun r => ∃ p, legal Y p ∧ r = ⟨(foundR Y f).pv, [.sys (A.at_ (some p))], []⟩) := explore_m hY A f hm hs q hq
theorem bound_m (switches most : Int) (q : Option (List Int)) (hq : ∀ p, q = some p → legal Y p) :
    Meets Tryz.prog 40 [.ifc A.t 1000000, .i switches, .i most] [.sys (A.at_ q)]
      (ExpR A q (okRuns most ∧ 0 ≤ switches) ⟨most, min switches 60, false⟩) := by
  refine meets tbOk mixed Tryz.func40 pl40 rfl rfl ?_
  simp [Tryz.ntmps40]
  refine (ready_m A.t (A.at_ q) most).mono ?_
  rintro _ rfl
  by_cases hr : okRuns most
  · by_cases h0 : switches < 0
    · simp [if_pos hr, h0]
      refine vcRet_of [] ?_ (.no fun h => by omega)
      simp
    · simp [if_pos hr, h0]
      refine (exploreR_m hY A ⟨most, min switches 60, false⟩ (by unfold okRuns at hr; constructor <;> dsimp only <;> omega) (by dsimp only; omega) q hq).mono ?_
      rintro _ ⟨p, hp, rfl⟩
      simp
      refine vcRet_of [] ?_ (.yes ⟨hr, by omega⟩ p hp)
      simp
  · simp [if_neg hr]
    refine vcRet_of [] ?_ (.no fun h => hr h.1)
    simp
theorem all_m (most : Int) (q : Option (List Int)) (hq : ∀ p, q = some p → legal Y p) :
    Meets Tryz.prog 19 [.ifc A.t 1000000, .i most] [.sys (A.at_ q)]
      (ExpR A q (okRuns most) ⟨most, 60, false⟩) := by
  refine meets tbOk mixed Tryz.func19 pl19 rfl rfl ?_
  simp [Tryz.ntmps19]
  refine (bound_m hY A 60 most q hq).mono ?_
  rintro _ (⟨hr, p, hp⟩ | hr)
  · simp
    refine vcRet_of [] ?_ (.yes hr.1 p hp)
    simp
  · simp
    refine vcRet_of [] ?_ (.no fun h => hr ⟨h, by omega⟩)
    simp
theorem sleep_m (most : Int) (q : Option (List Int)) (hq : ∀ p, q = some p → legal Y p) :
    Meets Tryz.prog 9 [.ifc A.t 1000000, .i most] [.sys (A.at_ q)]
      (ExpR A q (okRuns most) ⟨most, 60, true⟩) := by
  refine meets tbOk mixed Tryz.func9 pl9 rfl rfl ?_
  simp [Tryz.ntmps9]
  refine (ready_m A.t (A.at_ q) most).mono ?_
  rintro _ rfl
  by_cases hr : okRuns most
  · simp [if_pos hr]
    refine (exploreR_m hY A ⟨most, 60, true⟩ (by unfold okRuns at hr; constructor <;> dsimp only <;> omega) (by dsimp only; omega) q hq).mono ?_
    rintro _ ⟨p, hp, rfl⟩
    simp
    refine vcRet_of [] ?_ (.yes hr p hp)
    simp
  · simp [if_neg hr]
    refine vcRet_of [] ?_ (.no hr)
    simp
end
end Go.Proofs.YtplooifpgmlofaaGreat
