/- Contracts: network 18. No condition. -/
import Derived.Test.YtgoklgibhmddoaaTab
import Derived.Test.YtgoklgibhmddoaaN13
import Derived.Test.YtgoklgibhmddoaaN17
namespace Go.Proofs.Ytgoklgibhmddoaa
open Go.RowKit
set_option maxRecDepth 200000
def toldZ : List Value := List.replicate 400 (.string { data := #[] }) ++ List.replicate 100 (.bool false)
def strZ : List Value := List.replicate 100 (.string { data := #[] })
def boolZ : List Value := List.replicate 100 (.bool false)
def ti60 : TI := ⟨(TypeDesc.array 100 9), 100, 1600, strZ, false, []⟩
theorem tio60 : TIOk Try.prog (60, ti60) := ⟨by kernel_rfl, by kernel_rfl, by kernel_rfl, nofun⟩
def ti61 : TI := ⟨(TypeDesc.array 100 4), 100, 100, boolZ, false, []⟩
theorem tio61 : TIOk Try.prog (61, ti61) := ⟨by kernel_rfl, by kernel_rfl, by kernel_rfl, nofun⟩
def ti63 : TI := ⟨(TypeDesc.struct #[{ name := "written", type := 60, offset := 0, embedded := false, tag := "", pkgPath := "spillway/spillwaylaw12", byteOffset := 0 }, { name := "put", type := 60, offset := 100, embedded := false, tag := "", pkgPath := "spillway/spillwaylaw12", byteOffset := 1600 }, { name := "taken", type := 60, offset := 200, embedded := false, tag := "", pkgPath := "spillway/spillwaylaw12", byteOffset := 3200 }, { name := "read", type := 60, offset := 300, embedded := false, tag := "", pkgPath := "spillway/spillwaylaw12", byteOffset := 4800 }, { name := "over", type := 61, offset := 400, embedded := false, tag := "", pkgPath := "spillway/spillwaylaw12", byteOffset := 6400 }]), 500, 6504, toldZ, false, []⟩
theorem tio63 : TIOk Try.prog (63, ti63) := ⟨by kernel_rfl, by kernel_rfl, by kernel_rfl, nofun⟩
def tb2 : Tab := (60, ti60) :: (61, ti61) :: (63, ti63) :: tb
theorem tb2Ok : TabOk Try.prog tb2 := ⟨tio60, tio61, tio63, tbOk⟩
attribute [simp] ti60 ti61 ti63
@[simp] theorem keeps2_eq : keepsOf tb2 = [] := rfl
@[simp] theorem tbm0 : look 0 tb2 = some ti0 := rfl
@[simp] theorem tbm1 : look 1 tb2 = some ti1 := rfl
@[simp] theorem tbm2 : look 2 tb2 = some ti2 := rfl
@[simp] theorem tbm3 : look 3 tb2 = some ti3 := rfl
@[simp] theorem tbm4 : look 4 tb2 = some ti4 := rfl
@[simp] theorem tbm5 : look 5 tb2 = some ti5 := rfl
@[simp] theorem tbm6 : look 6 tb2 = some ti6 := rfl
@[simp] theorem tbm7 : look 7 tb2 = some ti7 := rfl
@[simp] theorem tbm8 : look 8 tb2 = some ti8 := rfl
@[simp] theorem tbm9 : look 9 tb2 = some ti9 := rfl
@[simp] theorem tbm10 : look 10 tb2 = some ti10 := rfl
@[simp] theorem tbm11 : look 11 tb2 = some ti11 := rfl
@[simp] theorem tbm12 : look 12 tb2 = some ti12 := rfl
@[simp] theorem tbm13 : look 13 tb2 = some ti13 := rfl
@[simp] theorem tbm14 : look 14 tb2 = some ti14 := rfl
@[simp] theorem tbm15 : look 15 tb2 = some ti15 := rfl
@[simp] theorem tbm16 : look 16 tb2 = some ti16 := rfl
@[simp] theorem tbm17 : look 17 tb2 = some ti17 := rfl
@[simp] theorem tbm18 : look 18 tb2 = some ti18 := rfl
@[simp] theorem tbm19 : look 19 tb2 = some ti19 := rfl
@[simp] theorem tbm20 : look 20 tb2 = some ti20 := rfl
@[simp] theorem tbm21 : look 21 tb2 = some ti21 := rfl
@[simp] theorem tbm22 : look 22 tb2 = some ti22 := rfl
@[simp] theorem tbm23 : look 23 tb2 = some ti23 := rfl
@[simp] theorem tbm24 : look 24 tb2 = some ti24 := rfl
@[simp] theorem tbm25 : look 25 tb2 = some ti25 := rfl
@[simp] theorem tbm26 : look 26 tb2 = some ti26 := rfl
@[simp] theorem tbm27 : look 27 tb2 = some ti27 := rfl
@[simp] theorem tbm28 : look 28 tb2 = some ti28 := rfl
@[simp] theorem tbm29 : look 29 tb2 = some ti29 := rfl
@[simp] theorem tbm30 : look 30 tb2 = some ti30 := rfl
@[simp] theorem tbm31 : look 31 tb2 = some ti31 := rfl
@[simp] theorem tbm32 : look 32 tb2 = some ti32 := rfl
@[simp] theorem tbm33 : look 33 tb2 = some ti33 := rfl
@[simp] theorem tbm34 : look 34 tb2 = some ti34 := rfl
@[simp] theorem tbm35 : look 35 tb2 = some ti35 := rfl
@[simp] theorem tbm36 : look 36 tb2 = some ti36 := rfl
@[simp] theorem tbm37 : look 37 tb2 = some ti37 := rfl
@[simp] theorem tbm38 : look 38 tb2 = some ti38 := rfl
@[simp] theorem tbm39 : look 39 tb2 = some ti39 := rfl
@[simp] theorem tbm40 : look 40 tb2 = some ti40 := rfl
@[simp] theorem tbm41 : look 41 tb2 = some ti41 := rfl
@[simp] theorem tbm42 : look 42 tb2 = some ti42 := rfl
@[simp] theorem tbm43 : look 43 tb2 = some ti43 := rfl
@[simp] theorem tbm44 : look 44 tb2 = some ti44 := rfl
@[simp] theorem tbm45 : look 45 tb2 = some ti45 := rfl
@[simp] theorem tbm46 : look 46 tb2 = some ti46 := rfl
@[simp] theorem tbm47 : look 47 tb2 = some ti47 := rfl
@[simp] theorem tbm48 : look 48 tb2 = some ti48 := rfl
@[simp] theorem tbm49 : look 49 tb2 = some ti49 := rfl
@[simp] theorem tbm50 : look 50 tb2 = some ti50 := rfl
@[simp] theorem tbm51 : look 51 tb2 = some ti51 := rfl
@[simp] theorem tbm52 : look 52 tb2 = some ti52 := rfl
@[simp] theorem tbm53 : look 53 tb2 = some ti53 := rfl
@[simp] theorem tbm54 : look 54 tb2 = some ti54 := rfl
@[simp] theorem tbm55 : look 55 tb2 = some ti55 := rfl
@[simp] theorem tbm56 : look 56 tb2 = some ti56 := rfl
@[simp] theorem tbm57 : look 57 tb2 = some ti57 := rfl
@[simp] theorem tbm58 : look 58 tb2 = some ti58 := rfl
@[simp] theorem tbm59 : look 59 tb2 = some ti59 := rfl
@[simp] theorem tbm60 : look 60 tb2 = some ti60 := rfl
@[simp] theorem tbm61 : look 61 tb2 = some ti61 := rfl
@[simp] theorem tbm63 : look 63 tb2 = some ti63 := rfl
@[simp] theorem tbm64 : look 64 tb2 = some ti64 := rfl
@[simp] theorem tbm65 : look 65 tb2 = some ti65 := rfl
@[simp] theorem tbm66 : look 66 tb2 = some ti66 := rfl
@[simp] theorem tbm67 : look 67 tb2 = some ti67 := rfl
@[simp] theorem tbm68 : look 68 tb2 = some ti68 := rfl
@[simp] theorem tbm69 : look 69 tb2 = some ti69 := rfl
@[simp] theorem tbm70 : look 70 tb2 = some ti70 := rfl
@[simp] theorem tbm71 : look 71 tb2 = some ti71 := rfl
@[simp] theorem tbm72 : look 72 tb2 = some ti72 := rfl
@[simp] theorem tbm73 : look 73 tb2 = some ti73 := rfl
@[simp] theorem tbm74 : look 74 tb2 = some ti74 := rfl
@[simp] theorem tbm75 : look 75 tb2 = some ti75 := rfl
@[simp] theorem tbm76 : look 76 tb2 = some ti76 := rfl
@[simp] theorem tbm77 : look 77 tb2 = some ti77 := rfl
@[simp] theorem tbm78 : look 78 tb2 = some ti78 := rfl
@[simp] theorem tbm79 : look 79 tb2 = some ti79 := rfl
@[simp] theorem tbm80 : look 80 tb2 = some ti80 := rfl
@[simp] theorem tbm81 : look 81 tb2 = some ti81 := rfl
@[simp] theorem tbm82 : look 82 tb2 = some ti82 := rfl
@[simp] theorem tbm83 : look 83 tb2 = some ti83 := rfl
@[simp] theorem tbm84 : look 84 tb2 = some ti84 := rfl
@[simp] theorem tbm85 : look 85 tb2 = some ti85 := rfl
@[simp] theorem tbm86 : look 86 tb2 = some ti86 := rfl
@[simp] theorem tbm87 : look 87 tb2 = some ti87 := rfl
@[simp] theorem tbm88 : look 88 tb2 = some ti88 := rfl
@[simp] theorem tbm89 : look 89 tb2 = some ti89 := rfl
@[simp] theorem tbm90 : look 90 tb2 = some ti90 := rfl
@[simp] theorem tbm91 : look 91 tb2 = some ti91 := rfl
@[simp] theorem tbm92 : look 92 tb2 = some ti92 := rfl
@[simp] theorem tbm93 : look 93 tb2 = some ti93 := rfl
@[simp] theorem tbm94 : look 94 tb2 = some ti94 := rfl
@[simp] theorem tbm95 : look 95 tb2 = some ti95 := rfl
@[simp] theorem tbm96 : look 96 tb2 = some ti96 := rfl
@[simp] theorem tbm97 : look 97 tb2 = some ti97 := rfl
@[simp] theorem tbm98 : look 98 tb2 = some ti98 := rfl
@[simp] theorem tbm99 : look 99 tb2 = some ti99 := rfl
@[simp] theorem tbm100 : look 100 tb2 = some ti100 := rfl
@[simp] theorem tbm101 : look 101 tb2 = some ti101 := rfl
@[simp] theorem tbm102 : look 102 tb2 = some ti102 := rfl
@[simp] theorem tbm103 : look 103 tb2 = some ti103 := rfl
@[simp] theorem tbm104 : look 104 tb2 = some ti104 := rfl
@[simp] theorem tbm105 : look 105 tb2 = some ti105 := rfl
@[simp] theorem tbm106 : look 106 tb2 = some ti106 := rfl
@[simp] theorem tbm107 : look 107 tb2 = some ti107 := rfl
@[simp] theorem tbm108 : look 108 tb2 = some ti108 := rfl
@[simp] theorem tbm109 : look 109 tb2 = some ti109 := rfl
@[simp] theorem tbm110 : look 110 tb2 = some ti110 := rfl
@[simp] theorem tbm111 : look 111 tb2 = some ti111 := rfl
@[simp] theorem tbm112 : look 112 tb2 = some ti112 := rfl
@[simp] theorem tbm113 : look 113 tb2 = some ti113 := rfl
@[simp] theorem tbm114 : look 114 tb2 = some ti114 := rfl
@[simp] theorem tbm115 : look 115 tb2 = some ti115 := rfl
@[simp] theorem tbm116 : look 116 tb2 = some ti116 := rfl
@[simp] theorem tbm117 : look 117 tb2 = some ti117 := rfl
@[simp] theorem tbm118 : look 118 tb2 = some ti118 := rfl
@[simp] theorem tbm119 : look 119 tb2 = some ti119 := rfl
@[simp] theorem tbm120 : look 120 tb2 = some ti120 := rfl
@[simp] theorem tbm121 : look 121 tb2 = some ti121 := rfl
@[simp] theorem tbm122 : look 122 tb2 = some ti122 := rfl
@[simp] theorem tbm123 : look 123 tb2 = some ti123 := rfl
@[simp] theorem tbm124 : look 124 tb2 = some ti124 := rfl
@[simp] theorem tbm125 : look 125 tb2 = some ti125 := rfl
@[simp] theorem tbm126 : look 126 tb2 = some ti126 := rfl
@[simp] theorem tbm127 : look 127 tb2 = some ti127 := rfl
@[simp] theorem tbm128 : look 128 tb2 = some ti128 := rfl
@[simp] theorem tbm129 : look 129 tb2 = some ti129 := rfl
@[simp] theorem tbm130 : look 130 tb2 = some ti130 := rfl
@[simp] theorem tbm131 : look 131 tb2 = some ti131 := rfl
@[simp] theorem tbm132 : look 132 tb2 = some ti132 := rfl
@[simp] theorem tbm133 : look 133 tb2 = some ti133 := rfl
@[simp] theorem tbm134 : look 134 tb2 = some ti134 := rfl
@[simp] theorem tbm135 : look 135 tb2 = some ti135 := rfl
@[simp] theorem tbm136 : look 136 tb2 = some ti136 := rfl
@[simp] theorem tbm137 : look 137 tb2 = some ti137 := rfl
@[simp] theorem tbm138 : look 138 tb2 = some ti138 := rfl
@[simp] theorem tbm139 : look 139 tb2 = some ti139 := rfl
@[simp] theorem tbm140 : look 140 tb2 = some ti140 := rfl
@[simp] theorem tbm141 : look 141 tb2 = some ti141 := rfl
@[simp] theorem tbm142 : look 142 tb2 = some ti142 := rfl
@[simp] theorem tbm143 : look 143 tb2 = some ti143 := rfl
@[simp] theorem tbm144 : look 144 tb2 = some ti144 := rfl
@[simp] theorem tbm145 : look 145 tb2 = some ti145 := rfl
@[simp] theorem tbm146 : look 146 tb2 = some ti146 := rfl
@[simp] theorem tbm147 : look 147 tb2 = some ti147 := rfl
@[simp] theorem tbm148 : look 148 tb2 = some ti148 := rfl
@[simp] theorem tbm149 : look 149 tb2 = some ti149 := rfl
@[simp] theorem tbm150 : look 150 tb2 = some ti150 := rfl
@[simp] theorem tbm151 : look 151 tb2 = some ti151 := rfl
@[simp] theorem tbm152 : look 152 tb2 = some ti152 := rfl
@[simp] theorem tbm153 : look 153 tb2 = some ti153 := rfl
@[simp] theorem tbm154 : look 154 tb2 = some ti154 := rfl
@[simp] theorem tbm155 : look 155 tb2 = some ti155 := rfl
@[simp] theorem tbm156 : look 156 tb2 = some ti156 := rfl
@[simp] theorem tbm157 : look 157 tb2 = some ti157 := rfl
end Go.Proofs.Ytgoklgibhmddoaa
namespace Go.Proofs.Ytgoklgibhmddoaa
open Go.RowKit
set_option maxRecDepth 100000

def cellV (T : To) (i : Nat) : PV := if i < 400 then .d (.v (.string (strOfNums (T.y i)))) else .b (T.o i)
def told (T : To) : List PV := (List.range 500).map (cellV T)
theorem cell_y (T : To) {i : Nat} (h : i < 400) : cellV T i = .d (.v (.string (strOfNums (T.y i)))) := if_pos h
theorem cell_o (T : To) {i : Nat} (h : ¬ i < 400) : cellV T i = .b (T.o i) := if_neg h
@[simp] theorem told_len (T : To) : (told T).length = 500 := by simp [told]
theorem told_at (T : To) {i : Nat} (h : i < 500) : (told T)[i]? = some (cellV T i) := by
  unfold told
  rw [List.getElem?_map, List.getElem?_range h]; rfl
theorem told_y (T : To) {i : Nat} (h : i < 400) : (told T)[i]? = some (.d (.v (.string (strOfNums (T.y i))))) := by rw [told_at T (by omega), cell_y T h]
theorem told_o (T : To) {i : Nat} (h : ¬ i < 400) (h2 : i < 500) : (told T)[i]? = some (.b (T.o i)) := by rw [told_at T h2, cell_o T h]
theorem told_put (T T' : To) {i : Nat} {v : PV} (hi : i < 500) (h : ∀ j, j < 500 → cellV T' j = if j = i then v else cellV T j) : (told T).take i ++ v :: (told T).drop (i + 1) = told T' := by
  have e : (told T).take i ++ v :: (told T).drop (i + 1) = (told T).set i v := by rw [List.set_eq_take_append_cons_drop, if_pos (by simpa using hi)]
  rw [e]
  apply List.ext_getElem?
  intro j
  rw [List.getElem?_set]
  by_cases hj : j < 500
  · rw [told_at T' hj, h j hj]
    by_cases hij : i = j
    · subst hij; simp [hi]
    · rw [if_neg hij, if_neg (Ne.symm hij), told_at T hj]
  · rw [List.getElem?_eq_none (l := told T') (by simp; omega), if_neg (by omega), List.getElem?_eq_none (by simp; omega)]
theorem told_add (T : To) {i : Nat} (b : List Int) (h : i < 400) : (told T).take i ++ PV.d (.v (.string (strOfNums (T.y i ++ b)))) :: (told T).drop (i + 1) = told (T.add i b) := by
  refine told_put T _ (by omega) fun j hj => ?_
  by_cases e : j = i
  · subst e; rw [if_pos rfl, cell_y _ h, T.add_at]
  · rw [if_neg e]
    unfold cellV
    rw [T.add_ne _ e]
    rfl
theorem told_mark (T : To) {i : Nat} (v : Bool) (h : ¬ i < 400) (h2 : i < 500) : (told T).take i ++ PV.b v :: (told T).drop (i + 1) = told (T.mark i v) := by
  refine told_put T _ h2 fun j hj => ?_
  by_cases e : j = i
  · subst e
    rw [if_pos rfl, cell_o _ h]
    show PV.b (if j = j then v else T.o j) = _
    rw [if_pos rfl]
  · rw [if_neg e]
    unfold cellV
    show (if j < 400 then _ else PV.b (if j = i then v else T.o j)) = _
    rw [if_neg e]
    rfl
theorem cell_cases (T : To) (i : Nat) : (∃ s, cellV T i = .d (.v (.string s))) ∨ ∃ b, cellV T i = .b b := by
  unfold cellV
  split
  · exact .inl ⟨_, rfl⟩
  · exact .inr ⟨_, rfl⟩
theorem told_mem {T : To} {x : PV} (h : x ∈ told T) : (∃ s, x = .d (.v (.string s))) ∨ ∃ b, x = .b b := by
  unfold told at h
  obtain ⟨i, _, rfl⟩ := List.mem_map.1 h
  exact cell_cases T i
@[simp] theorem told_nokeys (T : To) : List.flatMap PV.keys1 (told T) = [] := by
  rw [List.flatMap_eq_nil_iff]
  intro x hx
  rcases told_mem hx with ⟨s, rfl⟩ | ⟨b, rfl⟩ <;> rfl
@[simp] theorem told_ren (T : To) (f : Nat → Nat) : (told T).map (PV.ren1 f) = told T := by
  refine (List.map_congr_left fun x hx => ?_).trans (List.map_id _)
  rcases told_mem hx with ⟨s, rfl⟩ | ⟨b, rfl⟩ <;> rfl
@[simp] theorem told_one (T : To) : (told T).all PV.one = true := by
  rw [List.all_eq_true]
  intro x hx
  rcases told_mem hx with ⟨s, rfl⟩ | ⟨b, rfl⟩ <;> rfl
theorem le_told : ∀ {l : List PV}, (∀ x ∈ l, (∃ s, x = .d (.v (.string s))) ∨ ∃ b, x = .b b) → All2 Le0 l l
  | [], _ => trivial
  | x :: l, h => ⟨by
      rcases h x (by simp) with ⟨s, rfl⟩ | ⟨b, rfl⟩
      · simp [Le0]
      · simp [Le0], le_told fun y hy => h y (by simp [hy])⟩
@[simp] theorem told_le (T : To) : All2 Le0 (told T) (told T) = True := eq_true (le_told fun _ hx => told_mem hx)
theorem told_zero : toldZ.map (fun v => PV.d (.v v)) = told T0 := by kernel_rfl
theorem strs_extract (a : List Int) (n : Nat) : (strOfNums a).extract 0 n = strOfNums (a.take n) := by
  apply ByteArray.ext
  simp [strOfNums, ByteArray.data_extract]
theorem begins_m (a b : List Int) (h : b <+: a) : Meets Try.prog 25 [.d (.v (.string (strOfNums a))), .d (.v (.string (strOfNums b)))] [] (Ret (.b true)) := by
  have hl := h.length_le
  have ht : a.take b.length = b := (List.prefix_iff_eq_take.1 h).symm
  refine meetsH [] tb2Ok mixed Try.func25 pl25 rfl rfl ?_
  have h1 : (b.length : Int) ≤ a.length := by omega
  simp [Try.ntmps25, strs_size, h1, strs_extract, ht]
  exact vcRet_of [] (by simp) rfl
theorem least_m (a b : Int) : Meets Try.prog 70 [.i a, .i b] [] (Ret (.i (least_ a b))) := by
  refine meetsH [] tb2Ok mixed Try.func70 pl70 rfl rfl ?_
  simp [Try.ntmps70]
  exact vcRet_of [] (by simp [least_]) rfl
attribute [irreducible] told
end Go.Proofs.Ytgoklgibhmddoaa
namespace Go.Proofs.Ytgoklgibhmddoaa
open Go.RowKit
set_option maxRecDepth 100000

abbrev ActPost (s : Nw) (T : To) (x : Ac) : Res → Prop := fun r => r = ⟨.tup [(actS s T x).1.pv, .b true], [.box 63 (told (actS s T x).2)], []⟩
set_option maxHeartbeats 8000000 in
theorem actOut_m (s : Nw) (T : To) (x : Ac) (hn : x.conn < 1 ∨ 99 < x.conn) : Meets Try.prog 24 [.ptr 1000000 0, s.pv, x.pv] [.box 63 (told T)] (ActPost s T x) := by
  have ha : actS s T x = (s, T) := by unfold actS; rw [if_pos hn]
  unfold ActPost
  rw [ha]
  refine meetsH [] tb2Ok mixed Try.func24 pl24 rfl rfl ?_
  by_cases h1 : x.conn < 1
  · simp [Try.ntmps24, h1]
    exact vcRet_of [] (by simp) rfl
  · have h2 : 99 < x.conn := by omega
    simp [Try.ntmps24, h1, h2]
    exact vcRet_of [] (by simp) rfl
section
variable {k : Nat} {s : Nw} {T : To} {x : Ac}
theorem act_near (hn : 1 ≤ x.conn ∧ x.conn ≤ 99) : ¬ x.conn < 1 ∧ ¬ 99 < x.conn ∧ ¬ (x.conn < 1 ∨ 99 < x.conn) ∧ 0 ≤ x.conn ∧ x.conn < 100 ∧ x.conn.toNat < 100 := by omega
set_option maxHeartbeats 8000000 in
theorem actWrite_m (h : TInv k s T) (hok : NOk s) (hk : k ≤ 100) (hn : 1 ≤ x.conn ∧ x.conn ≤ 99) (hw : 0 ≤ x.what) (hb : x.b.length ≤ 200) (hx : x.what % 14 = 4 ∨ x.what % 14 = 5) :
    Meets Try.prog 24 [.ptr 1000000 0, s.pv, x.pv] [.box 63 (told T)] (ActPost s T x) := by
  obtain ⟨n1, n2, n3, n4, n5, n6⟩ := act_near hn
  have hf := fits_of (nok_iff.2 hok)
  obtain ⟨l1, l2⟩ := write_law h hok hn hb
  have ha : actS s T x = if (writeS s x.conn x.b).2.2 ≠ 0 then (s, T) else ((writeS s x.conn x.b).1, T.add x.conn.toNat (x.b.take (writeS s x.conn x.b).2.1.toNat)) := by
    unfold actS; rw [if_neg n3, if_pos hx]
  unfold ActPost
  rw [ha]
  have hget := told_y T (i := x.conn.toNat) (by omega)
  have hln := h.ln x.conn.toNat (by omega)
  have hmod : ∀ q : Int, x.what % 14 = q → x.what.tmod 14 = q := fun q e => Ac.rem e hw
  rcases hx with hx | hx
  all_goals
    refine meetsH [] tb2Ok mixed Try.func24 pl24 rfl rfl ?_
    simp [Try.ntmps24, n1, n2, hmod _ hx]
    refine (Write_m s hf x.conn x.b (by omega)).mono ?_
    rintro _ rfl
    by_cases he : (writeS s x.conn x.b).2.2 = 0
    case neg =>
      have hz := l1 he
      simp [he, hz]
      refine vcRet_of [] ?_ rfl
      simp
    obtain ⟨⟨r0, r1⟩, _⟩ := l2 he
    generalize (writeS s x.conn x.b).2.1 = n at r0 r1
    have r2 : ¬ n < 0 := by omega
    have r3 : ¬ (x.b.length : Int) < n := by omega
    have hnt : n.toNat ≤ x.b.length := by omega
    have happ := strs_app (T.y x.conn.toNat) (x.b.take n.toNat)
    have hadd := told_add T (i := x.conn.toNat) (x.b.take n.toNat) (by omega)
    have hsize : (strOfNums (T.y x.conn.toNat)).size + (strOfNums (x.b.take n.toNat)).size ≤ 4611686018427387904 := by
      rw [strs_size, strs_size]; simp only [List.length_take]; omega
    simp [he, r0, r1, r2, r3, n4, n5, hget, happ, hsize, hadd]
    repeat (first | refine ⟨by omega, ?_⟩ | refine ⟨by kernel_rfl, ?_⟩)
    refine vcRet_of [] ?_ rfl
    simp
set_option maxHeartbeats 8000000 in
theorem actTake_m (h : TInv k s T) (hok : NOk s) (hk : k ≤ 100) (hn : 1 ≤ x.conn ∧ x.conn ≤ 99) (hw : 0 ≤ x.what) (hx : x.what % 14 = 8) :
    Meets Try.prog 24 [.ptr 1000000 0, s.pv, x.pv] [.box 63 (told T)] (ActPost s T x) := by
  obtain ⟨n1, n2, n3, n4, n5, n6⟩ := act_near hn
  have hf := fits_of (nok_iff.2 hok)
  obtain ⟨l1, _⟩ := take_law h hok hn
  have ha : actS s T x = ((takeS s x.conn).1, T.add (200 + x.conn.toNat) (takeS s x.conn).2.1) := by
    unfold actS; rw [if_neg n3, if_neg (by omega), if_neg (by omega), if_pos hx]
  unfold ActPost
  rw [ha]
  have hget := told_y T (i := 200 + x.conn.toNat) (by omega)
  have hl1 := h.ln x.conn.toNat (by omega)
  have hl2 := (h.pw x.conn.toNat n6).length_le
  have hbl : (takeS s x.conn).2.1.length ≤ 1048576 := by
    unfold takeS
    dsimp only
    split
    · rename_i h0
      have hfe : (findE s x.conn).2 = 0 := by
        by_cases h1 : (findE s x.conn).2 = 0
        · exact h1
        · have : changeS s x.conn [1, 3] (fun c _ => (0, takeF c)) = (s, (findE s x.conn).2) := by unfold changeS; rw [if_pos h1]
          rw [this] at h0; exact h0
      obtain ⟨c, p, A⟩ := at_of hf hfe
      rw [A.cn]
      have := A.upN
      unfold Dr.n at this
      omega
    · simp
  refine meetsH [] tb2Ok mixed Try.func24 pl24 rfl rfl ?_
  simp [Try.ntmps24, n1, n2, Ac.rem hx hw]
  refine (Take_m s hf x.conn).mono ?_
  rintro _ rfl
  generalize (takeS s x.conn).2.1 = b at l1 hbl
  generalize (takeS s x.conn).2.2.1 = d at l1
  generalize (takeS s x.conn).2.2.2 = e at l1
  generalize (takeS s x.conn).1 = t
  have happ := strs_app (T.y (200 + x.conn.toNat)) b
  have hadd := told_add T (i := 200 + x.conn.toNat) b (by omega)
  have hg1 := told_y (T.add (200 + x.conn.toNat) b) (i := 200 + x.conn.toNat) (by omega)
  have hg2 := told_y (T.add (200 + x.conn.toNat) b) (i := x.conn.toNat) (by omega)
  rw [T.add_at] at hg1
  rw [T.add_ne _ (by omega)] at hg2
  have hsize : (strOfNums (T.y (200 + x.conn.toNat))).size + (strOfNums b).size ≤ 4611686018427387904 := by
    rw [strs_size, strs_size]; omega
  by_cases he : e = 0
  · by_cases hd : d = 0
    · simp [he, hd, n4, n5, hget, happ, hsize, hadd, hg1, hg2]
      repeat (first | refine ⟨by omega, ?_⟩ | refine ⟨by kernel_rfl, ?_⟩)
      refine vcRet_of [] ?_ rfl
      simp
    · have heq : T.y (200 + x.conn.toNat) ++ b = T.y x.conn.toNat := by
        rcases l1 with h | h | h
        · exact absurd he h
        · exact absurd h hd
        · exact h
      rw [← heq] at hg2
      simp [he, hd, n4, n5, hget, happ, hsize, hadd, hg1, hg2]
      repeat (first | refine ⟨by omega, ?_⟩ | refine ⟨by kernel_rfl, ?_⟩)
      refine vcRet_of [] ?_ rfl
      simp
  · simp [he, n4, n5, hget, happ, hsize, hadd, hg1, hg2]
    repeat (first | refine ⟨by omega, ?_⟩ | refine ⟨by kernel_rfl, ?_⟩)
    refine vcRet_of [] ?_ rfl
    simp
set_option maxHeartbeats 8000000 in
theorem actPut_m (h : TInv k s T) (hok : NOk s) (hk : k ≤ 100) (hn : 1 ≤ x.conn ∧ x.conn ≤ 99) (hw : 0 ≤ x.what) (hb : x.b.length ≤ 200) (hx : x.what % 14 = 9 ∨ x.what % 14 = 10) :
    Meets Try.prog 24 [.ptr 1000000 0, s.pv, x.pv] [.box 63 (told T)] (ActPost s T x) := by
  obtain ⟨n1, n2, n3, n4, n5, n6⟩ := act_near hn
  have hf := fits_of (nok_iff.2 hok)
  have ha : actS s T x = if (putS s x.conn x.b (least_ x.n 100)).2 = 0 then ((putS s x.conn x.b (least_ x.n 100)).1, T.add (100 + x.conn.toNat) x.b) else ((putS s x.conn x.b (least_ x.n 100)).1, T) := by
    unfold actS; rw [if_neg n3, if_neg (by omega), if_neg (by omega), if_neg (by omega), if_pos hx]
  unfold ActPost
  rw [ha]
  have hget := told_y T (i := 100 + x.conn.toNat) (by omega)
  have hl1 := h.ln (100 + x.conn.toNat) (by omega)
  have hmod : ∀ q : Int, x.what % 14 = q → x.what.tmod 14 = q := fun q e => Ac.rem e hw
  have happ := strs_app (T.y (100 + x.conn.toNat)) x.b
  have hadd := told_add T (i := 100 + x.conn.toNat) x.b (by omega)
  have hsize : (strOfNums (T.y (100 + x.conn.toNat))).size + (strOfNums x.b).size ≤ 4611686018427387904 := by
    rw [strs_size, strs_size]; omega
  rcases hx with hx | hx
  all_goals
    refine meetsH [] tb2Ok mixed Try.func24 pl24 rfl rfl ?_
    simp [Try.ntmps24, n1, n2, hmod _ hx]
    refine effCall (least_m x.n 100) ?_
    simp
    refine effCall (Put_m s hf x.conn x.b (by omega) (least_ x.n 100)) ?_
    simp
    refine ⟨by kernel_rfl, ?_⟩
    by_cases he : (putS s x.conn x.b (least_ x.n 100)).2 = 0
    · simp [he, n4, n5, hget, happ, hsize, hadd]
      repeat (first | refine ⟨by omega, ?_⟩ | refine ⟨by kernel_rfl, ?_⟩)
      refine vcRet_of [] ?_ rfl
      simp
    · simp [he]
      refine vcRet_of [] ?_ rfl
      simp
theorem actElse_m (hok : NOk s) (hn : 1 ≤ x.conn ∧ x.conn ≤ 99) (hw : 0 ≤ x.what) (hb : x.b.length ≤ 200) (h4 : ¬ x.what % 14 = 4) (h5 : ¬ x.what % 14 = 5) (h6 : ¬ x.what % 14 = 6) (h8 : ¬ x.what % 14 = 8) (h9 : ¬ x.what % 14 = 9) (h10 : ¬ x.what % 14 = 10) :
    Meets Try.prog 24 [.ptr 1000000 0, s.pv, x.pv] [.box 63 (told T)] (ActPost s T x) := by
  obtain ⟨n1, n2, n3, n4, n5, n6⟩ := act_near hn
  have ha : actS s T x = (doS s x, T) := by
    unfold actS; rw [if_neg n3, if_neg (by omega), if_neg (by omega), if_neg (by omega), if_neg (by omega)]
  unfold ActPost
  rw [ha]
  have hm : x.what.tmod 14 = x.what % 14 := Int.tmod_eq_emod_of_nonneg hw
  refine meetsH [] tb2Ok mixed Try.func24 pl24 rfl rfl ?_
  simp [Try.ntmps24, n1, n2, hm, h4, h5, h6, h8, h9, h10]
  refine (do_m s (nok_iff.2 hok) x hw (by omega)).mono ?_
  rintro _ rfl
  simp
  refine vcRet_of [] ?_ rfl
  simp
set_option maxHeartbeats 16000000 in
theorem actRead_m (h : TInv k s T) (hok : NOk s) (hk : k ≤ 100) (hn : 1 ≤ x.conn ∧ x.conn ≤ 99) (hw : 0 ≤ x.what) (hx : x.what % 14 = 6) :
    Meets Try.prog 24 [.ptr 1000000 0, s.pv, x.pv] [.box 63 (told T)] (ActPost s T x) := by
  obtain ⟨n1, n2, n3, n4, n5, n6⟩ := act_near hn
  have hf := fits_of (nok_iff.2 hok)
  obtain ⟨l1, l2, l3, l4⟩ := read_law h hok hn (least_ x.n 500) _ rfl
  have ha : actS s T x = ((readS s x.conn (least_ x.n 500)).1, (T.add (300 + x.conn.toNat) (readS s x.conn (least_ x.n 500)).2.1).mark (400 + x.conn.toNat) (T.o (400 + x.conn.toNat) || (decide ((readS s x.conn (least_ x.n 500)).2.2 = 121) || decide ((readS s x.conn (least_ x.n 500)).2.2 = 120)))) := by
    unfold actS; rw [if_neg n3, if_neg (by omega), if_pos hx]
  unfold ActPost
  rw [ha]
  have hget := told_y T (i := 300 + x.conn.toNat) (by omega)
  have hl1 := h.ln (100 + x.conn.toNat) (by omega)
  have hl2 := (h.pr x.conn.toNat n6).length_le
  have hl3 := (l4.pr x.conn.toNat n6).length_le
  have hl4 := l4.ln (100 + x.conn.toNat) (by omega)
  have hl5 : ((T.add (300 + x.conn.toNat) (readS s x.conn (least_ x.n 500)).2.1).y (300 + x.conn.toNat)).length ≤ 200 * (k + 1) := Nat.le_trans hl3 hl4
  rw [T.add_at, List.length_append] at hl5
  clear hl3 hl4 l4
  refine meetsH [] tb2Ok mixed Try.func24 pl24 rfl rfl ?_
  simp [Try.ntmps24, n1, n2, Ac.rem hx hw]
  refine effCall (least_m x.n 500) ?_
  simp
  refine effCall (Read_m s hf x.conn (least_ x.n 500)) ?_
  generalize (readS s x.conn (least_ x.n 500)).2.1 = b at l1 l2 hl5
  generalize (readS s x.conn (least_ x.n 500)).2.2 = e at l1 l2 l3
  generalize (readS s x.conn (least_ x.n 500)).1 = t
  have happ := strs_app (T.y (300 + x.conn.toNat)) b
  have hadd := told_add T (i := 300 + x.conn.toNat) b (by omega)
  generalize hT : T.add (300 + x.conn.toNat) b = T1 at hadd
  have hg1 := told_y T1 (i := 300 + x.conn.toNat) (by omega)
  have hg2 := told_y T1 (i := 100 + x.conn.toNat) (by omega)
  have hg3 := told_o T1 (i := 400 + x.conn.toNat) (by omega) (by omega)
  have e1 : T1.y (300 + x.conn.toNat) = T.y (300 + x.conn.toNat) ++ b := by rw [← hT, T.add_at]
  have e2 : T1.y (100 + x.conn.toNat) = T.y (100 + x.conn.toNat) := by rw [← hT, T.add_ne _ (by omega)]
  have e3 : T1.o (400 + x.conn.toNat) = T.o (400 + x.conn.toNat) := by rw [← hT]; rfl
  rw [e1] at hg1
  rw [e2] at hg2
  rw [e3] at hg3
  have hsize : (strOfNums (T.y (300 + x.conn.toNat))).size + (strOfNums b).size ≤ 4611686018427387904 := by
    rw [strs_size, strs_size]; omega
  have hmk := fun v => told_mark T1 (i := 400 + x.conn.toNat) v (by omega) (by omega)
  by_cases e121 : e = 121
  · have hbn : b.length = 0 := by rw [l2 (by omega)]; rfl
    have heq := l1 e121
    rw [← heq] at hg2
    cases ho : T.o (400 + x.conn.toNat)
    all_goals
      rw [ho] at hg3
      simp [e121, hbn, ho, n4, n5, hget, happ, hsize, hadd, hg1, hg2, hg3, hmk]
      repeat (first | refine ⟨by omega, ?_⟩ | refine ⟨by kernel_rfl, ?_⟩)
      refine vcRet_of [] ?_ rfl
      simp [e121, hbn, ho]
  by_cases e0 : e = 0
  · have ho : T.o (400 + x.conn.toNat) = false := by
      cases hx : T.o (400 + x.conn.toNat)
      · rfl
      · exact absurd e0 (l3 hx)
    rw [ho] at hg3
    simp [e0, ho, n4, n5, hget, happ, hsize, hadd, hg1, hg2, hg3, hmk]
    repeat (first | refine ⟨by omega, ?_⟩ | refine ⟨by kernel_rfl, ?_⟩)
    refine vcRet_of [] ?_ rfl
    simp [e0, ho]
  have hbn : b.length = 0 := by rw [l2 e0]; rfl
  by_cases e120 : e = 120
  · cases ho : T.o (400 + x.conn.toNat)
    all_goals
      rw [ho] at hg3
      simp [e120, hbn, ho, n4, n5, hget, happ, hsize, hadd, hg1, hg2, hg3, hmk]
      repeat (first | refine ⟨by omega, ?_⟩ | refine ⟨by kernel_rfl, ?_⟩)
      refine vcRet_of [] ?_ rfl
      simp [e120, hbn, ho]
  · cases ho : T.o (400 + x.conn.toNat)
    all_goals
      rw [ho] at hg3
      simp [e121, e0, e120, hbn, ho, n4, n5, hget, happ, hsize, hadd, hg1, hg2, hg3, hmk]
      repeat (first | refine ⟨by omega, ?_⟩ | refine ⟨by kernel_rfl, ?_⟩)
      refine vcRet_of [] ?_ rfl
      simp [e121, e0, e120, hbn, ho]
theorem act_m (h : TInv k s T) (hok : NOk s) (hk : k ≤ 100) (hw : 0 ≤ x.what) (hb : x.b.length ≤ 200) : Meets Try.prog 24 [.ptr 1000000 0, s.pv, x.pv] [.box 63 (told T)] (ActPost s T x) := by
  by_cases hn : x.conn < 1 ∨ 99 < x.conn
  · exact actOut_m s T x hn
  have hn : 1 ≤ x.conn ∧ x.conn ≤ 99 := by omega
  by_cases h4 : x.what % 14 = 4
  · exact actWrite_m h hok hk hn hw hb (.inl h4)
  by_cases h5 : x.what % 14 = 5
  · exact actWrite_m h hok hk hn hw hb (.inr h5)
  by_cases h6 : x.what % 14 = 6
  · exact actRead_m h hok hk hn hw h6
  by_cases h8 : x.what % 14 = 8
  · exact actTake_m h hok hk hn hw h8
  by_cases h9 : x.what % 14 = 9
  · exact actPut_m h hok hk hn hw hb (.inl h9)
  by_cases h10 : x.what % 14 = 10
  · exact actPut_m h hok hk hn hw hb (.inr h10)
  · exact actElse_m hok hn hw hb h4 h5 h6 h8 h9 h10
end
end Go.Proofs.Ytgoklgibhmddoaa
namespace Go.Proofs.Ytgoklgibhmddoaa
open Go.RowKit
set_option maxRecDepth 100000

set_option maxHeartbeats 16000000 in
theorem lawBytes_m (plans : List Pl) (l : List Ac) (hl : l.length ≤ maxLen) (hw : ∀ x ∈ l, 0 ≤ x.what) : Meets Try.prog 5 [.d (pls plans), .d (acs l)] [] (Ret (.b true)) := by
  refine meetsH [] tb2Ok mixed Try.func5 pl5 rfl rfl ?_
  by_cases h4 : (4 : Int) < plans.length
  · simp [Try.ntmps5, h4]
    refine awake_m.mono ?_
    rintro _ rfl
    simp
    exact vcRet_of [] (by simp) rfl
  simp [Try.ntmps5, h4]
  refine (big_m l hl).mono ?_
  rintro _ rfl
  cases hb : bigL l
  case true =>
    simp
    refine awake_m.mono ?_
    rintro _ rfl
    simp
    exact vcRet_of [] (by simp) rfl
  obtain ⟨hb1, hb2⟩ := bigL_false hb
  simp
  refine (New_m plans (by omega)).mono ?_
  rintro _ rfl
  by_cases hn : (newS plans).2 = 0
  case neg =>
    simp [hn]
    refine awake_m.mono ?_
    rintro _ rfl
    simp
    exact vcRet_of [] (by simp) rfl
  simp [hn, told_zero]
  refine vc_loop (fun m σ => ∃ k : Nat, m = l.length - k ∧ k ≤ l.length ∧ ∃ (s : Nw) (T : To), (NOk s ∧ TInv k s T) ∧ σ = ⟨114, [(8, .i k), (7, .ptr 31 0), (5, .ptr 5 0), (1, .d (acs l))], [(31, .box 63 (told T)), (5, s.box)]⟩) ?_ ?_
  · exact ⟨_, _, ⟨0, rfl, Nat.zero_le _, _, T0, ⟨nok_new hn, tinv_new hn⟩, rfl⟩, [], _, rfl, by simp⟩
  rintro m σ ⟨k, rfl, hk, s, T, ⟨hs, hT⟩, rfl⟩
  by_cases hlt : k < l.length
  case neg =>
    obtain rfl : k = l.length := by omega
    simp
    refine awake_m.mono ?_
    rintro _ rfl
    simp
    exact vcRet_of [] (by simp) rfl
  obtain ⟨x, hx, e⟩ := at_lt hlt
  have hxm := List.mem_of_getElem? hx
  have A := act_m hT hs (x := x) (by omega) (hw x hxm) (hb1 x hxm)
  have hs2 := act_ok (T := T) hs x
  have hT2 := act_inv hT hs x (hw x hxm) (hb1 x hxm)
  unfold ActPost at A
  generalize (actS s T x).1 = t at A hs2 hT2
  generalize (actS s T x).2 = T2 at A hT2
  simp [hlt, e]
  refine effCallN A ?_
  simp
  refine ⟨by kernel_rfl, ?_⟩
  refine vc_loop (fun m σ => ∃ j : Nat, m = 100 - j ∧ (1 ≤ j ∧ j ≤ 100) ∧ σ = ⟨114, [(11, .i j), (8, .i k), (7, .ptr 31 0), (5, .ptr 5 0), (1, .d (acs l))], [(31, .box 63 (told T2)), (5, t.box)]⟩) ?_ ?_
  · exact ⟨_, _, ⟨1, rfl, by omega, rfl⟩, [], _, rfl, by simp⟩
  rintro m σ ⟨j, rfl, hj, rfl⟩
  by_cases hj2 : j < 100
  · have g1 := told_y T2 (i := j) (by omega)
    have g2 := told_y T2 (i := 200 + j) (by omega)
    have g3 := told_y T2 (i := 100 + j) (by omega)
    have g4 := told_y T2 (i := 300 + j) (by omega)
    have hj3 : (j : Int) < 100 := by omega
    have w1 : IntKind.i64.wrap ((j : Int) + 1) = (j : Int) + 1 := IntWalk.i64_in _ (by omega)
    simp [hj3, hj2, g1, g2, g3, g4, w1]
    repeat (first | refine And.intro (by omega) ?_ | refine And.intro (by kernel_rfl) ?_)
    refine effCall (begins_m _ _ (hT2.pw j hj2)) ?_
    simp [hj2, g1, g2, g3, g4, w1]
    repeat (first | refine And.intro (by omega) ?_ | refine And.intro (by kernel_rfl) ?_)
    refine effCall (begins_m _ _ (hT2.pr j hj2)) ?_
    simp [w1]
    repeat (first | refine And.intro (by omega) ?_ | refine And.intro (by kernel_rfl) ?_)
    exact ⟨_, by omega, _, ⟨j + 1, rfl, by omega, rfl⟩, [], _, rfl, by simp⟩
  obtain rfl : j = 100 := by omega
  have htl := hs2.cl
  simp
  refine vc_loop (fun m σ => ∃ j : Nat, m = t.conns.length - j ∧ j ≤ t.conns.length ∧ σ = ⟨114, [(12, .i j), (8, .i k), (7, .ptr 31 0), (5, .ptr 5 0), (1, .d (acs l))], [(31, .box 63 (told T2)), (5, t.box)]⟩) ?_ ?_
  · exact ⟨_, _, ⟨0, rfl, Nat.zero_le _, rfl⟩, [], _, rfl, by simp⟩
  rintro m σ ⟨j, rfl, hj, rfl⟩
  by_cases hjt : j < t.conns.length
  · obtain ⟨c, hc, ec⟩ := at_lt hjt
    have hcm := List.mem_of_getElem? hc
    have hid := (hs2.cs c hcm).id
    by_cases h100 : c.id < 100
    · have hci := hT2.ci c hcm h100
      have g1 := told_y T2 (i := c.id.toNat) (by omega)
      have hse := hci.se
      have hid0 : 0 ≤ c.id := by omega
      simp [hjt, ec, cn_explicit c, h100, hid0, g1, strs_size, ← hse, wrap_succ hjt (show t.conns.length < 4294967296 by omega)]
      repeat (first | refine And.intro (by omega) ?_ | refine And.intro (by kernel_rfl) ?_)
      exact ⟨_, by omega, _, ⟨j + 1, rfl, hjt, rfl⟩, [], _, rfl, by simp⟩
    · simp [hjt, ec, cn_explicit c, h100, wrap_succ hjt (show t.conns.length < 4294967296 by omega)]
      repeat (first | refine And.intro (by omega) ?_ | refine And.intro (by kernel_rfl) ?_)
      exact ⟨_, by omega, _, ⟨j + 1, rfl, hjt, rfl⟩, [], _, rfl, by simp⟩
  obtain rfl : j = t.conns.length := by omega
  simp [wrap_succ hlt (show l.length < 4294967296 by omega)]
  exact ⟨_, by omega, _, ⟨k + 1, rfl, hlt, t, T2, ⟨hs2, hT2⟩, rfl⟩, [], _, rfl, by simp⟩
end Go.Proofs.Ytgoklgibhmddoaa
