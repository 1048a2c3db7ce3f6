/- The way in: a function's contract; and what the simplifier unfolds. No condition. -/
import Derived.Test.YtplooifpgmlofaaGreatV18
namespace Go.Proofs.YtplooifpgmlofaaGreat
open Go.RowKit

theorem meets {P : Program} {tb : Tab} (hT : TabOk P tb) (hm : P.follows .mixedOrders = true) {f : Nat} {fn : Func} {c : Code} (hf : P.funcs[f]? = some fn) (hp : Plain P f) {args : List PV} {ext : List MObj} {Q : Res → Prop} (hb : fn.body = some c)
    (hc : (decide (fn.ntmps < 10000) && decide (args.length ≤ fn.ntmps) && decide (ext.length < 1000000)) = true) (hv : vcCode P tb (vcDraw P tb) c (kEnd tb ext.length fn.results.toList Q) ⟨fn.ntmps, argSlots 0 args, extMem 1000000 ext⟩) : Meets P f args ext Q :=
  meets_of hT (draw_ok hT hm) hf hb hp hc hv

def retOk (tb : Tab) (nx : Nat) (rs : List ResultVar) (nk : List Nat) (p : PV) (ext new : List MObj) (σ : Sta) : Prop :=
  match resVals tb σ rs with
  | some (c, ps) => c ∧ (viewRs nk σ.mem ps).1 ∧ outOk nx nk (viewRs nk σ.mem ps).2.1 (viewRs nk σ.mem ps).2.2 = true ∧ Le ((oneV (viewRs nk σ.mem ps).2.2).ren (toR nk)) p ∧
      All2 LeO ((exts (viewRs nk σ.mem ps).2.1 nx 1000000).map (MObj.ren (toR nk))) ext ∧ All2 LeO (nk.map fun k => ((look k (viewRs nk σ.mem ps).2.1).getD default).ren (toR nk)) new
  | none => False
theorem vcRet_of {tb : Tab} {nx : Nat} {rs : List ResultVar} (nk : List Nat) {p : PV} {ext new : List MObj} {σ : Sta} {Q : Res → Prop} (h : retOk tb nx rs nk p ext new σ) (hq : Q ⟨p, ext, new⟩) : vcRet tb nx rs Q σ := by
  refine ⟨[], σ, rfl, nk, ⟨p, ext, new⟩, ?_⟩
  unfold retOk at h
  split at h
  · rename_i c ps hr
    rw [hr]
    exact ⟨h.1, h.2.1, h.2.2.1, hq, h.2.2.2⟩
  · exact h.elim
theorem vcRet_prep {tb : Tab} {nx : Nat} {rs : List ResultVar} (pr : List Prep) (nk : List Nat) {p : PV} {ext new : List MObj} {σ σ1 : Sta} {Q : Res → Prop} (hpr : Prep.all σ pr = some σ1) (h : retOk tb nx rs nk p ext new σ1) (hq : Q ⟨p, ext, new⟩) : vcRet tb nx rs Q σ := by
  refine ⟨pr, σ1, hpr, ?_⟩
  refine ⟨nk, ⟨p, ext, new⟩, ?_⟩
  unfold retOk at h
  split at h
  · rename_i c ps hr
    rw [hr]
    exact ⟨h.1, h.2.1, h.2.2.1, hq, h.2.2.2⟩
  · exact h.elim
abbrev Ret (p : PV) : Res → Prop := fun r => r = ⟨p, [], []⟩
section
variable {P : Program} {tb : Tab} {D : DrawT} {K : Exit → Sta → Prop} {σ : Sta}
@[simp] theorem vc_skip : vcCode P tb D .skip K σ = K .normal σ := _root_.id rfl
@[simp] theorem vc_label {l : Nat} : vcCode P tb D (.label l) K σ = K .normal σ := _root_.id rfl
@[simp] theorem vc_region {id : Nat} {ops : Array Oper} : vcCode P tb D (.region id ops false) K σ = preK D.pre ops (vcOps P tb ops ops.toList (K .normal)) σ := _root_.id rfl
@[simp] theorem vc_drawn {id : Nat} {ops : Array Oper} : vcCode P tb D (.region id ops true) K σ = preK D.pre ops (D ops (K .normal)) σ := _root_.id rfl
@[simp] theorem preK_none {ops : Array Oper} {K : Sta → Prop} : preK [] ops K σ = K σ := _root_.id rfl
@[simp] theorem preK_cons {e : Nat × List Prep} {hs : List (Nat × List Prep)} {ops : Array Oper} {K : Sta → Prop} : preK (e :: hs) ops K σ = (match look (((ops[0]?).bind (·.dst)).getD 0) (e :: hs) with
  | some pr => prepK pr K σ
  | none => K σ) := _root_.id rfl
@[simp] theorem prepK_nil {K : Sta → Prop} : prepK [] K σ = K σ := _root_.id rfl
@[simp] theorem prepK_cons {p : Prep} {r : List Prep} {K : Sta → Prop} : prepK (p :: r) K σ = (match isRoom p with
  | some (k, j) => match roomOf σ k j with
    | some (σ1, σ2) => prepK r K σ1 ∧ prepK r K σ2
    | none => False
  | none => match p.run σ with
    | some σ' => prepK r K σ'
    | none => False) := _root_.id rfl
@[simp] theorem vc_seq {x y : Code} : vcCode P tb D (.seq x y) K σ = vcCode P tb D x (kSeq (vcCode P tb D y K) K) σ := _root_.id rfl
@[simp] theorem vc_cond {c : Operand} {x y : Code} : vcCode P tb D (.cond c x y) K σ = (match σ.ev c with
    | some (.d (.v (.bool t))) => both t true (vcCode P tb D x K σ) (vcCode P tb D y K σ)
    | _ => False) := _root_.id rfl
@[simp] theorem vc_block {id : Nat} {c : Code} : vcCode P tb D (.block id c) K σ = vcCode P tb D c (kBlock id K) σ := _root_.id rfl
@[simp] theorem vc_exit {id : Nat} : vcCode P tb D (.exit id) K σ = K (.exit id) σ := _root_.id rfl
@[simp] theorem vc_ret : vcCode P tb D .ret K σ = K .ret σ := _root_.id rfl
theorem vc_loop {c : Code} (I : Nat → Sta → Prop) (h0 : ∃ n σ', I n σ' ∧ Later σ σ') (hr : ∀ n σ', I n σ' → vcCode P tb D c (kLoop I n K) σ') : vcCode P tb D (.loop c) K σ := ⟨I, h0, hr⟩
@[simp] theorem kLoop_normal {I : Nat → Sta → Prop} {n : Nat} : kLoop I n K .normal σ = ∃ n' σ', n' < n ∧ I n' σ' ∧ Later σ σ' := rfl
@[simp] theorem kLoop_exit {I : Nat → Sta → Prop} {n id : Nat} : kLoop I n K (.exit id) σ = K (.exit id) σ := rfl
@[simp] theorem kLoop_ret {I : Nat → Sta → Prop} {n : Nat} : kLoop I n K .ret σ = K .ret σ := rfl
end
def stepD (P : Program) (tb : Tab) (ops : Array Oper) (K : List Eff → Sta → Prop) (r : List Oper) (acc : List Eff) : Eff → Sta → Prop := fun e σ => vcD P tb ops K r (e :: acc) σ
section
variable {P : Program} {tb : Tab} {ops : Array Oper} {K : List Eff → Sta → Prop} {r : List Oper} {acc : List Eff} {σ : Sta}
@[simp] theorem vcOps_nil {K : Sta → Prop} : vcOps P tb ops [] K σ = K σ := _root_.id rfl
@[simp] theorem vcOps_cons {K : Sta → Prop} {o : Oper} : vcOps P tb ops (o :: r) K σ = (match o.guard with
    | none => vcOp P tb o σ (vcOps P tb ops r K)
    | some (j, want) => match (ops[j]?).bind (·.dst) with
      | some d => match look d σ.slots with
        | some (.d (.v (.bool b))) => both b want (vcOp P tb o (σ.put (some d) (.b want)) (vcOps P tb ops r K)) (σ.has o.dst = true ∧ vcOps P tb ops r K ((σ.put (some d) (.b !want)).put o.dst idleV))
        | some (.d (.v (.tuple _))) => σ.has o.dst = true ∧ vcOps P tb ops r K (σ.put o.dst idleV)
        | _ => False
      | none => False) := _root_.id rfl
@[simp] theorem stepD_app {e : Eff} : stepD P tb ops K r acc e σ = vcD P tb ops K r (e :: acc) σ := _root_.id rfl
@[simp] theorem vcD_nil : vcD P tb ops K [] acc σ = K acc.reverse σ := _root_.id rfl
@[simp] theorem vcD_cons {o : Oper} : vcD P tb ops K (o :: r) acc σ = (σ.has o.dst = true ∧ match o.guard with
    | none => vcEff P tb o σ (stepD P tb ops K r acc)
    | some (j, want) => match (ops[j]?).bind (·.dst) with
      | some d => match look d σ.slots with
        | some (.d (.v (.bool b))) => both b want (vcEff P tb o σ (stepD P tb ops K r acc)) (vcD P tb ops K r (idleEff :: acc) (σ.put o.dst idleV))
        | some (.d (.v (.tuple _))) => vcD P tb ops K r (idleEff :: acc) (σ.put o.dst idleV)
        | _ => False
      | none => False) := _root_.id rfl
@[simp] theorem afterCall_mk {d : Option Nat} {mem : Mem} {ks : List Nat} {K : Sta → Prop} {p : PV} {ext new : List MObj} : afterCall σ d mem ks K ⟨p, ext, new⟩ = ((∀ i, i < new.length → look (d.getD 0 + 10000 * i) mem = none) ∧
    K (Sta.put ⟨σ.n, eraseSs (grownKs ks ext) σ.slots, backMem (ofE ks (d.getD 0)) ks ext ++ (newMem (ofE ks (d.getD 0)) (d.getD 0) 0 new ++ eraseMs (grownKs ks ext) (markMs (grownKs ks ext) (bif calmRes ⟨p, ext, new⟩ then σ.mem else mem)))⟩ d (p.ren (ofE ks (d.getD 0))))) := _root_.id rfl
@[simp] theorem grownKs_nil {os : List MObj} : grownKs [] os = [] := by cases os <;> rfl
@[simp] theorem grownKs_nil' {ks : List Nat} : grownKs ks [] = [] := by cases ks <;> rfl
@[simp] theorem grownKs_cons {k : Nat} {ks : List Nat} {o : MObj} {os : List MObj} : grownKs (k :: ks) (o :: os) = bif isGrown o then k :: grownKs ks os else grownKs ks os := _root_.id rfl
@[simp] theorem vcOwn_none {d : Option Nat} {c : Prop} {v : PV} {s : Mem} {rd : List Nat} {N : Eff → Sta → Prop} : vcOwn σ d ⟨c, v, s, none, rd⟩ N = (c ∧ N ⟨c, v, s, none, rd⟩ (app σ d ⟨c, v, s, none, rd⟩)) := _root_.id rfl
def vcOwnB (σ : Sta) (d : Option Nat) (c : Prop) (v : PV) (s : Mem) (k : Nat) (rd : List Nat) (N : Eff → Sta → Prop) (bs : List Nat) : Prop :=
  c ∧ N ⟨c, v, s, some k, rd ++ hits σ.mem k bs⟩ (app σ d ⟨c, v, s, some k, rd⟩)
@[simp] theorem vcOwn_some {d : Option Nat} {c : Prop} {v : PV} {s : Mem} {k : Nat} {rd : List Nat} {N : Eff → Sta → Prop} : vcOwn σ d ⟨c, v, s, some k, rd⟩ N = vcOwnB σ d c v s k rd N (dedup ((σ.mem.map (·.1)).filter fun j => (objKeys σ.mem j).contains k && !(s.map (·.1)).contains j)) := _root_.id rfl
def drawEnd (ops : Array Oper) (K : Sta → Prop) : List Eff → Sta → Prop := fun E σ => textB ops E ops.size 0 (Array.replicate ops.size false) = true ∧ K σ
@[simp] theorem vcDraw_eq {K : Sta → Prop} : vcDraw P tb ops K σ = vcD P tb ops (drawEnd ops K) ops.toList [] σ := _root_.id rfl
@[simp] theorem drawEnd_app {K : Sta → Prop} {E : List Eff} : drawEnd ops K E σ = (textB ops E ops.size 0 (Array.replicate ops.size false) = true ∧ K σ) := _root_.id rfl
theorem effCall {d : Option Nat} {g : Nat} {args : List PV} {objs : List MObj} {ks wd : List Nat} {N : Eff → Sta → Prop} {q : PV} (h : Meets P g args objs (fun r => r = ⟨q, objs, []⟩)) (hk : N ⟨True, q.ren (ofE ks 0), [], none, wd⟩ (σ.put d (q.ren (ofE ks 0)))) :
    vcEffCall P σ d g args objs ks wd N := .inl ⟨q, h, hk⟩
theorem effCallN {d : Option Nat} {g : Nat} {args : List PV} {objs : List MObj} {ks wd : List Nat} {N : Eff → Sta → Prop} {r : Res} (h : Meets P g args objs (fun r' => r' = r)) (hk : ((∀ k ∈ newKeys (d.getD 0) 0 r.new, look k σ.mem = none) ∧ (grownKs ks r.ext).length ≤ 1 ∧ r.new.length ≤ 90) ∧
    vcOwn σ d (callE σ (d.getD 0) ks wd r) N) :
    vcEffCall P σ d g args objs ks wd N := .inr ⟨r, h, hk⟩
end
def below : Nat → List Nat
  | 0 => []
  | n + 1 => below n ++ [n]
@[simp] theorem below_zero : below 0 = [] := rfl
@[simp] theorem below_succ {n : Nat} : below (n + 1) = below n ++ [n] := rfl
def extOk1 (nk : List Nat) (nx : Nat) (mem : Mem) (k : Nat) : Bool := (look k mem).isSome && (!moved mem k || isGrown (extO mem k)) && (objKeys mem k).all fun j => nk.contains j || (decide (1000000 ≤ j) && decide (j < 1000000 + nx))
def extsOk (nk : List Nat) (nx : Nat) (mem : Mem) : Nat → Nat → Bool
  | 0, _ => true
  | n + 1, k => extOk1 nk nx mem k && extsOk nk nx mem n (k + 1)
theorem extsOk_all {nk : List Nat} {nx : Nat} {mem : Mem} : ∀ {n k : Nat}, ((List.range n).all fun i => extOk1 nk nx mem (k + i)) = extsOk nk nx mem n k
  | 0, _ => rfl
  | n + 1, k => by
    rw [List.range_succ_eq_map, List.all_cons, List.all_map]
    unfold extsOk
    rw [← extsOk_all (n := n) (k := k + 1), Nat.add_zero]
    congr 2
    funext i
    show extOk1 nk nx mem (k + (i + 1)) = extOk1 nk nx mem (k + 1 + i)
    rw [show k + (i + 1) = k + 1 + i by omega]
@[simp] theorem outOk_eq {nx : Nat} {nk : List Nat} {mem : Mem} {ps : List PV} : outOk nx nk mem ps = (nodupB nk && nk.all (fun k => decide (k < 1000000) && (look k mem).isSome && (objKeys mem k).all fun j => nk.contains j || (decide (1000000 ≤ j) && decide (j < 1000000 + nx))) && decide (nk.length ≤ 90) &&
  extsOk nk nx mem nx 1000000 &&
  ps.all fun p => p.keys.all fun j => nk.contains j || (decide (1000000 ≤ j) && decide (j < 1000000 + nx))) := by rw [← extsOk_all]; rfl
@[simp] theorem wid_small {n : Nat} (h : n < 10000) : wid n = n := Nat.mod_eq_of_lt h
@[simp] theorem froz_small {n d : Nat} (h : n < 10000) : froz n d = false := by unfold froz; rw [if_pos h]
attribute [simp] Le Le2 Le0 LeO All2 vcGo vcOp vcCall vcAppend vcAppendS isRoom roomOf swapK renS renM valOp vLookup vLk vUpdate plainKey vBin vBinY nilEq vBin0 ptrNil vEqIn vEqFs ibin vUn vConvert vCells vLoad readAt isA PV.shift vFieldAddr vField vExtract esz vIndexAddr vBound vSlice rlen vFunc evs evInts evParts vBuild places pfill PV.cells PV.plain PV.one PV.is0 PV.is1 PV.is2
  vLen vMin vMax vIndex Sta.put Sta.has Sta.ev Sta.callee look kSeq kBlock kEnd vStore view1 viewL view2 viewA viewAs viewR viewRs viewR1 viewRL sliceLike srcOf eraseS eraseM eraseP eraseO PV.keys PV.keys0 PV.keys1 PV.keys2 MObj.keys argSlots extMem backMem newMem newKeys toE ofE toR exts
  PV.isRow resVals oneV reach reachOk dedup nodupB objKeys Op.operands Call.operands PV.ren PV.ren0 PV.ren1 PV.ren2 MObj.ren vcEff opEff opEff0 leakAt leakE app eraseS? opsKnown hits coKeys coC eraseC eraseN eraseNs eraseN? Weak slotsIn memIn keysIn marksIn PV.calm idleEff opKeys opReads namesOnly loadsOnly nameKeys wide datas vBuildSlice chunk retOk zc Value.oneCell' vStoreR elemPut datas vMake PV.sc0 PV.sc2 PV.sc MObj.sc calmRes markM eraseSs eraseMs markMs isGrown back1 here moved extO toGrown callE markSet markKeys vcOwnB extsOk extOk1 focC focM shutC unD deadM keysFree maskC lookN focPut focMap focKeys LeF
end Go.Proofs.YtplooifpgmlofaaGreat
