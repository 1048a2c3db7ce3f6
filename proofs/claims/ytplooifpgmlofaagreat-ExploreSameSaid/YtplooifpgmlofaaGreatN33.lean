/- The statement Same. No condition. -/
import Derived.Test.YtplooifpgmlofaaGreatN31
import Derived.Test.YtplooifpgmlofaaGreatN32
import Derived.Test.YtplooifpgmlofaaGreatN4
import Derived.Test.YtplooifpgmlofaaGreatN13
import Derived.Test.YtplooifpgmlofaaGreatN15
import Derived.Test.YtplooifpgmlofaaGreatV26
import Derived.Test.YtplooifpgmlofaaGreatN18
import Derived.Test.YtplooifpgmlofaaGreatN20
namespace Go.Proofs.YtplooifpgmlofaaGreat
open Go.RowKit

@[simp] def colN (x : Sx) : MObj := .box 48 [.d (Lo.lks x.s.locks), .d (Lo.qus x.s.queues), .d (Lo.il x.s.groups), .d (prgsD x.ps), .d (.v (.pointer none)), .d (.v (.slice none 0 0)), .d (.v (.slice none 0 0)), .d (.v (.slice none 0 0)), .d (.v (.slice none 0 0))]
set_option maxRecDepth 100000 in
set_option maxHeartbeats 2000000 in
theorem colStart0_m (x : Sx) (hx : SxOk x) : Meets Tryz.prog 123 [.ptr 1000000 0] [colN x] (fun r => r = ⟨unitV, [plOc x [] 0 2000000 2000001 2000002 2000004], [bnO (startX x).b x.ps 2000003, tsO (startX x).ts, wsO (startX x).ws, rcO (startX x).b, runsK []]⟩) := by
  refine meetsP [(2, [.cell 1000000 8 900 24 1, .cell 1000000 7 901 3 1, .seen 1000000 7])] tbCOk mixed Tryz.func123 pl123 rfl rfl ?_
  simp [Tryz.ntmps123, Prep.run]
  refine (cStart0_m [] [] x hx).mono ?_
  rintro _ rfl
  simp
  refine ⟨fun i hi => by rcases (by omega : i = 0 ∨ i = 1 ∨ i = 2 ∨ i = 3) with rfl | rfl | rfl | rfl <;> simp, ?_⟩
  refine vcRet_prep [.cell 1000000 7 902 3 1, .seen 1000000 7] [5, 10005, 20005, 30005, 900] (by simp [Prep.all, Prep.run]; rfl) ?_ rfl
  simp
  exact ⟨⟨rfl, rfl, rfl⟩, rfl⟩
set_option maxRecDepth 100000 in
set_option maxHeartbeats 2000000 in
theorem colStart1_m (x : Sx) (hx : SxOk x) (q : Pl) (A : List Int) (L : List (List Int)) : Meets Tryz.prog 123 [.ptr 1000000 0] (plEc x q A L) (fun r => r = ⟨unitV, [plOc x [] L.length 2000000 2000001 2000002 1000004, bnO q.b x.ps 1000005, tsO q.ts, wsO q.ws, runsK L, rcO q.b], [bnO (startX x).b x.ps 2000003, tsO (startX x).ts, wsO (startX x).ws, rcO (startX x).b]⟩) := by
  refine meetsP [] tbCOk mixed Tryz.func123 pl123 rfl rfl ?_
  simp [Tryz.ntmps123]
  refine (cStart1_m A L x hx q).mono ?_
  rintro _ rfl
  simp
  refine ⟨fun i hi => by rcases (by omega : i = 0 ∨ i = 1 ∨ i = 2 ∨ i = 3) with rfl | rfl | rfl | rfl <;> simp, ?_⟩
  refine vcRet_prep [.cell 1000000 7 902 3 1, .seen 1000000 7] [5, 10005, 20005, 30005] (by simp [Prep.all, Prep.run]; rfl) ?_ rfl
  simp
  exact ⟨⟨rfl, rfl⟩, rfl⟩
set_option maxRecDepth 100000 in
set_option maxHeartbeats 2000000 in
theorem colStep_m (x : Sx) (hx : SxOk x) (q : Pl) (m : Nat) (hq : PlOk x q m) (hm : m ≤ 1000) (A : List Int) (L : List (List Int)) (hA : A.length ≤ 1000) (t : Nat) (ht : 1 ≤ t ∧ t ≤ x.ps.length) : Meets Tryz.prog 124 [.ptr 1000000 0, .i t] (plEc x q A L) (PlRc (A ++ [(t : Int)]) L x unitV (stepX x q t)) := by
  refine meetsP [] tbCOk mixed Tryz.func124 pl124 rfl rfl ?_
  simp [Tryz.ntmps124]
  refine (cStep_m A L x hx q m hq hm t ht).mono ?_
  rintro _ ⟨g⟩
  cases g
  · simp
    refine ⟨by omega, by omega, vcRet_prep [.seen 1000000 7] [] (by simp [Prep.all, Prep.run]; rfl) ?_ (.mk false)⟩
    simp [List.take_of_length_le]
  · simp
    refine ⟨by omega, by omega, vcRet_prep [.seen 1000000 7] [] (by simp [Prep.all, Prep.run]; rfl) ?_ (.mk true)⟩
    simp [List.take_of_length_le]
set_option maxRecDepth 100000 in
set_option maxHeartbeats 2000000 in
theorem colOut_m (x : Sx) (hx : SxOk x) (q : Pl) (m : Nat) (hq : PlOk x q m) (hm : m ≤ 60) (hv : VOk q) (A : List Int) (L : List (List Int)) (hL : L.length < 100000) : Meets Tryz.prog 122 [.ptr 1000000 0] (plEc x q A L)
    (fun r => r = ⟨.d (.v (.string (strOfNums (outL q)))), [plOc x A (L.length + 1) 1000001 1000002 1000003 1000004, bnO q.b x.ps 1000005, tsO q.ts, wsO q.ws, .grown 24 1 ((L ++ [A]).map runK), rcO q.b], []⟩) := by
  refine meetsP [(3, [.mark 1000004])] tbCOk mixed Tryz.func122 pl122 rfl rfl ?_
  simp [Tryz.ntmps122, Prep.run]
  repeat (first | refine And.intro (by omega) ?_ | refine And.intro (by kernel_rfl) ?_)
  have hc := cOut_m A (L ++ [A]) x hx q m hq hm hv
  simp at hc
  refine hc.mono ?_
  rintro _ rfl
  simp
  refine vcRet_of [] ?_ rfl
  simp
end Go.Proofs.YtplooifpgmlofaaGreat
namespace Go.Proofs.YtplooifpgmlofaaGreat
open Go.RowKit

def foundK (Y : Sys) (f : Cf) : FdK := goX (lfK Y f) Y f 60 [] [] f.switches (⟨0, 0, true, false⟩, [], [])
def foundKR (Y : Sys) (f : Cf) : Rz := ⟨(foundK Y f).1.runs, (foundK Y f).1.stuck, sortB (foundK Y f).2.1, (foundK Y f).1.full⟩
set_option maxHeartbeats 2000000 in
theorem exploreK_m {Y : Sys} (hY : Fair Y) (A : PlrK Y) (f : Cf) (hm : 0 ≤ f.most ∧ f.most ≤ 100000) (hs : 0 ≤ f.switches ∧ f.switches ≤ 60) (q : Option (List Int)) (hq : ∀ p, q = some p → legal Y p) :
    Meets Tryz.prog 26 [.ifc A.t 1000000, .agg [.i f.most, .i f.switches, .b f.sleeps, .d (.v .nilFunc)]] [.sys (A.at_ q [])]
      (fun r => ∃ p, legal Y p ∧ r = ⟨.agg [.i (goX (lfK Y f) Y f 60 [] [] f.switches (⟨0, 0, true, false⟩, [], [])).1.runs, .i (goX (lfK Y f) Y f 60 [] [] f.switches (⟨0, 0, true, false⟩, [], [])).1.stuck, .d (.sl 1 ((sortB (goX (lfK Y f) Y f 60 [] [] f.switches (⟨0, 0, true, false⟩, [], [])).2.1).map strC)), .b (goX (lfK Y f) Y f 60 [] [] f.switches (⟨0, 0, true, false⟩, [], [])).1.full], [.sys (A.at_ (some p) (goX (lfK Y f) Y f 60 [] [] f.switches (⟨0, 0, true, false⟩, [], [])).2.2)], []⟩) := by
  obtain ⟨R, hR⟩ : ∃ R, goX (lfK Y f) Y f 60 [] [] f.switches (⟨0, 0, true, false⟩, [], []) = R := ⟨_, rfl⟩
  refine meetsP [(15, [.cell 13 5 900 3 1]), (21, [.cell 13 8 901 9 1])] tbCOk mixed Tryz.func26 pl26 rfl rfl ?_
  simp [Tryz.ntmps26, Prep.run]
  refine (reachK_m A f ⟨0, 0, true, false⟩ [] [] q hq [] (legal_nil Y)).mono ?_
  rintro _ rfl
  simp
  refine (Meets.nil0 (sz := 2) (by omega) (fromK_m hY A f 60 [] [] f.switches (⟨0, 0, true, false⟩, [], []) (by simp) (legal_nil Y) (by simp) (fun _ h => by cases h) hs ⟨⟨hm.2, by simp, by simpa using hm.1, by simp, by simp⟩, by simp⟩)).mono ?_
  rw [hR]
  rintro _ ⟨p, hp, rfl⟩
  simp [Prep.run]
  have hRok : Ct.Ok f R.1 := by rw [← hR]; exact (goX_inv (fun _ h => h.part) (fun p cut s h => lfK_ok h) 60 _ _ _ _ (KOk.mk ⟨hm.2, by simp, by simpa using hm.1, by simp, by simp⟩ (by simp))).ct
  have hRl : lenOk (R.1, R.2.1) := by rw [← hR]; exact goX_inv (R := fun s : FdK => lenOk (s.1, s.2.1)) (fun _ h => h) (fun p cut s h => leafN_len h) 60 _ _ _ _ (by simp [lenOk])
  have hRn : R.2.1.length ≤ 100000 := by
    have h1 := hRok.runs
    have h2 := hRok.most
    have h3 : (R.2.1.length : Int) ≤ R.1.runs := hRl
    omega
  refine vc_loop (OutI (.ifc A.t 1000000) f R.1 R.2.1 (A.at_ (some p) R.2.2)) ⟨_, _, .mk R.2.1 [] none (by simp), [], _, rfl, by simp⟩ ?_
  rintro m σ ⟨lz, acc, cur, hpm⟩
  have hpl := hpm.length_eq
  rw [List.length_append] at hpl
  simp
  refine nextOk.of (fun h => ?_) (fun i e hi => ?_)
  · have hlz : lz = [] := by simpa [mapZ] using h
    subst hlz
    refine (sortA_m acc (by omega)).mono ?_
    rintro _ rfl
    simp
    have hac : acc.Perm R.2.1 := by simpa using hpm
    refine vcRet_of [] ?_ ⟨p, hp, rfl⟩
    have hsl : (sortB R.2.1).length = acc.length := by rw [sortB_len, hac.length_eq]
    simp [sortB_perm hac, sortB_len]
    exact ⟨by rw [hac.length_eq]; exact Nat.le_refl _, List.take_of_length_le (by rw [List.length_map, hsl]; exact Nat.le_refl _)⟩
  · obtain ⟨s, hs, rfl⟩ : ∃ s, lz[i]? = some s ∧ e = (.string s, .bool true) := by
      unfold mapZ at hi
      rw [List.getElem?_map] at hi
      obtain ⟨s, h1, h2⟩ := Option.map_eq_some_iff.1 hi
      exact ⟨s, h1, h2.symm⟩
    simp
    refine entryOk.of ?_
    simp
    have hil : i < lz.length := (List.getElem?_eq_some_iff.1 hs).1
    have hperm : (acc ++ [s] ++ lz.eraseIdx i).Perm R.2.1 := by
      refine List.Perm.trans ?_ hpm
      rw [List.append_assoc]
      refine List.Perm.append_left acc ?_
      have hx : lz[i] = s := by rw [List.getElem?_eq_getElem hil] at hs; exact Option.some.inj hs
      rw [← hx]
      exact eraseI_perm hil
    refine ⟨by omega, by kernel_rfl, _, ?_, _, .mk (lz.eraseIdx i) (acc ++ [s]) (some (.string s, .bool true)) hperm, [], _, rfl, by simp [mapZ, map_eraseI]⟩
    rw [List.length_eraseIdx_of_lt hil]; omega
inductive ExpRK {Y : Sys} (A : PlrK Y) (q : Option (List Int)) (ok : Prop) (f : Cf) : Res → Prop
  | yes (h : ok) (p : List Int) (hp : legal Y p) : ExpRK A q ok f ⟨.tup [(foundKR Y f).pv, .i 0], [.sys (A.at_ (some p) (foundK Y f).2.2)], []⟩
  | no (h : ¬ ok) : ExpRK A q ok f ⟨.tup [pz0, .i 7], [.sys (A.at_ q [])], []⟩

theorem exploreRK_m {Y : Sys} (hY : Fair Y) (A : PlrK Y) (f : Cf) (hm : 0 ≤ f.most ∧ f.most ≤ 100000) (hs : 0 ≤ f.switches ∧ f.switches ≤ 60) (q : Option (List Int)) (hq : ∀ p, q = some p → legal Y p) :
    Meets Tryz.prog 26 [.ifc A.t 1000000, .agg [.i f.most, .i f.switches, .b f.sleeps, .d (.v .nilFunc)]] [.sys (A.at_ q [])] (fun r => ∃ p, legal Y p ∧ r = ⟨(foundKR Y f).pv, [.sys (A.at_ (some p) (foundK Y f).2.2)], []⟩) := exploreK_m hY A f hm hs q hq
theorem sleepK_m {Y : Sys} (hY : Fair Y) (A : PlrK Y) (most : Int) (q : Option (List Int)) (hq : ∀ p, q = some p → legal Y p) :
    Meets Tryz.prog 9 [.ifc A.t 1000000, .i most] [.sys (A.at_ q [])]
      (ExpRK A q (okRuns most) ⟨most, 60, true⟩) := by
  refine meets tbCOk mixed Tryz.func9 pl9 rfl rfl ?_
  simp [Tryz.ntmps9]
  refine (ready_m A.t (A.at_ q []) most).mono ?_
  rintro _ rfl
  by_cases hr : okRuns most
  · simp [if_pos hr]
    refine (exploreRK_m hY A ⟨most, 60, true⟩ (by unfold okRuns at hr; constructor <;> dsimp only <;> omega) (by dsimp only; omega) q hq).mono ?_
    rintro _ ⟨p, hp, rfl⟩
    simp
    refine vcRet_of [] ?_ (.yes hr p hp)
    simp
  · simp [if_neg hr]
    refine vcRet_of [] ?_ (.no hr)
    simp
end Go.Proofs.YtplooifpgmlofaaGreat
namespace Go.Proofs.YtplooifpgmlofaaGreat
open Go.RowKit
open Lo (Sy Lk Qu chk Fits)

def noH : Hid := anyH (fun _ : Unit => holdH []) (fun _ => False)
theorem Meets.noH {P : Program} {f : Nat} {args : List PV} {Q : Res → Prop} (h : Plain P f) : Meets P f args [.sys noH] Q := by
  refine ⟨h, fun w S m T vs hv hM => ?_⟩
  obtain ⟨b, c, g1, a, g2, g3⟩ := hM.objs 1000000 (.sys Go.Proofs.YtplooifpgmlofaaGreat.noH) rfl
  exact g2.elim
def colAt (x : Sx) : Option (List Int) → List (List Int) → Hid
  | some p, L => holdH (plEc x (atX x p) p L)
  | none, [] => holdH [colN x]
  | none, _ :: _ => noH
theorem colLift {x : Sx} {f : Nat} {args : List PV} {q q' : Pl} {A A' : List Int} {L : List (List Int)} {v : PV} (ha : ∀ p ∈ args, p.keys = []) (hv : v.keys = []) (h : Meets Tryz.prog f (.ptr 1000000 0 :: args) (plEc x q A L) (PlRc A' L x v q')) :
    Meets Tryz.prog f (.ptr 1000000 0 :: args) [.sys (holdH (plEc x q A L))] (fun r => r = ⟨v, [.sys (holdH (plEc x q' A' L))], []⟩) := by
  refine Meets.lift ha (by simp) (h.mono ?_)
  rintro _ ⟨g⟩
  refine ⟨[1000000, 1000001, 1000002, 1000003, 1000004, 1000005], ?_, ?_⟩
  · cases g <;> simp [liftOk, resObj, flatO, isNest, extMem, rcG] <;> exact hv
  · cases g <;> simp [liftObjs, resObj, extMem, rcG] <;> rfl
theorem colLift0 {x : Sx} {f : Nat} {args : List PV} {q q' : Pl} {A : List Int} {L : List (List Int)} {v : PV} (ha : ∀ p ∈ args, p.keys = []) (hv : v.keys = []) (h : Meets Tryz.prog f (.ptr 1000000 0 :: args) (plEc x q A L) (fun r => r = ⟨v, plEc x q' A L, []⟩)) :
    Meets Tryz.prog f (.ptr 1000000 0 :: args) [.sys (holdH (plEc x q A L))] (fun r => r = ⟨v, [.sys (holdH (plEc x q' A L))], []⟩) :=
  colLift ha hv (h.mono (by rintro _ rfl; exact .mk false))
theorem colBegin {x : Sx} (h : SxOk x) (q : Option (List Int)) (L : List (List Int)) : Meets Tryz.prog 123 [.ptr 1000000 0] [.sys (colAt x q L)] (fun r => r = ⟨unitV, [.sys (colAt x (some []) L)], []⟩) := by
  cases q with
  | none =>
    cases L with
    | nil =>
      refine Meets.lift (args := []) (by simp) (by simp) ((colStart0_m x h).mono ?_)
      rintro _ rfl
      refine ⟨[1000000, 2000000, 2000001, 2000002, 2000004, 2000003], ?_, ?_⟩
      · simp [liftOk, resObj, flatO, isNest, extMem]
      · simp [liftObjs, resObj, extMem, colAt, atX]
        rfl
    | cons a L => exact Meets.noH (colStart0_m x h).1
  | some p =>
    refine Meets.lift (args := []) (by simp) (by simp) ((colStart1_m x h (atX x p) p L).mono ?_)
    rintro _ rfl
    refine ⟨[1000000, 2000000, 2000001, 2000002, 1000004, 2000003], ?_, ?_⟩
    · simp [liftOk, resObj, flatO, isNest, extMem]
    · simp [liftObjs, resObj, extMem, colAt, atX]
      rfl
theorem colAsked {x : Sx} (h : XOk x) (p : List Int) (L : List (List Int)) (hp : legal (sysX x) p) (hL : L.length < 100000) : Meets Tryz.prog 122 [.ptr 1000000 0] [.sys (colAt x (some p) L)] (fun r => r = ⟨.d (.v (.string ((sysX x).out p))), [.sys (colAt x (some p) (L ++ [p]))], []⟩) := by
  refine Meets.lift (args := []) (by simp) (by simp) ((colOut_m x h.ok (atX x p) p.length (pl_at h.ok p) hp.1 ⟨(bok_at h p).rs, (bok_at h p).items⟩ p L hL).mono ?_)
  rintro _ rfl
  refine ⟨[1000000, 1000001, 1000002, 1000003, 1000004, 1000005], ?_, ?_⟩
  · simp [liftOk, resObj, flatO, isNest, extMem]
  · simp [liftObjs, resObj, extMem, colAt]
    exact ⟨rfl, rfl⟩
def colQ (x : Sx) (h : XOk x) : PlrK (sysX x) where
  t := 46
  fS := 123
  fE := 52
  fT := 124
  fF := 29
  fD := 74
  fO := 122
  nS := by kernel_rfl
  nE := by kernel_rfl
  nT := by kernel_rfl
  nF := by kernel_rfl
  nD := by kernel_rfl
  nO := by kernel_rfl
  at_ := colAt x
  mS := fun q L _ => colBegin h.ok q L
  mE := fun p L _ => colLift0 (args := []) (by simp) rfl (cEnabled_m p L x h.ok (atX x p) p.length (pl_at h.ok p))
  mT := fun p t L hp ht h60 => by
    have h1 := mem_enTo (show t ∈ enTo (atX x p) x.ps.length from ht)
    obtain ⟨k, rfl⟩ : ∃ k : Nat, t = k := ⟨t.toNat, by omega⟩
    have := colStep_m x h.ok (atX x p) p.length (pl_at h.ok p) (by omega) p L (by omega) k (by omega)
    rw [← at_snoc] at this
    exact colLift (args := [.i k]) (by simp) rfl this
  mF := fun p t L _ ht => by
    have h1 := mem_enTo (show t ∈ enTo (atX x p) x.ps.length from ht)
    obtain ⟨k, rfl⟩ : ∃ k : Nat, t = k := ⟨t.toNat, by omega⟩
    exact colLift0 (args := [.i k]) (by simp) rfl (cFoot_m p L x h.ok (atX x p) p.length (pl_at h.ok p) k (by omega))
  mD := fun p L _ => colLift0 (args := []) (by simp) rfl (cDone_m p L x h.ok (atX x p) p.length (pl_at h.ok p))
  mO := fun p L hp hL => colAsked h p L hp hL
end Go.Proofs.YtplooifpgmlofaaGreat
namespace Go.Proofs.YtplooifpgmlofaaGreat
open Go.RowKit

def outK (k : Nat) : Nat := if k = 1000000 then 1000000 else k + 999999
def opensB (t : Nat) (cells : List PV) (os : List MObj) : Bool :=
  decide (os.length < 90) && (MObj.box t cells :: os).all fun o => flatO o && o.keys.all fun j => decide (1000000 < j) && decide (j < 1000001 + os.length)
theorem look_out {o : MObj} {os : List MObj} {k : Nat} : look k (extMem 1000000 [o] ++ extMem 2000000 os) = if k = 1000000 then some o else if 2000000 ≤ k then os[k - 2000000]? else none := by
  rw [show extMem 1000000 [o] ++ extMem 2000000 os = (1000000, o) :: extMem 2000000 os from rfl]
  unfold look
  split
  · rfl
  · exact look_ext
theorem Meets.opened {P : Program} {f : Nat} {args : List PV} {t0 : Nat} {cells0 : List PV} {v : PV} {α : Type} {ok : α → Prop} {t : Nat} {C : α → List PV} {O : α → List MObj} (hv : v.keys = []) (hO : ∀ a, ok a → opensB t (C a) (O a) = true)
    (h : Meets P f args [.box t0 cells0] (fun r => ∃ a, ok a ∧ r = ⟨v, [.sys (holdH (.box t (C a) :: O a))], []⟩)) :
    Meets P f args [.box t0 cells0] (fun r => ∃ a, ok a ∧ r = ⟨v, [(MObj.box t (C a)).ren outK], (O a).map fun o => o.ren outK⟩) := by
  refine ⟨h.1, fun w S m T vs hvs hM => (h.2 w S m T vs hvs hM).mono ?_⟩
  rintro e w' ⟨_, u, m1, S1, ⟨a, ha, rfl⟩, he, hr, hM1, ⟨hk1, hk2⟩, hl, hn⟩
  have hob := hO a ha
  unfold opensB at hob
  simp only [Bool.and_eq_true, decide_eq_true_eq, List.all_eq_true] at hob
  obtain ⟨hlen, hflat⟩ := hob
  obtain ⟨b, c, hmb, m0, H⟩ := hM1.objs 1000000 (.sys (holdH (.box t (C a) :: O a))) rfl
  obtain ⟨c0, hm0⟩ := H.head
  have hdom := H.dom
  rw [List.length_cons] at hdom
  let m2 : Map := ⟨fun k => if k = 1000000 then some ⟨some b, c⟩ else if 2000000 ≤ k then m0 (k - 999999) else none, fun _ _ _ => none⟩
  have hm2a : m2 1000000 = some ⟨some b, c⟩ := show (if (1000000 : Nat) = 1000000 then some (⟨some b, c⟩ : Loc) else if 2000000 ≤ 1000000 then m0 (1000000 - 999999) else none) = _ from if_pos rfl
  have hm2o : ∀ j, 1000000 < j → j < 1000001 + (O a).length → m2 (outK j) = m0 j := fun j h1 h2 => by
    show (if outK j = 1000000 then _ else if 2000000 ≤ outK j then m0 (outK j - 999999) else none) = _
    have e : outK j = j + 999999 := if_neg (by omega)
    rw [e, if_neg (by omega), if_pos (by omega), Nat.add_sub_cancel]
  have hm2k : ∀ k l, m2 k = some l → (k = 1000000 ∧ l = ⟨some b, c⟩) ∨ (2000000 ≤ k ∧ m0 (k - 999999) = some l ∧ k < 2000000 + (O a).length) := fun k l hk => by
    have hk : (if k = 1000000 then some ⟨some b, c⟩ else if 2000000 ≤ k then m0 (k - 999999) else none) = some l := hk
    split at hk
    · rename_i h1
      exact .inl ⟨h1, (Option.some.inj hk).symm⟩
    · split at hk
      · rename_i h2
        exact .inr ⟨h2, hk, by have := hdom _ _ hk; omega⟩
      · cases hk
  have hhas : ∀ k q, m2.has k q → ∃ j, m0.has j q ∧ k = outK j ∧ 1000000 ≤ j := fun k q hk => by
    rcases hk with ⟨c', hk⟩ | ⟨i, c', hk⟩
    · rcases hm2k k _ hk with ⟨h1, h2⟩ | ⟨h1, h2, _⟩
      · cases h2
        exact ⟨1000000, .inl ⟨c0, hm0⟩, h1, Nat.le_refl _⟩
      · exact ⟨k - 999999, .inl ⟨c', h2⟩, by unfold outK; rw [if_neg (by omega)]; omega, by omega⟩
    · cases hk
  have hown : ∀ q, (∃ k, m0.has k q) → m1.has 1000000 q := fun q hq => (H.has.2 hq).elim (fun e => .inl ⟨c, by rw [e]; exact hmb⟩) .inr
  have hobj0 : ∀ (i : Nat) (o : MObj), (MObj.box t (C a) :: O a)[i]? = some o → ∀ j ∈ o.keys, 1000000 < j ∧ j < 1000001 + (O a).length := fun i o ho j hj => by
    have := (hflat o (List.mem_of_getElem? ho)).2 j hj
    exact this
  refine ⟨⟨v, [(MObj.box t (C a)).ren outK], (O a).map fun o => o.ren outK⟩, u, m2, S1, ⟨a, ha, rfl⟩, he, hr.noKeys hv (fun _ _ hs => hs) (fun _ _ _ => rfl), { dom := fun k l hk => ?_, objs := fun k o ho => ?_, subs := fun k i c b hk => (by cases hk), subx := fun k _ _ i c b hk => (by cases hk), parts := fun k k' q hk hk' => ?_, young := fun k q hk => ?_, grow := hM1.grow, sold := hM1.sold, snew := hM1.snew, sin := hM1.sin, scell := hM1.scell, ext := fun k l h1 h2 hk => ?_, marks := fun _ hx => nomatch hx }, ⟨fun k l hk => ?_, fun k h1 h2 i c b hk => (by cases hk)⟩, hl, by rw [List.length_map]; omega⟩
  · rw [look_out]
    rcases hm2k k l hk with ⟨h1, _⟩ | ⟨h1, h2, h3⟩
    · rw [if_pos h1]; rfl
    · rw [if_neg (by omega), if_pos h1, List.getElem?_map, List.getElem?_eq_getElem (by omega)]; rfl
  · rw [look_out] at ho
    split at ho
    · rename_i h1
      subst h1
      cases ho
      obtain ⟨b', c', arr, g1, g2, g3, g4⟩ := H.objs 0 _ rfl
      rw [show 1000000 + 0 = 1000000 from rfl, hm0] at g1
      cases g1
      have hk0 := hobj0 0 _ rfl
      refine ⟨b, c, arr, hm2a, g2, ?_, g4⟩
      refine g3.maps fun x y hy hxy => ?_
      exact hxy.ren fun j hj l hl => by
        have hjk : j ∈ (MObj.box t (C a)).keys := List.mem_flatMap.2 ⟨y, hy, hj⟩
        obtain ⟨q1, q2⟩ := hk0 j hjk
        rw [hm2o j q1 q2]; exact hl
    · split at ho
      · rename_i h1 h2
        rw [List.getElem?_map] at ho
        obtain ⟨o', ho', rfl⟩ := Option.map_eq_some_iff.1 ho
        have hi := (List.getElem?_eq_some_iff.1 ho').1
        have hho : (MObj.box t (C a) :: O a)[k - 2000000 + 1]? = some o' := by rw [List.getElem?_cons_succ]; exact ho'
        have hob := H.objs _ _ hho
        have hk0 := hobj0 _ _ hho
        have hfl := (hflat o' (List.mem_of_getElem? hho)).1
        have ek : outK (1000000 + (k - 2000000 + 1)) = k := by unfold outK; rw [if_neg (by omega)]; omega
        refine hob.ren (fun j hj l hl => ?_) (fun l hl => ?_) ?_
        · obtain ⟨q1, q2⟩ := hk0 j hj
          rw [hm2o j q1 q2]; exact hl
        · rw [← ek, hm2o _ (by omega) (by omega)]; exact hl
        · funext i' c'
          rw [H.none]
      · cases ho
  · obtain ⟨j, g1, rfl, g3⟩ := hhas k q hk
    obtain ⟨j', g1', rfl, g3'⟩ := hhas k' q hk'
    rw [H.parts j j' q g1 g1']
  · obtain ⟨j, g1, rfl, g3⟩ := hhas k q hk
    rcases hM1.young 1000000 q (hown q ⟨j, g1⟩) with g | ⟨g, _⟩
    · exact .inl g
    · by_cases hj : j = 1000000
      · subst hj
        exact .inr ⟨g, by decide, by decide⟩
      · refine .inl ?_
        rcases (hown q ⟨j, g1⟩) with ⟨c', h1⟩ | ⟨i, c', h1⟩
        · rw [hmb] at h1
          cases h1
          exact absurd (H.parts j 1000000 b g1 (.inl ⟨c0, hm0⟩)) hj
        · rcases hk2 1000000 (Nat.le_refl _) (Nat.lt_succ_self _) i c' q h1 with h2 | h2
          · exact h2
          · exfalso
            rcases h2 with ⟨c2, h2⟩ | ⟨i2, c2, h2⟩
            · obtain ⟨l', h3, h4⟩ := hk1 1000000 _ h2
              rcases h4 with rfl | ⟨h4, _⟩
              · rw [hmb] at h3
                cases h3
                exact absurd (H.parts j 1000000 b g1 (.inl ⟨c0, hm0⟩)) hj
              · cases h4
            · obtain ⟨o, h3, h4⟩ := hM.subs 1000000 i2 c2 q h2
              cases h3
              cases h4
  · exact .inl hk
  · obtain ⟨l', g1, g2⟩ := hk1 k l hk
    have hkk : k = 1000000 := by
      have h1 := hM.dom k l hk
      unfold extMem look at h1
      split at h1
      · assumption
      · cases h1
    subst hkk
    rcases g2 with rfl | ⟨g2, _⟩
    · refine ⟨_, hm2a, .inl ?_⟩
      rw [hmb] at g1
      exact Option.some.inj g1
    · cases g2
end Go.Proofs.YtplooifpgmlofaaGreat
namespace Go.Proofs.YtplooifpgmlofaaGreat
open Go.RowKit

@[simp] def runsD (l : List (List Int)) : D := .sl 1 (l.map runC)
theorem refRuns8_m {Y : Sys} (hY : Fair Y) (A : RPlr Y) (m : Int) (hm : 0 ≤ m ∧ m ≤ 100000) (q : Option (List Int)) (hq : ∀ p, q = some p → legal Y p) :
    Meets Tryz.prog 8 [.ptr 1000000 0, .i m] [.sys (A.at_ q)] (fun r => ∃ p, legal Y p ∧ r = ⟨.d (runsD (seen Y ⟨m, 60, false⟩ none).2.runs), [.sys (A.at_ (some p))], []⟩) := by
  refine meetsP [] tbSOk mixed Tryz.func8 pl8 rfl rfl ?_
  simp [Tryz.ntmps8]
  refine (refExplore_m hY A ⟨m, 60, false⟩ none hm (by dsimp only; omega) q hq).mono ?_
  rintro _ ⟨p, hp⟩
  simp
  refine vcRet_of [] ?_ ⟨p, hp, rfl⟩
  simp [List.take_of_length_le]
theorem foundK_found (Y : Sys) (f : Cf) : (foundK Y f).1 = (found Y f).1 ∧ (foundK Y f).2.1 = (found Y f).2 :=
  goX_rel (Y := Y) (f := f) (lf := lfK Y f) (lg := lfN Y f) (R := fun s u => s.1 = u.1 ∧ s.2.1 = u.2) (fun _ _ h => h.1) (fun s u h => ⟨by rw [h.1], h.2⟩) (fun p cut s u h => by
    obtain ⟨h1, h2⟩ := h
    unfold lfK
    rw [h1, h2]
    exact ⟨rfl, rfl⟩) 60 [] [] f.switches _ _ ⟨rfl, rfl⟩
theorem foundKR_eq (Y : Sys) (f : Cf) : foundKR Y f = foundR Y f := by
  obtain ⟨h1, h2⟩ := foundK_found Y f
  unfold foundKR foundR
  rw [h1, h2]
theorem lfK_step (Y : Sys) (f : Cf) : LfOk f.most (lfK Y f) where
  step := fun p cut s he hr => by
    unfold lfK leafN
    rw [if_neg (by omega)]
    split
    · exact ⟨rfl, he⟩
    · exact ⟨rfl, rfl⟩
  full := fun p cut s he hf => by
    unfold lfK leafN at hf ⊢
    by_cases hr : s.1.runs = f.most
    · rw [if_pos hr] at hf
      cases hf
    · rw [if_neg hr] at hf ⊢
      cases cut
      · exact ⟨hf, rfl, rfl, rfl⟩
      · cases hf
theorem foldK_log (Y : Sys) (f : Cf) : ∀ (l : List (List Int × Bool)) (s : FdK), (∀ x ∈ l, x.2 = false) → s.1.enough = false → s.1.runs + l.length ≤ f.most → (foldL (lfK Y f) l s).2.2 = s.2.2 ++ l.map Prod.fst
  | [], s, _, _, _ => by simp [foldL]
  | (p, cut) :: l, s, hx, he, hm => by
    rw [List.length_cons] at hm
    obtain rfl : cut = false := hx (p, cut) (List.mem_cons_self ..)
    obtain ⟨g1, g2⟩ := (lfK_step Y f).step p false s he (by omega)
    have hlog : (lfK Y f p false s).2.2 = s.2.2 ++ [p] := by
      unfold lfK
      rw [if_neg (by omega)]
      rfl
    have : foldL (lfK Y f) ((p, false) :: l) s = foldL (lfK Y f) l (lfK Y f p false s) := rfl
    rw [this, foldK_log Y f l _ (fun y hy => hx y (List.mem_cons_of_mem _ hy)) g2 (by rw [g1]; omega), hlog]
    simp
theorem foundK_log {Y : Sys} (hA : Asc Y) {m : Int} (hl : ((allR Y).length : Int) ≤ m) (hc : ∀ x ∈ lvs Y false 60 [] [], x.2 = false) : (foundK Y ⟨m, 60, true⟩).2.2 = someR Y := by
  have hsub : (lvs Y true 60 [] []).Sublist (lvs Y false 60 [] []) := by rw [some_sub hA]; exact List.filter_sublist
  have hlen : ((lvs Y true 60 [] []).length : Int) ≤ m := by
    have := hsub.length_le
    unfold allR at hl
    rw [List.length_map] at hl
    omega
  have hc2 : ∀ x ∈ lvs Y true 60 [] [], x.2 = false := fun x hx => hc x (hsub.mem hx)
  obtain ⟨g1, _, _⟩ := goX_fold (lfK_step Y ⟨m, 60, true⟩) (Y := Y) (f := ⟨m, 60, true⟩) 60 [] [] 60 (⟨0, 0, true, false⟩, [], []) rfl (by decide) rfl (by simpa using hlen)
  show (goX (lfK Y ⟨m, 60, true⟩) Y ⟨m, 60, true⟩ 60 [] [] 60 (⟨0, 0, true, false⟩, [], [])).2.2 = _
  rw [g1, foldK_log Y ⟨m, 60, true⟩ _ _ hc2 rfl (by simpa using hlen)]
  simp [someR]
end Go.Proofs.YtplooifpgmlofaaGreat
namespace Go.Proofs.YtplooifpgmlofaaGreat
open Go.RowKit
open Lo (Sy Lk Qu chk Fits Wide)

@[simp] def colEnd (x : Sx) (p : List Int) (L : List (List Int)) : List MObj := [bnO (atX x p).b x.ps 2000004, tsO (atX x p).ts, wsO (atX x p).ws, runsK L, rcO (atX x p).b]
theorem sleepC {x : Sx} (h : XOk x) (m : Int) (hm : okRuns m) : Meets Tryz.prog 9 [.ifc 46 1000000, .i m] [colN x] (fun r => ∃ p, legal (sysX x) p ∧ r = ⟨.tup [(foundR (sysX x) ⟨m, 60, true⟩).pv, .i 0], [plOc x p (foundK (sysX x) ⟨m, 60, true⟩).2.2.length 2000000 2000001 2000002 2000003], colEnd x p (foundK (sysX x) ⟨m, 60, true⟩).2.2⟩) := by
  have h1 : Meets Tryz.prog 9 [.ifc 46 1000000, .i m] [colN x] (fun r => ∃ p, legal (sysX x) p ∧ r = ⟨.tup [(foundR (sysX x) ⟨m, 60, true⟩).pv, .i 0], [.sys (holdH (plEc x (atX x p) p (foundK (sysX x) ⟨m, 60, true⟩).2.2))], []⟩) := by
    refine Meets.hide (by simp) ((sleepK_m (sys_fair h) (colQ x h) m none (fun _ h => by cases h)).mono ?_)
    rintro _ (⟨_, p, hp⟩ | hn)
    · exact ⟨p, hp, by rw [foundKR_eq]; rfl⟩
    · exact absurd hm hn
  refine (Meets.opened (t := 48) (C := fun p => [.d (Lo.lks x.s.locks), .d (Lo.qus x.s.queues), .d (Lo.il x.s.groups), .d (prgsD x.ps), .ptr 1000001 0, .rw 1000002 x.ps.length, .rw 1000003 x.ps.length, .d (intD p), .rw 1000004 (foundK (sysX x) ⟨m, 60, true⟩).2.2.length])
    (O := fun p => [bnO (atX x p).b x.ps 1000005, tsO (atX x p).ts, wsO (atX x p).ws, runsK (foundK (sysX x) ⟨m, 60, true⟩).2.2, rcO (atX x p).b]) (by simp) (fun a _ => by simp [opensB, flatO, isNest]) h1).mono ?_
  rintro _ ⟨p, hp, rfl⟩
  exact ⟨p, hp, by simp [outK]⟩
@[simp] def sxO (x : Sx) : MObj := .box 29 [.d (Lo.lks x.s.locks), .d (Lo.qus x.s.queues), .d (Lo.il x.s.groups), .d (prgsD x.ps)]
@[simp] def rzO (b : Rz) : MObj := .box 34 [.i b.runs, .i b.stuck, .d (.sl 1 (b.outs.map strC)), .b b.full]
@[simp] def colO (L : List (List Int)) : MObj := .box 48 [.any, .any, .any, .any, .any, .any, .any, .any, .d (runsD L)]
def kindsTo (Y : Sys) (all : List (List Int)) (k : Nat) : List (List Int) := putsK [] ((all.take k).map (normal Y))
theorem kindsTo_succ {Y : Sys} {all : List (List Int)} {k : Nat} {r : List Int} (h : all[k]? = some r) : kindsTo Y all (k + 1) = putK (kindsTo Y all k) (normal Y r) := by
  unfold kindsTo putsK
  rw [List.take_add_one, h]
  simp
theorem kindsTo_len {Y : Sys} {all : List (List Int)} : ∀ k, (kindsTo Y all k).length ≤ k
  | 0 => by simp [kindsTo, putsK]
  | k + 1 => by
    have ih := kindsTo_len (Y := Y) (all := all) k
    cases h : all[k]? with
    | none =>
      have : kindsTo Y all (k + 1) = kindsTo Y all k := by
        unfold kindsTo
        rw [List.take_add_one, h]
        simp
      rw [this]; omega
    | some r =>
      rw [kindsTo_succ h]
      unfold putK
      split
      · omega
      · simp; omega
theorem kindsTo_mem {Y : Sys} {all : List (List Int)} {k : Nat} {q : List Int} (h : q ∈ kindsTo Y all k) : ∃ r ∈ all, q = normal Y r := by
  unfold kindsTo at h
  rcases (putsK_mem _ _ _).1 h with h | h
  · cases h
  · obtain ⟨r, hr, e⟩ := List.mem_map.1 h
    exact ⟨r, List.mem_of_mem_take hr, e.symm⟩
@[simp] def sameM (x : Sx) (b : Rz) (L : List (List Int)) : Mem := [(7, rzO b), (1, sxO x), (43, colO L)]
inductive KindI (x : Sx) (b : Rz) (L all : List (List Int)) : Nat → Sta → Prop
  | mk (k : Nat) (hk : k ≤ all.length) : KindI x b L all (all.length - k) ⟨165, [(9, .i k), (8, .rw 8 (kindsTo (sysX x) all k).length), (7, .ptr 7 0), (6, .ptr 43 0), (5, .d (runsD all)), (1, .ptr 1 0)], (8, .row 24 1 ((kindsTo (sysX x) all k).map runC) false) :: sameM x b L⟩
inductive DupI (x : Sx) (b : Rz) (L all : List (List Int)) (k : Nat) (n : List Int) (Q : List (List Int)) : Nat → Sta → Prop
  | mk (j : Nat) (hj : j ≤ Q.length) : DupI x b L all k n Q (Q.length - j) ⟨165, [(13, .i j), (12, .b ((Q.take j).any fun q => decide (q = n))), (10, .d (intD n)), (9, .i k), (8, .rw 8 Q.length), (7, .ptr 7 0), (6, .ptr 43 0), (5, .d (runsD all)), (1, .ptr 1 0)], (8, .row 24 1 (Q.map runC) false) :: sameM x b L⟩
inductive RunI (x : Sx) (b : Rz) (L : List (List Int)) : Nat → Sta → Prop
  | mk (k : Nat) (hk : k ≤ L.length) : RunI x b L (L.length - k) ⟨165, [(14, .i k), (6, .ptr 43 0), (1, .ptr 1 0)], sameM x b L⟩
set_option maxRecDepth 100000 in
set_option maxHeartbeats 16000000 in
theorem lawSame_m (x : Sx) (hx : Lies x) (hv : Vals x) : Meets Tryz.prog 3 [x.pv] [] (Ret (.b true)) := by
  refine meetsP [] tbCOk mixed Tryz.func3 pl3 rfl rfl ?_
  simp [Tryz.ntmps3]
  refine (small_m x hx).mono ?_
  rintro _ rfl
  cases hs : smallX x
  · simp
    refine awake_m.mono ?_
    rintro _ rfl
    simp
    refine vcRet_of [] ?_ rfl
    simp
  have h := small_ok hs hv
  have hF := sys_fair h
  have hr : okRuns 150 := by unfold okRuns; omega
  simp
  refine (hideN h (refAllU_m hF (refQ x h) 150 hr none (fun _ h => by cases h))).mono ?_
  rintro _ rfl
  have hol := seenR_len (Y := sysX x) (f := ⟨150, 60, false⟩) (by dsimp only; omega)
  cases hfull : (seenR (sysX x) ⟨150, 60, false⟩ none).full
  · simp [hfull]
    refine awake_m.mono ?_
    rintro _ rfl
    simp
    refine vcRet_of [] ?_ rfl
    simp
  have hC := comm_sys h.ok
  have hC2 := comm2_sys h.ok
  have hA := asc_sys x
  obtain ⟨e1, e2, e3, e4, e5, e6, e7, e8, e9⟩ := same_plain hC hC2 hA (m := 150) (by omega) hfull
  obtain ⟨hc, hle, _, _⟩ := seen_full (Y := sysX x) (f := ⟨150, 60, false⟩) rfl rfl (by dsimp only; omega) hfull
  have hlog := foundK_log hA hle hc
  have hrun := refRuns8_m hF (refQ x h) 150 (by omega) none (fun _ h => by cases h)
  rw [e1] at hrun
  have hsl := sleepC h 150 hr
  rw [hlog, found_seen] at hsl
  have hk : (kindsTo (sysX x) (allR (sysX x)) (allR (sysX x)).length).length = (seenR (sysX x) ⟨150, 60, true⟩ none).runs := by
    rw [e6]; unfold kindsTo; rw [List.take_length]
  have hle : ((allR (sysX x)).length : Int) ≤ 150 := hle
  clear e1 e6 hc hlog
  obtain ⟨⟨n1, s1, o1, f1⟩, hRa⟩ : ∃ R, seenR (sysX x) ⟨150, 60, false⟩ none = R := ⟨_, rfl⟩
  obtain ⟨⟨n2, s2, o2, f2⟩, hRb⟩ : ∃ R, seenR (sysX x) ⟨150, 60, true⟩ none = R := ⟨_, rfl⟩
  rw [hRa] at e2 e4 e5 hfull hol ⊢
  rw [hRb] at e3 e4 e5 e7 hk hsl
  generalize allR (sysX x) = all at *
  generalize someR (sysX x) = L at *
  dsimp only at e2 e3 e4 e5 e7 hk hfull hol
  subst e2
  subst e3
  subst e4
  subst hfull
  subst e7
  simp
  refine (Meets.hide (by simp) hrun).mono ?_
  rintro _ ⟨p0, hp0, rfl⟩
  simp
  refine hsl.mono ?_
  rintro _ ⟨p, hp, rfl⟩
  simp
  refine ⟨fun i hi => by rcases (by omega : i = 0 ∨ i = 1 ∨ i = 2 ∨ i = 3 ∨ i = 4) with rfl | rfl | rfl | rfl | rfl <;> simp, ?_⟩
  refine (sameStr_m o2 o2 hol).mono ?_
  rintro _ rfl
  simp [e5]
  have hL2 : L.length ≤ 150 := by
    have := kindsTo_len (Y := sysX x) (all := all) all.length
    omega
  refine vc_loop (KindI x ⟨L.length, s2, o2, true⟩ L all) ⟨_, _, .mk 0 (Nat.zero_le _), [.row 8 24 1, .seen 43 8], _, (by simp [Prep.all, Prep.run]; rfl), by simp [kindsTo, putsK, List.take_of_length_le]⟩ ?_
  rintro m σ ⟨k, hkl⟩
  by_cases hlt : k < all.length
  case neg =>
    obtain rfl : k = all.length := by omega
    simp [hk]
    refine vc_loop (RunI x ⟨L.length, s2, o2, true⟩ L) ⟨_, _, .mk 0 (Nat.zero_le _), [], _, rfl, by simp⟩ ?_
    rintro m3 σ3 ⟨k, hk3⟩
    by_cases hlt : k < L.length
    · obtain ⟨q, hq, e⟩ := at_lt hlt
      obtain ⟨hql, hqn⟩ := e9 q (List.mem_of_getElem? hq)
      obtain ⟨v1, v2, v3, v4⟩ := legal_vals hql
      have c1 := normC h q
      rw [v3, v4, hqn] at c1
      have h60 := hql.1
      simp [hlt, e]
      refine effCallN c1 ?_
      simp [hlt, e]
      refine ⟨by kernel_rfl, ?_⟩
      refine (sameInts_m q q (by omega)).mono ?_
      rintro _ rfl
      simp [wrap_succ hlt (show L.length < 4294967296 by omega)]
      exact ⟨L.length - (k + 1), by omega, _, .mk (k + 1) hlt, [], _, rfl, by simp⟩
    · obtain rfl : k = L.length := by omega
      simp
      refine awake_m.mono ?_
      rintro _ rfl
      simp
      refine vcRet_of [] ?_ rfl
      simp
  obtain ⟨q, hq, e⟩ := at_lt hlt
  have hql := e8 q (List.mem_of_getElem? hq)
  obtain ⟨v1, v2, v3, v4⟩ := legal_vals hql
  have c1 := refNormC h q
  rw [v3, v4] at c1
  have hkq := kindsTo_succ (Y := sysX x) hq
  have hQ : ∀ u ∈ kindsTo (sysX x) all k, u.length < 4294967296 := fun u hu => by
    obtain ⟨r, hr, rfl⟩ := kindsTo_mem hu
    have := normX_len r.length (stepsK (sysX x) r r.length)
    have := (e8 r hr).1
    show (normX _ _).length < _
    omega
  have hQl := kindsTo_len (Y := sysX x) (all := all) k
  generalize kindsTo (sysX x) all k = Q at hkq hQ hQl ⊢
  generalize normal (sysX x) q = n at hkq c1
  simp [hlt, e]
  refine effCallN c1 ?_
  simp
  refine ⟨by kernel_rfl, ?_⟩
  refine vc_loop (DupI x ⟨L.length, s2, o2, true⟩ L all k n Q) ⟨_, _, .mk 0 (Nat.zero_le _), [], _, rfl, by simp⟩ ?_
  rintro m2 σ2 ⟨j, hj⟩
  by_cases hjl : j < Q.length
  case neg =>
    obtain rfl : j = Q.length := by omega
    have hwk : IntKind.i64.wrap ((k : Int) + 1) = (k : Int) + 1 := wrap_in (by omega)
    by_cases hin : n ∈ Q
    · have hk1 : kindsTo (sysX x) all (k + 1) = Q := by rw [hkq]; unfold putK; rw [if_pos hin]
      have hany : (Q.any fun q => decide (q = n)) = true := List.any_eq_true.2 ⟨n, hin, by simp⟩
      simp [hany, hwk]
      exact ⟨all.length - (k + 1), by omega, _, .mk (k + 1) hlt, [], _, rfl, by simp [hk1]⟩
    · have hk1 : kindsTo (sysX x) all (k + 1) = Q ++ [n] := by rw [hkq]; unfold putK; rw [if_neg hin]
      have hany : (Q.any fun q => decide (q = n)) = false := List.any_eq_false.2 fun y hy => by simp; rintro rfl; exact hin hy
      simp [hany, hwk]
      exact ⟨by omega, all.length - (k + 1), by omega, _, .mk (k + 1) hlt, [], _, rfl, by simp [hk1]⟩
  obtain ⟨u, hu, eu⟩ := at_lt hjl
  have hul := hQ u (List.mem_of_getElem? hu)
  have htk : (Q.take (j + 1)).any (fun q => decide (q = n)) = ((Q.take j).any (fun q => decide (q = n)) || decide (u = n)) := by
    rw [List.take_add_one, hu, List.any_append]
    simp
  cases hb : (Q.take j).any fun q => decide (q = n)
  · simp [hjl, eu]
    refine (sameInts_m u n hul).mono ?_
    rintro _ rfl
    simp [wrap_succ hjl (show Q.length < 4294967296 by omega)]
    exact ⟨Q.length - (j + 1), by omega, _, .mk (j + 1) hjl, [], _, rfl, by simp [htk, hb]⟩
  · simp [hjl, wrap_succ hjl (show Q.length < 4294967296 by omega)]
    exact ⟨Q.length - (j + 1), by omega, _, .mk (j + 1) hjl, [], _, rfl, by simp [htk, hb]⟩
end Go.Proofs.YtplooifpgmlofaaGreat
