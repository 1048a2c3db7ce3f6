/- The statement Finds. No condition. -/
import Derived.Test.YtplooifpgmlofaaGreatN15
import Derived.Test.YtplooifpgmlofaaGreatN7
import Derived.Test.YtplooifpgmlofaaGreatN9
import Derived.Test.YtplooifpgmlofaaGreatN20
namespace Go.Proofs.YtplooifpgmlofaaGreat
open Go.RowKit

/-- Leaves are where nobody can have a turn, or where there have been 60. -/
theorem goX_inv2 {β : Type} {Y : Sys} {f : Cf} {lf : List Int → Bool → FdB β → FdB β} {R : FdB β → Prop} (hf : ∀ s, R s → R ({ s.1 with full := false }, s.2)) (hlf : ∀ p cut s, legal Y p → (cut = false → Y.en p = []) → R s → R (lf p cut s)) : ∀ (n : Nat) (p : List Int) (sl : List Stp) (left : Int) (s : FdB β), p.length + n = 60 → legal Y p → R s → R (goX lf Y f n p sl left s)
  | 0, p, _, _, s, _, hp, h => hlf _ _ _ hp (fun hc => by
      have := of_decide_eq_false hc
      exact List.eq_nil_of_length_eq_zero (by omega)) h
  | n + 1, p, sl, left, s, hn, hp, h => by
    unfold goX
    split
    · rename_i he
      exact hlf _ _ _ hp (fun _ => he) h
    · have : ∀ (last : Int) (ts : List Int) (sl : List Stp) (s : FdB β), (∀ t ∈ ts, t ∈ Y.en p) → R s → R (loopX (goX lf Y f n) Y f p last left ts sl s) := by
        intro last ts
        induction ts with
        | nil => exact fun _ _ _ h => h
        | cons t ts ih =>
          intro sl s ht h
          have hl : legal Y (p ++ [t]) := legal_snoc hp (ht t (by simp)) (by omega)
          have ht' : ∀ u ∈ ts, u ∈ Y.en p := fun u hu => ht u (by simp [hu])
          unfold loopX
          generalize (if 0 < last ∧ last ≠ t then left - 1 else left) = r
          split
          · exact ih _ _ ht' h
          · split
            · exact ih _ _ ht' (hf _ h)
            · split
              · exact goX_inv2 hf hlf n _ _ _ _ (by simp; omega) hl h
              · exact ih _ _ ht' (goX_inv2 hf hlf n _ _ _ _ (by simp; omega) hl h)
      exact this _ _ _ _ (fun _ h => h) h
/-- Two that find alike, while neither has enough. -/
theorem goX_rel2 {β γ : Type} {Y : Sys} {f : Cf} {lf : List Int → Bool → FdB β → FdB β} {lg : List Int → Bool → FdB γ → FdB γ} {R : FdB β → FdB γ → Prop} (h1 : ∀ s u, R s u → s.1 = u.1) (hf : ∀ s u, R s u → R ({ s.1 with full := false }, s.2) ({ u.1 with full := false }, u.2))
    (hlf : ∀ p cut s u, s.1.enough = false → R s u → R (lf p cut s) (lg p cut u)) : ∀ (n : Nat) (p : List Int) (sl : List Stp) (left : Int) (s : FdB β) (u : FdB γ), s.1.enough = false → R s u → R (goX lf Y f n p sl left s) (goX lg Y f n p sl left u)
  | 0, _, _, _, _, _, he, h => hlf _ _ _ _ he h
  | n + 1, p, sl, left, s, u, he, h => by
    unfold goX
    split
    · exact hlf _ _ _ _ he h
    · have : ∀ (last : Int) (ts : List Int) (sl : List Stp) (s : FdB β) (u : FdB γ), s.1.enough = false → R s u → R (loopX (goX lf Y f n) Y f p last left ts sl s) (loopX (goX lg Y f n) Y f p last left ts sl u) := by
        intro last ts
        induction ts with
        | nil => exact fun _ _ _ _ h => h
        | cons t ts ih =>
          intro sl s u he h
          have hr := goX_rel2 (Y := Y) (f := f) h1 hf hlf n (p ++ [t]) (sl.filter fun q => indy q.uses (Y.foot p t)) (if 0 < last ∧ last ≠ t then left - 1 else left) s u he h
          unfold loopX
          generalize (if 0 < last ∧ last ≠ t then left - 1 else left) = r at hr ⊢
          have e1 := h1 _ _ hr
          rw [← e1]
          split
          · exact ih _ _ _ he h
          · split
            · exact ih _ _ _ he (hf _ _ h)
            · split
              · exact hr
              · rename_i hn
                exact ih _ _ _ (by simpa using hn) hr
      exact this _ _ _ _ _ he h
/-- What Find finds and what the reference finds. -/
theorem find_seen (Y : Sys) (f : Cf) (o : ByteArray) : (foundT Y (fun s => decide (s = o)) f).1 = (seen Y f (some o)).1 ∧ (foundT Y (fun s => decide (s = o)) f).2.2.1 = (seen Y f (some o)).2.has ∧ ((seen Y f (some o)).2.has = true → (foundT Y (fun s => decide (s = o)) f).2.2.2 = (seen Y f (some o)).2.fd) := by
  have := goX_rel2 (Y := Y) (f := f) (lf := leafT Y f fun s => decide (s = o)) (lg := leafR Y f (some o)) (R := fun s u => s.1 = u.1 ∧ s.2.2.1 = u.2.has ∧ (u.2.has = true → u.1.enough = true ∧ s.2.2.2 = u.2.fd)) (fun _ _ h => h.1) (fun s u h => ⟨by rw [h.1], h.2.1, h.2.2⟩)
    (fun p cut s u he h => by
      obtain ⟨h1, h2, h3⟩ := h
      have hu : u.2.has = false := by
        cases hh : u.2.has
        · rfl
        · have := (h3 hh).1; rw [← h1, he] at this; cases this
      unfold leafT leafR
      rw [h1]
      split
      · exact ⟨rfl, h2, fun h => ⟨rfl, (h3 h).2⟩⟩
      · split
        · exact ⟨rfl, h2, h3⟩
        · by_cases ho : Y.out p = o
          · subst ho
            simp [hu]
          · have ho' : ¬ o = Y.out p := fun e => ho e.symm
            simp [hu, ho, ho'])
    60 [] [] f.switches (⟨0, 0, true, false⟩, [], false, []) (⟨0, 0, true, false⟩, ⟨[], [], [], false⟩) rfl ⟨rfl, rfl, fun h => by cases h⟩
  exact ⟨this.1, this.2.1, fun h => (this.2.2 h).2⟩
/-- A run that Find finds is one to its end, and comes to what was wanted. -/
theorem find_legal (Y : Sys) (f : Cf) (want : ByteArray → Bool) : (foundT Y want f).2.2.1 = true → legal Y (foundT Y want f).2.2.2 ∧ Y.en (foundT Y want f).2.2.2 = [] ∧ want (Y.out (foundT Y want f).2.2.2) = true := by
  refine goX_inv2 (Y := Y) (f := f) (lf := leafT Y f want) (R := fun s => s.2.2.1 = true → legal Y s.2.2.2 ∧ Y.en s.2.2.2 = [] ∧ want (Y.out s.2.2.2) = true) (fun s h => h) (fun p cut s hp hc h => ?_) 60 [] [] f.switches (⟨0, 0, true, false⟩, [], false, []) rfl (legal_nil Y) (fun h => by cases h)
  unfold leafT
  split
  · exact h
  · split
    · exact h
    · rename_i hcut
      exact fun hw => ⟨hp, hc (by simpa using hcut), hw⟩
end Go.Proofs.YtplooifpgmlofaaGreat
namespace Go.Proofs.YtplooifpgmlofaaGreat
open Go.RowKit

/-- What the reference's Find hands back. -/
inductive RFindR {Y : Sys} (A : RPlr Y) (o : ByteArray) (q : Option (List Int)) (most : Int) : Res → Prop
  | yes (h : okRuns most) (p : List Int) (hp : legal Y p) (hf : (seen Y ⟨most, 60, false⟩ (some o)).2.has = true) : RFindR A o q most ⟨.tup [.d (intD (seen Y ⟨most, 60, false⟩ (some o)).2.fd), .i 0], [.sys (A.at_ (some p))], []⟩
  | none (h : okRuns most) (p : List Int) (hp : legal Y p) (hf : (seen Y ⟨most, 60, false⟩ (some o)).2.has = false) : RFindR A o q most ⟨.tup [.d (.v (.slice none 0 0)), .i 4], [.sys (A.at_ (some p))], []⟩
  | no (h : ¬ okRuns most) : RFindR A o q most ⟨.tup [.d (.v (.slice none 0 0)), .i 7], [.sys (A.at_ q)], []⟩
theorem refFind_m {Y : Sys} (hY : Fair Y) (A : RPlr Y) (o : ByteArray) (most : Int) (q : Option (List Int)) (hq : ∀ p, q = some p → legal Y p) :
    Meets Tryz.prog 17 [.ptr 1000000 0, .d (.v (.string o)), .i most] [.sys (A.at_ q)] (RFindR A o q most) := by
  refine meetsP [] tbSOk mixed Tryz.func17 pl17 rfl rfl ?_
  simp [Tryz.ntmps17]
  refine (refRuns_m most).mono ?_
  rintro _ rfl
  by_cases hr : okRuns most
  · simp [if_pos hr]
    refine (refExplore_m hY A ⟨most, 60, false⟩ (some o) (by unfold okRuns at hr; constructor <;> dsimp only <;> omega) (by dsimp only; omega) q hq).mono ?_
    rintro _ ⟨p, hp⟩
    cases hf : (seen Y ⟨most, 60, false⟩ (some o)).2.has
    · simp [hf]
      refine vcRet_of [] ?_ (.none hr p hp hf)
      simp
    · simp [hf]
      refine vcRet_of [] ?_ (.yes hr p hp hf)
      simp
  · simp [if_neg hr]
    refine vcRet_of [] ?_ (.no hr)
    simp
end Go.Proofs.YtplooifpgmlofaaGreat
namespace Go.Proofs.YtplooifpgmlofaaGreat
open Go.RowKit
open Lo (Sy Lk Qu chk Fits Wide)

theorem look_sysL {k : Nat} {H : Hid} {os : List MObj} (hk : k ≠ 1000000) (H' : Hid) : look k (extMem 1000000 (MObj.sys H :: os) ++ extMem 2000000 []) = look k (extMem 1000000 (MObj.sys H' :: os) ++ extMem 2000000 []) := by
  simp [extMem, look, hk]
theorem look_sys0 {H : Hid} {os : List MObj} : look 1000000 (extMem 1000000 (MObj.sys H :: os) ++ extMem 2000000 []) = some (.sys H) := by
  simp [extMem, look]
theorem Meets.blurL {P : Program} {f : Nat} {args : List PV} {ext os : List MObj} {v : PV} {α : Type} {F : α → Hid} {ok : α → Prop} (h : Meets P f args ext (fun r => ∃ a, ok a ∧ r = ⟨v, .sys (F a) :: os, []⟩)) :
    Meets P f args ext (fun r => r = ⟨v, .sys (anyH F ok) :: os, []⟩) := by
  refine ⟨h.1, fun w S m T vs hv hM => (h.2 w S m T vs hv hM).mono ?_⟩
  rintro e w' ⟨_, u, m', S', ⟨a, ha, rfl⟩, he, hr, hM', hk, hl, hn⟩
  refine ⟨_, u, m', S', rfl, he, hr, ?_, ⟨fun k l h1 => ?_, hk.2⟩, hl, hn⟩
  · refine { dom := fun k l h1 => ?_, objs := fun k o h1 => ?_, subs := fun k i c b h1 => ?_, subx := hM'.subx, parts := hM'.parts, young := hM'.young, grow := hM'.grow, sold := hM'.sold, snew := hM'.snew, sin := hM'.sin, scell := hM'.scell, ext := fun k l h1 h2 h3 => ?_, marks := hM'.marks }
    · have := hM'.dom k l h1
      by_cases hk0 : k = 1000000
      · subst hk0; rw [look_sys0]; rfl
      · rw [look_sysL hk0 (F a)]; exact this
    · by_cases hk0 : k = 1000000
      · subst hk0
        rw [look_sys0] at h1
        cases h1
        obtain ⟨b, c, g1, g2⟩ := hM'.objs 1000000 _ look_sys0
        exact ⟨b, c, g1, a, ha, g2⟩
      · rw [look_sysL hk0 (F a)] at h1
        exact hM'.objs k o h1
    · obtain ⟨o, g1, g2⟩ := hM'.subs k i c b h1
      by_cases hk0 : k = 1000000
      · subst hk0
        exact ⟨_, look_sys0, rfl⟩
      · exact ⟨o, by rw [look_sysL hk0 (F a)]; exact g1, g2⟩
    · refine (hM'.ext k l h1 h2 h3).imp id fun ⟨g1, g2⟩ => ⟨?_, g2⟩
      by_cases hk0 : k + 3000000 = 1000000
      · omega
      · rw [look_sysL hk0 (F a)]; exact g1
  · obtain ⟨l', g1, g2⟩ := hk.1 k l h1
    refine ⟨l', g1, g2.imp id fun ⟨g3, g4⟩ => ⟨?_, g4⟩⟩
    revert g3
    unfold grownAt
    cases hx : k - 1000000 with
    | zero => exact id
    | succ n => exact id
theorem want_m (wz s : ByteArray) : Meets Tryz.prog 15 [.d (.v (.string s)), .ptr 1000000 0] [.box 9 [.d (.v (.string wz))]] (fun r => r = ⟨.b (decide (s = wz)), [.box 9 [.d (.v (.string wz))]], []⟩) := by
  refine meets tbOk mixed Tryz.func15 pl15 rfl rfl ?_
  simp [Tryz.ntmps15]
  refine vcRet_of [] ?_ rfl
  simp [strEq]
abbrev nilI : PV := .d (.v .nilIface)
abbrev nilS : PV := .d (.v (.slice none 0 0))
theorem playN_m : Meets Tryz.prog 18 [nilI, nilS] [] (Ret (.tup [strP ⟨#[]⟩, .i 0, .i 1])) := by
  refine meets tbOk mixed Tryz.func18 pl18 rfl rfl ?_
  simp [Tryz.ntmps18]
  refine vcRet_of [] ?_ rfl
  simp
theorem normN_m : Meets Tryz.prog 13 [nilI, nilS] [] (Ret (.tup [nilS, .i 1])) := by
  refine meets tbOk mixed Tryz.func13 pl13 rfl rfl ?_
  simp [Tryz.ntmps13]
  refine vcRet_of [] ?_ rfl
  simp
theorem boundN_m : Meets Tryz.prog 40 [nilI, .i 60, .i 1] [] (Ret (.tup [pz0, .i 1])) := by
  refine meets tbOk mixed Tryz.func40 pl40 rfl rfl ?_
  simp [Tryz.ntmps40]
  refine (readyN_m 1).mono ?_
  rintro _ rfl
  simp
  refine vcRet_of [] ?_ rfl
  simp
theorem allN_m : Meets Tryz.prog 19 [nilI, .i 1] [] (Ret (.tup [pz0, .i 1])) := by
  refine meets tbOk mixed Tryz.func19 pl19 rfl rfl ?_
  simp [Tryz.ntmps19]
  refine boundN_m.mono ?_
  rintro _ rfl
  simp
  refine vcRet_of [] ?_ rfl
  simp
theorem findN_m (t : Nat) (H : Hid) : Meets Tryz.prog 16 [.ifc t 1000000, .d (.v .nilFunc), .i 1] [.sys H] (fun r => r = ⟨.tup [nilS, .i 1], [.sys H], []⟩) := by
  refine meets tbOk mixed Tryz.func16 pl16 rfl rfl ?_
  simp [Tryz.ntmps16]
  refine (ready_m t H 1).mono ?_
  rintro _ rfl
  simp
  refine vcRet_of [] ?_ rfl
  simp
/-- What both Finds hand back. -/
def fdHas (Y : Sys) (m : Int) (o : ByteArray) : Bool := (seen Y ⟨m, 60, false⟩ (some o)).2.has
def fdRun (Y : Sys) (m : Int) (o : ByteArray) : List Int := (seen Y ⟨m, 60, false⟩ (some o)).2.fd
def fdD (Y : Sys) (m : Int) (o : ByteArray) : D := if fdHas Y m o = true then intD (fdRun Y m o) else .v (.slice none 0 0)
def fdE (Y : Sys) (m : Int) (o : ByteArray) : Int := if fdHas Y m o = true then 0 else 4
section
variable {Y : Sys} (hY : Fair Y) (A : RPlr Y)
include hY
theorem findO_m (o : ByteArray) (m : Int) (hm : okRuns m) (q : Option (List Int)) (hq : ∀ p, q = some p → legal Y p) :
    Meets Tryz.prog 16 [.ifc A.t 1000000, .clo 15 [.ptr 1000001 0], .i m] [.sys (A.at_ q), .box 9 [.d (.v (.string o))]] (fun r => r = ⟨.tup [.d (fdD Y m o), .i (fdE Y m o)], [.sys (begun A.toPlr), .box 9 [.d (.v (.string o))]], []⟩) := by
  refine Meets.blurL ((findU_m (want := fun s => decide (s = o)) (want_m o) hY A.toPlr m q hq).mono ?_)
  obtain ⟨h1, h2, h3⟩ := find_seen Y ⟨m, 60, false⟩ o
  rintro _ (⟨_, p, hp, hf⟩ | ⟨_, p, hp, hf⟩ | h)
  · have hh : fdHas Y m o = true := by unfold fdHas; rw [← h2]; exact hf
    exact ⟨p, hp, by unfold fdD fdE fdRun; rw [if_pos hh, if_pos hh, h3 hh]⟩
  · have hh : ¬ fdHas Y m o = true := by unfold fdHas; rw [← h2, hf]; exact Bool.false_ne_true
    exact ⟨p, hp, by unfold fdD fdE; rw [if_neg hh, if_neg hh]⟩
  · exact absurd hm h
theorem findX_m (o : ByteArray) (m : Int) (hm : ¬ okRuns m) (q : Option (List Int)) (hq : ∀ p, q = some p → legal Y p) :
    Meets Tryz.prog 16 [.ifc A.t 1000000, .clo 15 [.ptr 1000001 0], .i m] [.sys (A.at_ q), .box 9 [.d (.v (.string o))]] (fun r => r = ⟨.tup [nilS, .i 7], [.sys (A.at_ q), .box 9 [.d (.v (.string o))]], []⟩) := by
  refine (findU_m (want := fun s => decide (s = o)) (want_m o) hY A.toPlr m q hq).mono ?_
  rintro _ (⟨h, _⟩ | ⟨h, _⟩ | h)
  · exact absurd h hm
  · exact absurd h hm
  · rfl
theorem refFindO_m (o : ByteArray) (m : Int) (hm : okRuns m) (q : Option (List Int)) (hq : ∀ p, q = some p → legal Y p) :
    Meets Tryz.prog 17 [.ptr 1000000 0, .d (.v (.string o)), .i m] [.sys (A.at_ q)] (fun r => r = ⟨.tup [.d (fdD Y m o), .i (fdE Y m o)], [.sys (begun A.toPlr)], []⟩) := by
  refine Meets.blur ((refFind_m hY A o m q hq).mono ?_)
  rintro _ (⟨_, p, hp, hf⟩ | ⟨_, p, hp, hf⟩ | h)
  · have hh : fdHas Y m o = true := hf
    exact ⟨p, hp, by unfold fdD fdE fdRun; rw [if_pos hh, if_pos hh]⟩
  · have hh : ¬ fdHas Y m o = true := by unfold fdHas; rw [hf]; exact Bool.false_ne_true
    exact ⟨p, hp, by unfold fdD fdE; rw [if_neg hh, if_neg hh]⟩
  · exact absurd hm h
theorem sleepX_m (m : Int) (hm : ¬ okRuns m) (q : Option (List Int)) (hq : ∀ p, q = some p → legal Y p) :
    Meets Tryz.prog 9 [.ifc A.t 1000000, .i m] [.sys (A.at_ q)] (fun r => r = ⟨.tup [pz0, .i 7], [.sys (A.at_ q)], []⟩) := by
  refine (sleep_m hY A.toPlr m q hq).mono ?_
  rintro _ (⟨h, _⟩ | h)
  · exact absurd h hm
  · rfl
end
end Go.Proofs.YtplooifpgmlofaaGreat
namespace Go.Proofs.YtplooifpgmlofaaGreat
open Go.RowKit
open Lo (Sy Lk Qu chk Fits Wide)

theorem hideN2 {x : Sx} (hx : XOk x) {f : Nat} {a : PV} {args : List PV} {o : MObj} {r : Res} (h : Meets Tryz.prog f (a :: args) [.sys ((refQ x hx).at_ none), o] (fun r' => r' = r)) : Meets Tryz.prog f (a :: args) [plN x, o] (fun r' => r' = r) :=
  Meets.hide (by simp) h
theorem sameN_m : Meets Tryz.prog 12 [nilS, nilS] [] (Ret (.b true)) := Meets.le (args' := [.d (intD []), .d (intD [])]) (sameInts_m [] [] (by simp)) (by simp)
theorem sameD_m (Y : Sys) (m : Int) (o : ByteArray) : Meets Tryz.prog 12 [.d (fdD Y m o), .d (fdD Y m o)] [] (Ret (.b true)) := by
  unfold fdD
  by_cases hh : fdHas Y m o = true
  · rw [if_pos hh]
    obtain ⟨h1, h2, h3⟩ := find_seen Y ⟨m, 60, false⟩ o
    have := (find_legal Y ⟨m, 60, false⟩ (fun s => decide (s = o)) (by rw [h2]; exact hh)).1.1
    rw [h3 hh] at this
    refine (sameInts_m (fdRun Y m o) (fdRun Y m o) (by show List.length (seen Y ⟨m, 60, false⟩ (some o)).2.fd < _; omega)).mono ?_
    rintro _ rfl
    simp
  · rw [if_neg hh]; exact sameN_m
theorem fd_legal {Y : Sys} {m : Int} {o : ByteArray} (hh : fdHas Y m o = true) : legal Y (fdRun Y m o) ∧ Y.out (fdRun Y m o) = o := by
  obtain ⟨h1, h2, h3⟩ := find_seen Y ⟨m, 60, false⟩ o
  have := find_legal Y ⟨m, 60, false⟩ (fun s => decide (s = o)) (by rw [h2]; exact hh)
  rw [h3 hh] at this
  exact ⟨this.1, of_decide_eq_true this.2.2⟩
set_option maxRecDepth 20000 in
set_option maxHeartbeats 4000000 in
theorem lawFinds_m (x : Sx) (hx : Lies x) (hv : Vals x) (n : Int) (hn : 0 ≤ n ∧ n ≤ 255) (which : Int) (_ : I64 which) : Meets Tryz.prog 4 [x.pv, .d (.v (.int .u8 n)), .i which] [] (Ret (.b true)) := by
  refine meetsP [] tbSOk mixed Tryz.func4 pl4 rfl rfl ?_
  simp [Tryz.ntmps4]
  refine (small_m x hx).mono ?_
  rintro _ rfl
  cases hs : smallX x
  · simp
    refine awake_m.mono ?_
    rintro _ rfl
    simp
    refine vcRet_of [] ?_ rfl
    simp
  have hok := small_ok hs hv
  have hF := sys_fair hok
  have hr : okRuns (1 + n % 150) := ⟨by omega, by omega⟩
  have hall := hideN hok (refAllU_m hF (refQ x hok) (1 + n % 150) hr none (fun _ h => by cases h))
  have hlen := seenR_len (Y := sysX x) (f := ⟨1 + n % 150, 60, false⟩) (by dsimp only; omega)
  obtain ⟨R, hR⟩ : ∃ R, seenR (sysX x) ⟨1 + n % 150, 60, false⟩ none = R := ⟨_, rfl⟩
  rw [hR] at hall hlen
  simp
  refine effCall (runsW_m n hn) ?_
  simp
  refine effCallN hall ?_
  simp
  refine ⟨by kernel_rfl, ?_⟩
  refine ⟨fun hC1 => ⟨fun hC2 => ?_, fun _ => ?_⟩, fun _ => ?_⟩
  · have hm : which.tmod (R.outs.length : Int) = which % (R.outs.length : Int) := Int.tmod_eq_emod_of_nonneg hC2
    have hne : ¬ R.outs = [] := fun e => by rw [e] at hC1; cases hC1
    have hm1 := Int.emod_nonneg which (show (R.outs.length : Int) ≠ 0 by omega)
    have hm2 := Int.emod_lt_of_pos which (show (0 : Int) < R.outs.length by omega)
    simp [hne, hm, hm1, hm2, strC]
    generalize R.outs[(which % (R.outs.length : Int)).toNat]'(by omega) = wz
    refine ⟨by kernel_rfl, ?_⟩
    refine effCall (runsW_m n hn) ?_
    simp
    refine effCallN (hideN2 hok (findO_m hF (refQ x hok) wz (1 + n % 150) hr none (fun _ h => by cases h))) ?_
    simp
    refine ⟨by kernel_rfl, ?_⟩
    refine effCall (runsW_m n hn) ?_
    simp
    refine effCallN (hideN hok (refFindO_m hF (refQ x hok) wz (1 + n % 150) hr none (fun _ h => by cases h))) ?_
    simp
    refine ⟨by kernel_rfl, ?_⟩
    refine (sameD_m (sysX x) (1 + n % 150) wz).mono ?_
    rintro _ rfl
    by_cases hh : fdHas (sysX x) (1 + n % 150) wz = true
    · have he : fdE (sysX x) (1 + n % 150) wz = 0 := by unfold fdE; rw [if_pos hh]
      have hd : fdD (sysX x) (1 + n % 150) wz = intD (fdRun (sysX x) (1 + n % 150) wz) := by unfold fdD; rw [if_pos hh]
      obtain ⟨hl, ho⟩ := fd_legal hh
      generalize fdRun (sysX x) (1 + n % 150) wz = run at hd hl ho
      obtain ⟨v1, v2, v3, v4⟩ := legal_vals hl
      have c4 := playC hok run
      rw [v1, v2, v3, ho] at c4
      simp [he, hd]
      refine c4.mono ?_
      rintro _ rfl
      simp
      refine (hideN hok (findN_m 38 ((refQ x hok).at_ none))).mono ?_
      rintro _ rfl
      simp
      refine (hideN2 hok (findX_m hF (refQ x hok) wz (min which 0) (fun h => by have := h.1; omega) none (fun _ h => by cases h))).mono ?_
      rintro _ rfl
      simp
      refine allN_m.mono ?_
      rintro _ rfl
      simp
      refine (hideN hok (sleepX_m hF (refQ x hok) 100001 (fun h => by have := h.2; omega) none (fun _ h => by cases h))).mono ?_
      rintro _ rfl
      simp
      refine playN_m.mono ?_
      rintro _ rfl
      simp
      refine normN_m.mono ?_
      rintro _ rfl
      simp
      refine awake_m.mono ?_
      rintro _ rfl
      simp
      refine vcRet_of [] ?_ rfl
      simp
    · have he : fdE (sysX x) (1 + n % 150) wz = 4 := by unfold fdE; rw [if_neg hh]
      simp [he]
      refine (hideN hok (findN_m 38 ((refQ x hok).at_ none))).mono ?_
      rintro _ rfl
      simp
      refine (hideN2 hok (findX_m hF (refQ x hok) wz (min which 0) (fun h => by have := h.1; omega) none (fun _ h => by cases h))).mono ?_
      rintro _ rfl
      simp
      refine allN_m.mono ?_
      rintro _ rfl
      simp
      refine (hideN hok (sleepX_m hF (refQ x hok) 100001 (fun h => by have := h.2; omega) none (fun _ h => by cases h))).mono ?_
      rintro _ rfl
      simp
      refine playN_m.mono ?_
      rintro _ rfl
      simp
      refine normN_m.mono ?_
      rintro _ rfl
      simp
      refine awake_m.mono ?_
      rintro _ rfl
      simp
      refine vcRet_of [] ?_ rfl
      simp
  · -- no outcome is asked for
    refine effCall (runsW_m n hn) ?_
    simp
    refine effCallN (hideN2 hok (findO_m hF (refQ x hok) ⟨#[110, 111, 110, 101]⟩ (1 + n % 150) hr none (fun _ h => by cases h))) ?_
    simp
    refine ⟨by kernel_rfl, ?_⟩
    refine effCall (runsW_m n hn) ?_
    simp
    refine effCallN (hideN hok (refFindO_m hF (refQ x hok) ⟨#[110, 111, 110, 101]⟩ (1 + n % 150) hr none (fun _ h => by cases h))) ?_
    simp
    refine ⟨by kernel_rfl, ?_⟩
    refine (sameD_m (sysX x) (1 + n % 150) ⟨#[110, 111, 110, 101]⟩).mono ?_
    rintro _ rfl
    by_cases hh : fdHas (sysX x) (1 + n % 150) ⟨#[110, 111, 110, 101]⟩ = true
    · have he : fdE (sysX x) (1 + n % 150) ⟨#[110, 111, 110, 101]⟩ = 0 := by unfold fdE; rw [if_pos hh]
      have hd : fdD (sysX x) (1 + n % 150) ⟨#[110, 111, 110, 101]⟩ = intD (fdRun (sysX x) (1 + n % 150) ⟨#[110, 111, 110, 101]⟩) := by unfold fdD; rw [if_pos hh]
      obtain ⟨hl, ho⟩ := fd_legal hh
      generalize fdRun (sysX x) (1 + n % 150) ⟨#[110, 111, 110, 101]⟩ = run at hd hl ho
      obtain ⟨v1, v2, v3, v4⟩ := legal_vals hl
      have c4 := playC hok run
      rw [v1, v2, v3, ho] at c4
      simp [he, hd]
      refine c4.mono ?_
      rintro _ rfl
      simp
      refine (hideN hok (findN_m 38 ((refQ x hok).at_ none))).mono ?_
      rintro _ rfl
      simp
      refine (hideN2 hok (findX_m hF (refQ x hok) ⟨#[110, 111, 110, 101]⟩ (min which 0) (fun h => by have := h.1; omega) none (fun _ h => by cases h))).mono ?_
      rintro _ rfl
      simp
      refine allN_m.mono ?_
      rintro _ rfl
      simp
      refine (hideN hok (sleepX_m hF (refQ x hok) 100001 (fun h => by have := h.2; omega) none (fun _ h => by cases h))).mono ?_
      rintro _ rfl
      simp
      refine playN_m.mono ?_
      rintro _ rfl
      simp
      refine normN_m.mono ?_
      rintro _ rfl
      simp
      refine awake_m.mono ?_
      rintro _ rfl
      simp
      refine vcRet_of [] ?_ rfl
      simp
    · have he : fdE (sysX x) (1 + n % 150) ⟨#[110, 111, 110, 101]⟩ = 4 := by unfold fdE; rw [if_neg hh]
      simp [he]
      refine (hideN hok (findN_m 38 ((refQ x hok).at_ none))).mono ?_
      rintro _ rfl
      simp
      refine (hideN2 hok (findX_m hF (refQ x hok) ⟨#[110, 111, 110, 101]⟩ (min which 0) (fun h => by have := h.1; omega) none (fun _ h => by cases h))).mono ?_
      rintro _ rfl
      simp
      refine allN_m.mono ?_
      rintro _ rfl
      simp
      refine (hideN hok (sleepX_m hF (refQ x hok) 100001 (fun h => by have := h.2; omega) none (fun _ h => by cases h))).mono ?_
      rintro _ rfl
      simp
      refine playN_m.mono ?_
      rintro _ rfl
      simp
      refine normN_m.mono ?_
      rintro _ rfl
      simp
      refine awake_m.mono ?_
      rintro _ rfl
      simp
      refine vcRet_of [] ?_ rfl
      simp
  · -- no outcome is asked for
    refine effCall (runsW_m n hn) ?_
    simp
    refine effCallN (hideN2 hok (findO_m hF (refQ x hok) ⟨#[110, 111, 110, 101]⟩ (1 + n % 150) hr none (fun _ h => by cases h))) ?_
    simp
    refine ⟨by kernel_rfl, ?_⟩
    refine effCall (runsW_m n hn) ?_
    simp
    refine effCallN (hideN hok (refFindO_m hF (refQ x hok) ⟨#[110, 111, 110, 101]⟩ (1 + n % 150) hr none (fun _ h => by cases h))) ?_
    simp
    refine ⟨by kernel_rfl, ?_⟩
    refine (sameD_m (sysX x) (1 + n % 150) ⟨#[110, 111, 110, 101]⟩).mono ?_
    rintro _ rfl
    by_cases hh : fdHas (sysX x) (1 + n % 150) ⟨#[110, 111, 110, 101]⟩ = true
    · have he : fdE (sysX x) (1 + n % 150) ⟨#[110, 111, 110, 101]⟩ = 0 := by unfold fdE; rw [if_pos hh]
      have hd : fdD (sysX x) (1 + n % 150) ⟨#[110, 111, 110, 101]⟩ = intD (fdRun (sysX x) (1 + n % 150) ⟨#[110, 111, 110, 101]⟩) := by unfold fdD; rw [if_pos hh]
      obtain ⟨hl, ho⟩ := fd_legal hh
      generalize fdRun (sysX x) (1 + n % 150) ⟨#[110, 111, 110, 101]⟩ = run at hd hl ho
      obtain ⟨v1, v2, v3, v4⟩ := legal_vals hl
      have c4 := playC hok run
      rw [v1, v2, v3, ho] at c4
      simp [he, hd]
      refine c4.mono ?_
      rintro _ rfl
      simp
      refine (hideN hok (findN_m 38 ((refQ x hok).at_ none))).mono ?_
      rintro _ rfl
      simp
      refine (hideN2 hok (findX_m hF (refQ x hok) ⟨#[110, 111, 110, 101]⟩ (min which 0) (fun h => by have := h.1; omega) none (fun _ h => by cases h))).mono ?_
      rintro _ rfl
      simp
      refine allN_m.mono ?_
      rintro _ rfl
      simp
      refine (hideN hok (sleepX_m hF (refQ x hok) 100001 (fun h => by have := h.2; omega) none (fun _ h => by cases h))).mono ?_
      rintro _ rfl
      simp
      refine playN_m.mono ?_
      rintro _ rfl
      simp
      refine normN_m.mono ?_
      rintro _ rfl
      simp
      refine awake_m.mono ?_
      rintro _ rfl
      simp
      refine vcRet_of [] ?_ rfl
      simp
    · have he : fdE (sysX x) (1 + n % 150) ⟨#[110, 111, 110, 101]⟩ = 4 := by unfold fdE; rw [if_neg hh]
      simp [he]
      refine (hideN hok (findN_m 38 ((refQ x hok).at_ none))).mono ?_
      rintro _ rfl
      simp
      refine (hideN2 hok (findX_m hF (refQ x hok) ⟨#[110, 111, 110, 101]⟩ (min which 0) (fun h => by have := h.1; omega) none (fun _ h => by cases h))).mono ?_
      rintro _ rfl
      simp
      refine allN_m.mono ?_
      rintro _ rfl
      simp
      refine (hideN hok (sleepX_m hF (refQ x hok) 100001 (fun h => by have := h.2; omega) none (fun _ h => by cases h))).mono ?_
      rintro _ rfl
      simp
      refine playN_m.mono ?_
      rintro _ rfl
      simp
      refine normN_m.mono ?_
      rintro _ rfl
      simp
      refine awake_m.mono ?_
      rintro _ rfl
      simp
      refine vcRet_of [] ?_ rfl
      simp
end Go.Proofs.YtplooifpgmlofaaGreat
