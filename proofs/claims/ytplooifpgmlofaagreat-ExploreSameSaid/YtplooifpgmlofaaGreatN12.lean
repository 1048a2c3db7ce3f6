/- The player. No condition. -/
import Derived.Test.YtplooifpgmlofaaGreatN11
import Derived.Test.YtplooifpgmlofaaGreatN4
namespace Go.Proofs.YtplooifpgmlofaaGreat
open Go.RowKit
open Lo (Sy Lk Qu onLock onQueue addS lockF unlockF rlockF runlockF sendF recvF shutF recvV recvB thereS chk Fits)

structure Ins where
  op : Int
  obj : Int
  val : Int
instance : Inhabited Ins := ⟨⟨0, 0, 0⟩⟩
@[simp] def Ins.ds (x : Ins) : List D := [.v (.int .i64 x.op), .v (.int .i64 x.obj), .v (.int .i64 x.val)]
@[simp] def Ins.pv (x : Ins) : PV := .agg [.i x.op, .i x.obj, .i x.val]
@[simp] def insD (l : List Ins) : D := .sl 3 (l.map Ins.ds)
abbrev Prg := List Ins
@[simp] def prgC (p : Prg) : List D := [insD p]
@[simp] def prgsD (l : List Prg) : D := .sl 1 (l.map prgC)
structure Tk where
  id : Int
  kind : Int
  pc : Int
  a : Int
instance : Inhabited Tk := ⟨⟨0, 0, 0, 0⟩⟩
@[simp] def Tk.ds (t : Tk) : List D := [.v (.int .i64 t.id), .v (.int .i64 t.kind), .v (.int .i64 t.pc), .v (.int .i64 t.a), .v (.int .i64 0), .v (.int .i64 0), .v (.int .i64 0)]
@[simp] def Tk.pv (t : Tk) : PV := .agg [.i t.id, .i t.kind, .i t.pc, .i t.a, .i 0, .i 0, .i 0]
abbrev Wa := Lo.Wt
instance : Inhabited Wa := ⟨⟨0, 0, 0⟩⟩
@[simp] def waC (w : Wa) : List D := [.v (.int .i64 w.kind), .v (.int .i64 w.obj), .v (.int .i64 w.til)]
@[simp] def waP (w : Wa) : PV := .agg [.i w.kind, .i w.obj, .i w.til]
structure Rc where
  task : Int
  val : Int
  err : Int
instance : Inhabited Rc := ⟨⟨0, 0, 0⟩⟩
@[simp] def Rc.ds (r : Rc) : List D := [.v (.int .i64 r.task), .v (.int .i64 r.val), .v (.int .i64 r.err)]
@[simp] def Rc.pv (r : Rc) : PV := .agg [.i r.task, .i r.val, .i r.err]
structure Bn where
  s : Sy
  rs : List Rc
@[simp] def bnO (b : Bn) (ps : List Prg) (k : Nat) : MObj := .box 115 [.d (Lo.lks b.s.locks), .d (Lo.qus b.s.queues), .d (Lo.il b.s.groups), .i 0, .d (prgsD ps), .rw k b.rs.length]
@[simp] def rcO (b : Bn) : MObj := .row 149 3 (b.rs.map Rc.ds) false

def noteB (b : Bn) (task v : Int) : Bn := ⟨b.s, b.rs ++ [⟨task, v, 0⟩]⟩
def actB (b : Bn) (task : Int) (x : Ins) : Bn × Int :=
  if x.op = 0 then (noteB b task x.val, 0)
  else if x.op = 1 then (⟨(onLock b.s x.obj task (lockF task)).1, b.rs⟩, (onLock b.s x.obj task (lockF task)).2)
  else if x.op = 2 then (⟨(onLock b.s x.obj task (unlockF task)).1, b.rs⟩, (onLock b.s x.obj task (unlockF task)).2)
  else if x.op = 3 then (⟨(onLock b.s x.obj task (rlockF task)).1, b.rs⟩, (onLock b.s x.obj task (rlockF task)).2)
  else if x.op = 4 then (⟨(onLock b.s x.obj task (runlockF task)).1, b.rs⟩, (onLock b.s x.obj task (runlockF task)).2)
  else if x.op = 5 then (⟨(onQueue b.s x.obj (sendF x.val)).1, b.rs⟩, (onQueue b.s x.obj (sendF x.val)).2)
  else if x.op = 6 then (⟨(onQueue b.s x.obj recvF).1, if (onQueue b.s x.obj recvF).2 = 0 then b.rs ++ [⟨task, if recvB b.s x.obj then recvV b.s x.obj else -1, 0⟩] else b.rs⟩, (onQueue b.s x.obj recvF).2)
  else if x.op = 7 then (⟨(onQueue b.s x.obj shutF).1, b.rs⟩, (onQueue b.s x.obj shutF).2)
  else if x.op = 8 then (⟨(addS b.s x.obj x.val).1, b.rs⟩, (addS b.s x.obj x.val).2)
  else if x.op = 9 then (⟨(addS b.s x.obj (-1)).1, b.rs⟩, (addS b.s x.obj (-1)).2)
  else (b, 0)
def waitB (x : Ins) : Wa :=
  if x.op = 1 then ⟨3, x.obj, 0⟩ else if x.op = 3 then ⟨3, x.obj, 1⟩ else if x.op = 5 then ⟨5, x.obj, 0⟩ else if x.op = 6 then ⟨4, x.obj, 0⟩ else if x.op = 10 then ⟨6, x.obj, 0⟩ else ⟨0, 0, 0⟩
def insOk (x : Ins) : Prop := 0 ≤ x.op ∧ x.op ≤ 14 ∧ x.op ≠ 11 ∧ x.op ≠ 12 ∧ x.op ≠ 13
def endW : Wa := ⟨2, 0, 0⟩
def stepB (b : Bn) (ps : List Prg) (t : Tk) : Bn × Tk × Wa :=
  match ps[t.kind.toNat]? with
  | none => (b, t, endW)
  | some l =>
    if t.a = 0 then (b, { t with a := 1 }, match l[t.pc.toNat]? with
      | some x => waitB x
      | none => endW)
    else match l[t.pc.toNat]? with
      | none => (b, t, endW)
      | some x =>
        if (actB b t.id x).2 ≠ 0 then (⟨(actB b t.id x).1.s, (actB b t.id x).1.rs ++ [⟨t.id, 0, (actB b t.id x).2⟩]⟩, { t with pc := t.pc + 1 }, endW)
        else ((actB b t.id x).1, { t with pc := t.pc + 1 }, match l[t.pc.toNat + 1]? with
          | some y => waitB y
          | none => endW)
def enabledB (b : Bn) (w : Wa) : Bool := decide ((thereS b.s w).2 = 0) && (thereS b.s w).1
def usesI (x : Ins) : Fp :=
  if x.op = 1 ∨ x.op = 2 then [⟨x.obj, true⟩]
  else if x.op = 3 ∨ x.op = 4 then [⟨x.obj, false⟩]
  else if x.op = 5 ∨ x.op = 6 ∨ x.op = 7 then [⟨IntKind.i64.wrap (100 + x.obj), true⟩]
  else if x.op = 8 ∨ x.op = 9 then [⟨IntKind.i64.wrap (200 + x.obj), true⟩]
  else if x.op = 10 then [⟨IntKind.i64.wrap (200 + x.obj), false⟩]
  else []

structure Pl where
  b : Bn
  ts : List Tk
  ws : List Wa
def startTo (b : Bn) (ps : List Prg) : Nat → Pl
  | 0 => ⟨b, [], []⟩
  | k + 1 => ⟨b, (startTo b ps k).ts ++ [(stepB b ps ⟨k + 1, k, 0, 0⟩).2.1], (startTo b ps k).ws ++ [(stepB b ps ⟨k + 1, k, 0, 0⟩).2.2]⟩
structure Sx where
  s : Sy
  ps : List Prg
def startX (x : Sx) : Pl := startTo ⟨x.s, []⟩ x.ps x.ps.length
def stepX (x : Sx) (q : Pl) (t : Int) : Pl :=
  match q.ts[(t - 1).toNat]? with
  | some k => ⟨(stepB q.b x.ps k).1, q.ts.set (t - 1).toNat (stepB q.b x.ps k).2.1, q.ws.set (t - 1).toNat (stepB q.b x.ps k).2.2⟩
  | none => q
def atX (x : Sx) (p : List Int) : Pl := p.foldl (stepX x) (startX x)
def canX (b : Bn) (w : Wa) : Bool := decide (w.kind = 0) || (!decide (w.kind = 2) && enabledB b w)
def enTo (q : Pl) : Nat → List Int
  | 0 => []
  | k + 1 => match q.ws[k]? with
    | some w => if canX q.b w then enTo q k ++ [((k : Int) + 1)] else enTo q k
    | none => enTo q k
def footX (x : Sx) (q : Pl) (t : Int) : Fp :=
  match q.ts[(t - 1).toNat]? with
  | some k => match (x.ps.getD k.kind.toNat [])[k.pc.toNat]? with
    | some i => usesI i
    | none => []
  | none => []
def doneX (q : Pl) : Bool := q.ws.all fun w => decide (w.kind = 2)
end Go.Proofs.YtplooifpgmlofaaGreat
namespace Go.Proofs.YtplooifpgmlofaaGreat
open Go.RowKit
open Lo (Sy Lk Qu onLock onQueue addS lockF unlockF rlockF runlockF sendF recvF shutF recvV recvB thereS chk Fits)

theorem uses_m (x : Ins) : Meets Tryz.prog 56 [x.pv] [] (Ret (.d (fpD (usesI x)))) := by
  refine meets tbROk mixed Tryz.func56 pl56 rfl rfl ?_
  by_cases h1 : x.op = 1
  · simp [Tryz.ntmps56, h1]; refine vcRet_of [] ?_ rfl; simp [usesI, h1]
  by_cases h2 : x.op = 2
  · simp [Tryz.ntmps56, h2]; refine vcRet_of [] ?_ rfl; simp [usesI, h2]
  by_cases h3 : x.op = 3
  · simp [Tryz.ntmps56, h3]; refine vcRet_of [] ?_ rfl; simp [usesI, h3]
  by_cases h4 : x.op = 4
  · simp [Tryz.ntmps56, h4]; refine vcRet_of [] ?_ rfl; simp [usesI, h4]
  by_cases h5 : x.op = 5
  · simp [Tryz.ntmps56, h5]; refine vcRet_of [] ?_ rfl; simp [usesI, h5]
  by_cases h6 : x.op = 6
  · simp [Tryz.ntmps56, h6]; refine vcRet_of [] ?_ rfl; simp [usesI, h6]
  by_cases h7 : x.op = 7
  · simp [Tryz.ntmps56, h7]; refine vcRet_of [] ?_ rfl; simp [usesI, h7]
  by_cases h8 : x.op = 8
  · simp [Tryz.ntmps56, h8]; refine vcRet_of [] ?_ rfl; simp [usesI, h8]
  by_cases h9 : x.op = 9
  · simp [Tryz.ntmps56, h9]; refine vcRet_of [] ?_ rfl; simp [usesI, h9]
  by_cases h10 : x.op = 10
  · simp [Tryz.ntmps56, h10]; refine vcRet_of [] ?_ rfl; simp [usesI, h10]
  simp [Tryz.ntmps56, h1, h2, h3, h4, h5, h6, h7, h8, h9, h10]
  refine vcRet_of [] ?_ rfl
  simp [usesI, h1, h2, h3, h4, h5, h6, h7, h8, h9, h10]
theorem wait_m (x : Ins) (hx : insOk x) (b : Bn) (ps : List Prg) : Meets Tryz.prog 71 [.ptr 1000000 0, x.pv] [bnO b ps 1000001, rcO b] (fun r => r = ⟨waP (waitB x), [bnO b ps 1000001, rcO b], []⟩) := by
  obtain ⟨g1, g2, g3, g4, g5⟩ := hx
  refine meets tbROk mixed Tryz.func71 pl71 rfl rfl ?_
  by_cases h1 : x.op = 1
  · simp [Tryz.ntmps71, h1]; refine vcRet_of [] ?_ rfl; simp [waitB, h1]
  by_cases h3 : x.op = 3
  · simp [Tryz.ntmps71, h3]; refine vcRet_of [] ?_ rfl; simp [waitB, h3]
  by_cases h5 : x.op = 5
  · simp [Tryz.ntmps71, h5]; refine vcRet_of [] ?_ rfl; simp [waitB, h5]
  by_cases h6 : x.op = 6
  · simp [Tryz.ntmps71, h6]; refine vcRet_of [] ?_ rfl; simp [waitB, h6]
  by_cases h10 : x.op = 10
  · simp [Tryz.ntmps71, h10]; refine vcRet_of [] ?_ rfl; simp [waitB, h10]
  simp [Tryz.ntmps71, h1, h3, h5, h6, h10, g3, g5]
  refine vcRet_of [] ?_ rfl
  simp [waitB, h1, h3, h5, h6, h10]
@[simp] def rcG (g : Bool) (b : Bn) : MObj := if g then .grown 149 3 (b.rs.map Rc.ds) else .row 149 3 (b.rs.map Rc.ds) false
theorem note_m (b : Bn) (hl : b.rs.length < 100000) (ps : List Prg) (task v : Int) : Meets Tryz.prog 88 [.ptr 1000000 0, .i task, .i v] [bnO b ps 1000001, rcO b] (fun r => r = ⟨unitV, [bnO (noteB b task v) ps 1000001, rcG true (noteB b task v)], []⟩) := by
  refine meets tbROk mixed Tryz.func88 pl88 rfl rfl ?_
  simp [Tryz.ntmps88]
  refine ⟨by omega, vcRet_of [] ?_ rfl⟩
  simp [noteB]
end Go.Proofs.YtplooifpgmlofaaGreat
namespace Go.Proofs.YtplooifpgmlofaaGreat
open Go.RowKit
open Lo (Sy Lk Qu onLock onQueue addS lockF unlockF rlockF runlockF sendF recvF shutF recvV recvB thereS chk Fits)

inductive BnR (v : PV) (b : Bn) (ps : List Prg) : Res → Prop
  | mk (g : Bool) : BnR v b ps ⟨v, [bnO b ps 1000001, rcG g b], []⟩
def grewB (b : Bn) (x : Ins) : Bool := decide (x.op = 0) || (decide (x.op = 6) && decide ((onQueue b.s x.obj recvF).2 = 0))
abbrev nilD : PV := .d (.v (.slice none 0 0))
set_option maxRecDepth 100000 in
set_option maxHeartbeats 4000000 in
theorem act_m (b : Bn) (hf : Fits b.s) (hl : b.rs.length < 100000) (ps : List Prg) (task : Int) (x : Ins) (hx : insOk x) :
    Meets Tryz.prog 72 [.ptr 1000000 0, .i task, x.pv] [bnO b ps 1000001, rcO b] (fun r => r = ⟨.tup [nilD, .i (actB b task x).2], [bnO (actB b task x).1 ps 1000001, rcG (grewB b x) (actB b task x).1], []⟩) := by
  obtain ⟨g1, g2, g3, g4, g5⟩ := hx
  refine meets tbROk mixed Tryz.func72 pl72 rfl rfl ?_
  by_cases h0 : x.op = 0
  · have hg : grewB b x = true := by simp [grewB, h0]
    have hb : actB b task x = (noteB b task x.val, 0) := if_pos h0
    simp [Tryz.ntmps72, h0]
    refine (note_m b hl ps task x.val).mono ?_
    rintro _ rfl
    simp [noteB]
    refine vcRet_of [] ?_ rfl
    simp [hb, hg, noteB]
  by_cases h1 : x.op = 1
  · have hg : grewB b x = false := by simp [grewB, h1]
    have hb : actB b task x = (⟨(onLock b.s x.obj task (lockF task)).1, b.rs⟩, (onLock b.s x.obj task (lockF task)).2) := by simp [actB, h1]
    simp [Tryz.ntmps72, h1]
    refine effCall (Lo.refLock_m b.s hf x.obj task) ?_
    simp
    refine ⟨by kernel_rfl, vcRet_of [] ?_ rfl⟩
    simp [hb, hg]
  by_cases h2 : x.op = 2
  · have hg : grewB b x = false := by simp [grewB, h2]
    have hb : actB b task x = (⟨(onLock b.s x.obj task (unlockF task)).1, b.rs⟩, (onLock b.s x.obj task (unlockF task)).2) := by simp [actB, h2]
    simp [Tryz.ntmps72, h2]
    refine effCall (Lo.refUnlock_m b.s hf x.obj task) ?_
    simp
    refine ⟨by kernel_rfl, vcRet_of [] ?_ rfl⟩
    simp [hb, hg]
  by_cases h3 : x.op = 3
  · have hg : grewB b x = false := by simp [grewB, h3]
    have hb : actB b task x = (⟨(onLock b.s x.obj task (rlockF task)).1, b.rs⟩, (onLock b.s x.obj task (rlockF task)).2) := by simp [actB, h3]
    simp [Tryz.ntmps72, h3]
    refine effCall (Lo.refRLock_m b.s hf x.obj task) ?_
    simp
    refine ⟨by kernel_rfl, vcRet_of [] ?_ rfl⟩
    simp [hb, hg]
  by_cases h4 : x.op = 4
  · have hg : grewB b x = false := by simp [grewB, h4]
    have hb : actB b task x = (⟨(onLock b.s x.obj task (runlockF task)).1, b.rs⟩, (onLock b.s x.obj task (runlockF task)).2) := by simp [actB, h4]
    simp [Tryz.ntmps72, h4]
    refine effCall (Lo.refRUnlock_m b.s hf x.obj task) ?_
    simp
    refine ⟨by kernel_rfl, vcRet_of [] ?_ rfl⟩
    simp [hb, hg]
  by_cases h5 : x.op = 5
  · have hg : grewB b x = false := by simp [grewB, h5]
    have hb : actB b task x = (⟨(onQueue b.s x.obj (sendF x.val)).1, b.rs⟩, (onQueue b.s x.obj (sendF x.val)).2) := by simp [actB, h5]
    simp [Tryz.ntmps72, h5]
    refine effCall (Lo.refSend_m b.s hf x.obj x.val) ?_
    simp
    refine ⟨by kernel_rfl, vcRet_of [] ?_ rfl⟩
    simp [hb, hg]
  by_cases h6 : x.op = 6
  · have hb : actB b task x = (⟨(onQueue b.s x.obj recvF).1, if (onQueue b.s x.obj recvF).2 = 0 then b.rs ++ [⟨task, if recvB b.s x.obj then recvV b.s x.obj else -1, 0⟩] else b.rs⟩, (onQueue b.s x.obj recvF).2) := by simp [actB, h6]
    obtain ⟨S, e, hS⟩ : ∃ S e, onQueue b.s x.obj recvF = (S, e) := ⟨_, _, rfl⟩
    have hr := Lo.refRecv_m b.s hf x.obj
    have hg : grewB b x = decide (e = 0) := by simp [grewB, h6, hS]
    rw [hS] at hb hr
    simp only at hb hr
    simp [Tryz.ntmps72, h6]
    refine effCall hr ?_
    by_cases he : e = 0
    · cases hv : recvB b.s x.obj
      · rw [if_pos he, hv] at hb
        simp [he]
        refine ⟨by kernel_rfl, ?_⟩
        refine (note_m ⟨S, b.rs⟩ hl ps task (-1)).mono ?_
        rintro _ rfl
        simp [noteB]
        refine vcRet_of [] ?_ rfl
        simp [hb, hg, he]
      · rw [if_pos he, hv] at hb
        simp [he]
        refine ⟨by kernel_rfl, ?_⟩
        refine (note_m ⟨S, b.rs⟩ hl ps task (recvV b.s x.obj)).mono ?_
        rintro _ rfl
        simp [noteB]
        refine vcRet_of [] ?_ rfl
        simp [hb, hg, he]
    · rw [if_neg he] at hb
      simp [he]
      refine ⟨by kernel_rfl, vcRet_of [] ?_ rfl⟩
      simp [hb, hg, he]
  by_cases h7 : x.op = 7
  · have hg : grewB b x = false := by simp [grewB, h7]
    have hb : actB b task x = (⟨(onQueue b.s x.obj shutF).1, b.rs⟩, (onQueue b.s x.obj shutF).2) := by simp [actB, h7]
    simp [Tryz.ntmps72, h7]
    refine effCall (Lo.refShut_m b.s hf x.obj) ?_
    simp
    refine ⟨by kernel_rfl, vcRet_of [] ?_ rfl⟩
    simp [hb, hg]
  by_cases h8 : x.op = 8
  · have hg : grewB b x = false := by simp [grewB, h8]
    have hb : actB b task x = (⟨(addS b.s x.obj x.val).1, b.rs⟩, (addS b.s x.obj x.val).2) := by simp [actB, h8]
    simp [Tryz.ntmps72, h8]
    refine effCall (Lo.refAdd_m b.s hf x.obj x.val) ?_
    simp
    refine ⟨by kernel_rfl, vcRet_of [] ?_ rfl⟩
    simp [hb, hg]
  by_cases h9 : x.op = 9
  · have hg : grewB b x = false := by simp [grewB, h9]
    have hb : actB b task x = (⟨(addS b.s x.obj (-1)).1, b.rs⟩, (addS b.s x.obj (-1)).2) := by simp [actB, h9]
    simp [Tryz.ntmps72, h9]
    refine effCall (Lo.refAdd_m b.s hf x.obj (-1)) ?_
    simp
    refine ⟨by kernel_rfl, vcRet_of [] ?_ rfl⟩
    simp [hb, hg]
  have hg : grewB b x = false := by simp [grewB, h0, h6]
  have hb : actB b task x = (b, 0) := by simp [actB, h0, h1, h2, h3, h4, h5, h6, h7, h8, h9]
  simp [Tryz.ntmps72, h0, h1, h2, h3, h4, h5, h6, h7, h8, h9, g4]
  refine vcRet_of [] ?_ rfl
  simp [hb, hg]
end Go.Proofs.YtplooifpgmlofaaGreat
namespace Go.Proofs.YtplooifpgmlofaaGreat
open Go.RowKit
open Lo (Sy Lk Qu onLock onQueue addS lockF unlockF rlockF runlockF sendF recvF shutF recvV recvB thereS chk Fits)

structure PsOk (ps : List Prg) : Prop where
  many : ps.length ≤ 16
  len : ∀ l ∈ ps, l.length ≤ 60
  ins : ∀ l ∈ ps, ∀ x ∈ l, insOk x
def grewS (b : Bn) (ps : List Prg) (t : Tk) : Bool := match ps[t.kind.toNat]? with
  | none => false
  | some l => if t.a = 0 then false else match l[t.pc.toNat]? with
    | none => false
    | some x => !decide ((actB b t.id x).2 = 0) || grewB b x
theorem actB_len (b : Bn) (task : Int) (x : Ins) : (actB b task x).1.rs.length ≤ b.rs.length + 1 := by
  unfold actB
  repeat' split
  all_goals (first | exact Nat.le_succ _ | (simp [noteB]; done) | (dsimp only; split <;> simp))
set_option maxRecDepth 100000 in
set_option maxHeartbeats 4000000 in
theorem bstep_m (b : Bn) (hf : Fits b.s) (hl : b.rs.length < 90000) (ps : List Prg) (hp : PsOk ps) (t : Tk) (k : Nat) (hk : t.kind = k) (pc : Nat) (hpc : t.pc = pc) (l : Prg) (hkl : ps[k]? = some l) (hpl : pc ≤ l.length) (ha : t.a = 0 ∨ t.a = 1) :
    Meets Tryz.prog 55 [.ptr 1000000 0, t.pv] [bnO b ps 1000001, rcO b] (fun r => r = ⟨.tup [(stepB b ps t).2.1.pv, waP (stepB b ps t).2.2, nilD], [bnO (stepB b ps t).1 ps 1000001, rcG (grewS b ps t) (stepB b ps t).1], []⟩) := by
  obtain ⟨id, kind, pc', a⟩ := t
  simp only at hk hpc ha
  subst hk hpc
  have n0 : ¬ (pc : Int) < 0 := by omega
  have n1 : ¬ (k : Int) < 0 := by omega
  have hlm := List.mem_of_getElem? hkl
  have hl60 := hp.len l hlm
  obtain ⟨hk1, hk2⟩ := List.getElem?_eq_some_iff.1 hkl
  have hsb : stepB b ps ⟨id, k, pc, a⟩ = if a = 0 then (b, (⟨id, k, pc, 1⟩ : Tk), match l[pc]? with
      | some x => waitB x
      | none => endW)
    else match l[pc]? with
      | none => (b, ⟨id, k, pc, a⟩, endW)
      | some x =>
        if (actB b id x).2 ≠ 0 then (⟨(actB b id x).1.s, (actB b id x).1.rs ++ [⟨id, 0, (actB b id x).2⟩]⟩, ⟨id, k, pc + 1, a⟩, endW)
        else ((actB b id x).1, ⟨id, k, pc + 1, a⟩, match l[pc + 1]? with
          | some y => waitB y
          | none => endW) := by
    simp [stepB, hkl] <;> rfl
  have hgs : grewS b ps ⟨id, k, pc, a⟩ = if a = 0 then false else match l[pc]? with
      | none => false
      | some x => !decide ((actB b id x).2 = 0) || grewB b x := by
    simp [grewS, hkl]
  refine meetsP [] tbROk mixed Tryz.func55 pl55 rfl rfl ?_
  rcases ha with rfl | rfl
  · by_cases hlt : pc < l.length
    · obtain ⟨x, hx, e⟩ := at_lt hlt
      rw [if_pos rfl, hx] at hsb
      rw [if_pos rfl] at hgs
      simp [Tryz.ntmps55, hk1, hk2, hlt, e]
      refine ⟨by kernel_rfl, by kernel_rfl, ?_⟩
      refine effCall (wait_m x (hp.ins l hlm x (List.mem_of_getElem? hx)) b ps) ?_
      simp
      refine ⟨by kernel_rfl, vcRet_of [] ?_ rfl⟩
      simp [hsb, hgs]
    · have hn : l[pc]? = none := List.getElem?_eq_none (by omega)
      rw [if_pos rfl, hn] at hsb
      rw [if_pos rfl] at hgs
      simp [Tryz.ntmps55, hk1, hk2, hlt]
      refine ⟨by kernel_rfl, by kernel_rfl, by kernel_rfl, vcRet_of [] ?_ rfl⟩
      simp [hsb, hgs, endW]
  · by_cases hlt : pc < l.length
    · obtain ⟨x, hx, e⟩ := at_lt hlt
      have hxo := hp.ins l hlm x (List.mem_of_getElem? hx)
      have hw1 : IntKind.i64.wrap ((pc : Int) + 1) = (pc : Int) + 1 := wrap_in (by omega)
      have hnl : ¬ l.length ≤ pc := by omega
      rw [if_neg (by decide), hx] at hsb
      rw [if_neg (by decide), hx] at hgs
      simp only at hsb hgs
      simp [Tryz.ntmps55, hk1, hk2, hlt, hnl, e, n0]
      refine ⟨by kernel_rfl, by kernel_rfl, by kernel_rfl, ?_⟩
      have hact := act_m b hf (by omega) ps id x hxo
      obtain ⟨b1, e1, hA⟩ : ∃ b1 e1, actB b id x = (b1, e1) := ⟨_, _, rfl⟩
      have hb1 : b1.rs.length ≤ b.rs.length + 1 := by have := actB_len b id x; rw [hA] at this; exact this
      rw [hA] at hact hsb hgs
      simp only at hact hsb hgs
      refine effCallN hact ?_
      cases hg : grewB b x
      · by_cases he : e1 = 0
        · rw [if_neg (by simpa using he)] at hsb
          by_cases hlt2 : pc + 1 < l.length
          · obtain ⟨y, hy, e2⟩ := at_lt hlt2
            rw [hy] at hsb
            have hyo := hp.ins l hlm y (List.mem_of_getElem? hy)
            have hnl2 : ¬ (l.length : Int) ≤ pc + 1 := by omega
            have hl2' : (pc : Int) + 1 < l.length := by omega
            have hp1 : (0 : Int) ≤ pc + 1 := by omega
            simp [he, hw1, hnl2, hy, hl2', hp1]
            refine ⟨by kernel_rfl, ?_⟩
            refine effCall (wait_m y hyo b1 ps) ?_
            simp
            refine ⟨by kernel_rfl, vcRet_of [] ?_ rfl⟩
            simp [hsb, hgs, hg, he]
          · have hnl2 : (l.length : Int) ≤ pc + 1 := by omega
            rw [List.getElem?_eq_none (by omega)] at hsb
            simp [he, hw1, hnl2]
            refine ⟨by kernel_rfl, by kernel_rfl, vcRet_of [] ?_ rfl⟩
            simp [hsb, hgs, hg, he, endW]
        · rw [if_pos he] at hsb
          simp [he, hw1]
          refine ⟨by kernel_rfl, by omega, by kernel_rfl, by kernel_rfl, vcRet_of [] ?_ rfl⟩
          simp [hsb, hgs, hg, he, endW]
      · by_cases he : e1 = 0
        · rw [if_neg (by simpa using he)] at hsb
          by_cases hlt2 : pc + 1 < l.length
          · obtain ⟨y, hy, e2⟩ := at_lt hlt2
            rw [hy] at hsb
            have hyo := hp.ins l hlm y (List.mem_of_getElem? hy)
            have hnl2 : ¬ (l.length : Int) ≤ pc + 1 := by omega
            have hl2' : (pc : Int) + 1 < l.length := by omega
            have hp1 : (0 : Int) ≤ pc + 1 := by omega
            simp [he, hw1, hnl2, hy, hl2', hp1]
            refine ⟨by kernel_rfl, ?_⟩
            refine effCall (wait_m y hyo b1 ps) ?_
            simp
            refine ⟨by kernel_rfl, vcRet_of [] ?_ rfl⟩
            simp [hsb, hgs, hg, he]
          · have hnl2 : (l.length : Int) ≤ pc + 1 := by omega
            rw [List.getElem?_eq_none (by omega)] at hsb
            simp [he, hw1, hnl2]
            refine ⟨by kernel_rfl, by kernel_rfl, vcRet_of [] ?_ rfl⟩
            simp [hsb, hgs, hg, he, endW]
        · rw [if_pos he] at hsb
          simp [he, hw1]
          refine ⟨by kernel_rfl, by omega, by kernel_rfl, by kernel_rfl, vcRet_of [] ?_ rfl⟩
          simp [hsb, hgs, hg, he, endW]
    · have hn : l[pc]? = none := List.getElem?_eq_none (by omega)
      have hnl : l.length ≤ pc := by omega
      rw [if_neg (by decide), hn] at hsb
      rw [if_neg (by decide), hn] at hgs
      simp only at hsb hgs
      simp [Tryz.ntmps55, hk1, hk2, hnl, n0]
      refine ⟨by kernel_rfl, by kernel_rfl, by kernel_rfl, vcRet_of [] ?_ rfl⟩
      simp [hsb, hgs, endW]
end Go.Proofs.YtplooifpgmlofaaGreat
namespace Go.Proofs.YtplooifpgmlofaaGreat
open Go.RowKit
open Lo (Sy Lk Qu onLock onQueue addS lockF unlockF rlockF runlockF sendF recvF shutF recvV recvB thereS chk Fits)

theorem noneTo_anyP {α : Type} {p : α → Bool} {xs : List α} (h : noneTo p xs xs.length) : xs.any p = false := by
  rw [List.any_eq_false]
  intro x hx
  obtain ⟨i, hi, rfl⟩ := List.mem_iff_getElem.1 hx
  rw [h i xs[i] hi (List.getElem?_eq_getElem hi)]
  simp
theorem any_hitP {α : Type} {p : α → Bool} {xs : List α} {k : Nat} {x : α} (hx : xs[k]? = some x) (hp : p x = true) : xs.any p = true := List.any_eq_true.2 ⟨x, List.mem_of_getElem? hx, hp⟩
set_option maxRecDepth 100000 in
theorem benabled_m (b : Bn) (hf : Fits b.s) (hc : chk b.s = 0) (ps : List Prg) (t : Tk) (w : Wa) (hw : w.kind ≠ 7) : Meets Tryz.prog 69 [.ptr 1000000 0, t.pv, waP w] [bnO b ps 1000001, rcO b] (fun r => r = ⟨.b (enabledB b w), [bnO b ps 1000001, rcO b], []⟩) := by
  refine meets tbROk mixed Tryz.func69 pl69 rfl rfl ?_
  obtain ⟨ib, e, hT⟩ : ∃ ib e, thereS b.s w = (ib, e) := ⟨_, _, rfl⟩
  have hr := Lo.refThere0_m b.s hf hc w
  rw [hT] at hr
  have he : enabledB b w = (decide (e = 0) && ib) := by unfold enabledB; rw [hT]
  rw [he]
  simp [Tryz.ntmps69, hw]
  refine effCall hr ?_
  by_cases h0 : e = 0
  · simp [h0]
    refine ⟨by kernel_rfl, vcRet_of [] ?_ rfl⟩
    simp
  · simp [h0]
    refine ⟨by kernel_rfl, vcRet_of [] ?_ rfl⟩
    simp
def prgLong (l : Prg) : Bool := decide (60 < l.length)
def insBad (x : Ins) : Bool := !(decide (0 ≤ x.op) && decide (x.op ≤ 14))
def newE (s : Sy) (ps : List Prg) : Int := if chk s ≠ 0 then chk s else if 16 < ps.length then 3 else if ps.any prgLong then 3 else if ps.any (fun l => l.any insBad) then 2 else 0
inductive NewR (s : Sy) (ps : List Prg) : Res → Prop
  | yes (h : newE s ps = 0) : NewR s ps ⟨.tup [.ptr 2000000 0, .i 0], [], [.box 115 [.d (Lo.lks s.locks), .d (Lo.qus s.queues), .d (Lo.il s.groups), .i 0, .d (prgsD ps), .d (.v (.slice none 0 0))]]⟩
  | no (e : Int) (h : newE s ps = e) (h0 : e ≠ 0) : NewR s ps ⟨.tup [.d (.v (.pointer none)), .i e], [], []⟩
set_option maxRecDepth 100000 in
set_option maxHeartbeats 2000000 in
theorem newBench_m (s : Sy) (hf : Lo.Wide s) (ps : List Prg) : Meets Tryz.prog 20 [s.pv, .d (prgsD ps)] [] (NewR s ps) := by
  refine meets tbROk mixed Tryz.func20 pl20 rfl rfl ?_
  simp [Tryz.ntmps20]
  refine (Lo.refCheck_m s hf).mono ?_
  rintro _ rfl
  by_cases h0 : chk s = 0
  case neg =>
    simp [h0]
    refine vcRet_of [] ?_ (.no (chk s) (by simp [newE, h0]) h0)
    simp
  by_cases h1 : (16 : Int) < ps.length
  · simp [h0, h1]
    refine vcRet_of [] ?_ (.no 3 (by simp [newE, h0, show 16 < ps.length by omega]) (by decide))
    simp
  have h16 : ¬ 16 < ps.length := by omega
  simp [h0, h1]
  refine vc_loop (fun n σ => ∃ k : Nat, n = ps.length - k ∧ k ≤ ps.length ∧ noneTo prgLong ps k ∧ σ = ⟨62, [(7, .i k), (1, .d (prgsD ps)), (2, .ptr 2 0)], [(2, .box 26 [.d (Lo.lks s.locks), .d (Lo.qus s.queues), .d (Lo.il s.groups)])]⟩) ⟨_, _, ⟨0, rfl, Nat.zero_le _, noneTo_zero _ _, rfl⟩, [], _, rfl, by simp⟩ ?_
  rintro n σ ⟨k, rfl, hk, hn, rfl⟩
  by_cases hlt : k < ps.length
  · obtain ⟨l, hl, e⟩ := at_lt hlt
    by_cases h60 : (60 : Int) < l.length
    · have hlong : prgLong l = true := decide_eq_true (by omega)
      simp [hlt, e, h60]
      refine vcRet_of [] ?_ (.no 3 (by simp [newE, h0, h16, any_hitP hl hlong]) (by decide))
      simp
    · have hlong : prgLong l = false := decide_eq_false (by omega)
      simp [hlt, e, h60, wrap_succ hlt (show ps.length < 4294967296 by omega)]
      exact ⟨_, by omega, _, ⟨k + 1, rfl, hlt, noneTo_succ hn hl hlong, rfl⟩, [], _, rfl, by simp⟩
  obtain rfl : k = ps.length := by omega
  have hshort := noneTo_anyP hn
  have hsl : ∀ l ∈ ps, l.length ≤ 60 := fun l hl => by
    have := List.any_eq_false.1 hshort l hl
    unfold prgLong at this
    simp at this
    exact this
  simp
  refine vc_loop (fun n σ => ∃ k : Nat, n = ps.length - k ∧ k ≤ ps.length ∧ noneTo (fun l => l.any insBad) ps k ∧ σ = ⟨62, [(8, .i k), (1, .d (prgsD ps)), (2, .ptr 2 0)], [(2, .box 26 [.d (Lo.lks s.locks), .d (Lo.qus s.queues), .d (Lo.il s.groups)])]⟩) ⟨_, _, ⟨0, rfl, Nat.zero_le _, noneTo_zero _ _, rfl⟩, [], _, rfl, by simp⟩ ?_
  rintro n σ ⟨i, rfl, hi, hn1, rfl⟩
  by_cases hlt : i < ps.length
  · obtain ⟨l, hl, e⟩ := at_lt hlt
    have hl60 := hsl l (List.mem_of_getElem? hl)
    simp [hlt]
    refine vc_loop (fun n σ => ∃ k : Nat, n = l.length - k ∧ k ≤ l.length ∧ noneTo insBad l k ∧ σ = ⟨62, [(9, .i k), (8, .i i), (1, .d (prgsD ps)), (2, .ptr 2 0)], [(2, .box 26 [.d (Lo.lks s.locks), .d (Lo.qus s.queues), .d (Lo.il s.groups)])]⟩) ⟨_, _, ⟨0, rfl, Nat.zero_le _, noneTo_zero _ _, rfl⟩, [], _, rfl, by simp⟩ ?_
    rintro n σ ⟨k, rfl, hk, hn2, rfl⟩
    by_cases hlt2 : k < l.length
    · obtain ⟨x, hx, e2⟩ := at_lt hlt2
      simp [hlt, e, hlt2, e2]
      refine (Lo.between_m x.op 0 14).mono ?_
      rintro _ rfl
      cases hb : (decide (0 ≤ x.op) && decide (x.op ≤ 14))
      · have hbad : insBad x = true := by unfold insBad; rw [hb]; rfl
        simp
        refine vcRet_of [] ?_ (.no 2 (by simp [newE, h0, h16, hshort, any_hitP (p := fun l => l.any insBad) hl (any_hitP hx hbad)]) (by decide))
        simp
      · have hbad : insBad x = false := by unfold insBad; rw [hb]; rfl
        simp [wrap_succ hlt2 (show l.length < 4294967296 by omega)]
        exact ⟨_, by omega, _, ⟨k + 1, rfl, hlt2, noneTo_succ hn2 hx hbad, rfl⟩, [], _, rfl, by simp⟩
    · obtain rfl : k = l.length := by omega
      simp [hlt, e, wrap_succ hlt (show ps.length < 4294967296 by omega)]
      exact ⟨_, by omega, _, ⟨i + 1, rfl, hlt, noneTo_succ hn1 hl (noneTo_anyP hn2), rfl⟩, [], _, rfl, by simp⟩
  obtain rfl : i = ps.length := by omega
  simp
  refine vcRet_of [61] ?_ (.yes (by simp [newE, h0, h16, hshort, noneTo_anyP hn1]))
  simp
end Go.Proofs.YtplooifpgmlofaaGreat
