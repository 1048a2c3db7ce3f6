/- Retry's functions as plain functions. No condition. -/
namespace Go.Proofs.Ytakmipccgpgfgaa

structure Fl where
  phase : Int
  status : Int
  tries : Int
  sent : Int
  idem : Bool
deriving DecidableEq
structure Bu where
  ratio : Int
  least : Int
  window : Int
  reqs : List Int
  rets : List Int
deriving DecidableEq

def outs (n lo hi : Int) : Bool := decide (n < lo) || decide (hi < n)
def badIn (f : Fl) (lo hi : Int) : Bool :=
  ((decide (f.phase = 7) && outs f.status 100 599) || (!decide (f.phase = 7) && !decide (f.status = 0))) || (outs f.sent lo hi || outs f.tries 1 100)
def badF (f : Fl) : Bool :=
  if f.phase = 1 ∨ f.phase = 2 ∨ f.phase = 3 then badIn f 0 0
  else if f.phase = 5 ∨ f.phase = 6 ∨ f.phase = 7 then badIn f 1 1000000000
  else if f.phase = 4 then badIn f 0 1000000000
  else true
def why (f : Fl) (most : Int) : Int :=
  if f.phase = 1 then 2 else if f.phase = 6 then 3
  else if f.phase = 7 ∧ ¬ (f.status = 502 ∨ f.status = 503 ∨ f.status = 504) then 4
  else if 0 < f.sent ∧ f.idem = false then 5
  else if most < f.tries then 6 else 1
def may (f : Fl) (most : Int) : Bool × Int × Int :=
  if outs most 0 99 then (false, 0, 7) else if badF f then (false, 0, 2) else (decide (why f most = 1), why f most, 0)

def newOk (r l w : Int) : Bool := !(outs r 0 100 || (outs l 0 100 || outs w 1 1000000000000))
def newB (r l w : Int) : Bu × Int := if newOk r l w then (⟨r, l, w, [], []⟩, 0) else (⟨0, 0, 0, [], []⟩, 7)
def zeroB : Bu := ⟨0, 0, 0, [], []⟩

def lastOf (l : List Int) : Int := l.getLastD 0
def lastT (b : Bu) : Int := max (max 0 (lastOf b.reqs)) (lastOf b.rets)
def sortedL : List Int → Bool
  | a :: b :: r => decide (a ≤ b) && sortedL (b :: r)
  | _ => true
/-- A list of times, none of which is over at the last one. -/
def times (l : List Int) (w last : Int) : Bool := l.all (fun x => decide (0 ≤ x) && decide (x ≤ 1000000000000) && decide (last < x + w)) && sortedL l
def chk (b : Bu) : Int :=
  if !newOk b.ratio b.least b.window then 7
  else if 1000 < b.reqs.length ∨ 1000 < b.rets.length then 3
  else if times b.reqs b.window (lastT b) && times b.rets b.window (lastT b) then 0 else 6
def asked (b : Bu) (now : Int) : Int := if chk b ≠ 0 then chk b else if outs now (lastT b) 1000000000000 then 7 else 0
def left (l : List Int) (w now : Int) : List Int := l.filter fun x => decide (now < x + w)
def gone (b : Bu) (now : Int) : Bu := ⟨b.ratio, b.least, b.window, left b.reqs b.window now, left b.rets b.window now⟩
def request (b : Bu) (now : Int) : Bu × Int :=
  if asked b now ≠ 0 then (zeroB, asked b now)
  else if (gone b now).reqs.length = 1000 then (zeroB, 5)
  else (⟨b.ratio, b.least, b.window, (gone b now).reqs ++ [now], (gone b now).rets⟩, 0)
def allowed (b : Bu) : Bool := decide ((b.rets.length : Int) < b.least + (b.ratio * b.reqs.length).tdiv 100)
def retry (b : Bu) (now : Int) : Bu × Bool × Int :=
  if asked b now ≠ 0 then (zeroB, false, asked b now)
  else if !allowed (gone b now) then (gone b now, false, 0)
  else if (gone b now).rets.length = 1000 then (zeroB, false, 5)
  else (⟨b.ratio, b.least, b.window, (gone b now).reqs, (gone b now).rets ++ [now]⟩, true, 0)
/-- The delay without jitter. -/
def dbl (base top : Int) : Nat → Int
  | 0 => base
  | k + 1 => min (2 * dbl base top k) top
def delayOk (base top n j : Int) : Bool := !(outs base 1 1000000000000 || (outs top base 1000000000000 || (outs n 1 100 || outs j 0 1000)))
def cut (d j : Int) : Int := d - (d.tdiv 2 * j).tdiv 1000
def delay (base top n j : Int) : Int × Int := if delayOk base top n j then (cut (dbl base top (n - 1).toNat) j, 0) else (0, 7)
end Go.Proofs.Ytakmipccgpgfgaa
