/- The plan as plain data: tasks, jobs that wait, what runs. No program, no memory. -/
namespace Go.Proofs.Ytcffjobefgecdaa

structure PTask where
  ev : Int
  lo : Int
  rk : Int
deriving DecidableEq, Repr
structure PRun where
  t : PTask
  first : Int
  count : Int
deriving DecidableEq, Repr
structure PLine where
  t : PTask
  next : Int
  wait : List PRun
  left : Int
deriving DecidableEq, Repr
structure PSt where
  l : List PLine
  now : Int
deriving DecidableEq, Repr
structure PJob where
  due : Int
  rank : Int
  task : Int
deriving DecidableEq, Repr
structure PSlot where
  task : Int
  frm : Int
  to : Int
  late : Bool
deriving DecidableEq, Repr

def mayB (t : PTask) : Bool := decide (1 ≤ t.ev) && decide (t.ev ≤ 1099511627776) && decide (1 ≤ t.lo) && decide (t.lo ≤ t.ev)

/-- What is released up to a tick waits. -/
def relLine (tick : Int) (x : PLine) : PLine :=
  if tick < x.next then x else
  if x.wait ≠ [] ∧ (x.wait.getLastD ⟨⟨0, 0, 0⟩, 0, 0⟩).t = x.t then
    { t := x.t, next := x.next + ((tick - x.next) / x.t.ev + 1) * x.t.ev, left := x.left,
      wait := x.wait.set (x.wait.length - 1) { (x.wait.getLastD ⟨⟨0, 0, 0⟩, 0, 0⟩) with count := (x.wait.getLastD ⟨⟨0, 0, 0⟩, 0, 0⟩).count + ((tick - x.next) / x.t.ev + 1) } }
  else
    { t := x.t, next := x.next + ((tick - x.next) / x.t.ev + 1) * x.t.ev, left := if x.wait = [] then x.t.lo else x.left,
      wait := x.wait ++ [⟨x.t, x.next, (tick - x.next) / x.t.ev + 1⟩] }
def release (tick : Int) (s : PSt) : PSt := { s with l := s.l.map (relLine tick) }

def beforeB (j k : PJob) : Bool := if j.due ≠ k.due then decide (j.due < k.due) else if j.rank ≠ k.rank then decide (k.rank < j.rank) else decide (j.task < k.task)

/-- The job of a line that waits first. -/
def jobOf (i : Nat) (x : PLine) : PJob := ⟨(x.wait.headD ⟨⟨0, 0, 0⟩, 0, 0⟩).first + (x.wait.headD ⟨⟨0, 0, 0⟩, 0, 0⟩).t.ev, (x.wait.headD ⟨⟨0, 0, 0⟩, 0, 0⟩).t.rk, i⟩
def stepFirst (i : Nat) (x : PLine) (b : PJob) : PJob := if x.wait = [] then b else if b.task < 0 ∨ beforeB (jobOf i x) b = true then jobOf i x else b
/-- The best of the first k lines. -/
def firstTo (l : List PLine) : Nat → PJob
  | 0 => ⟨0, 0, -1⟩
  | k + 1 => match l[k]? with
    | some x => stepFirst k x (firstTo l k)
    | none => firstTo l k
def firstJ (l : List PLine) : PJob := firstTo l l.length

/-- The lesser of two. -/
def mn (x f : Int) : Int := if x < f then x else f
/-- The earliest release, at most a limit. -/
def minTo (l : List PLine) (lim : Int) : Nat → Int
  | 0 => lim
  | k + 1 => match l[k]? with
    | some x => mn x.next (minTo l lim k)
    | none => minTo l lim k
/-- The job that a line would release next. -/
def nextJob (i : Nat) (x : PLine) : PJob := ⟨x.next + x.t.ev, x.t.rk, i⟩
def endStep (i : Nat) (x : PLine) (j : PJob) (to : Int) : Int := if x.wait = [] ∧ beforeB (nextJob i x) j = true then mn x.next to else to
/-- Where the stretch ends. -/
def endTo (l : List PLine) (j : PJob) (to : Int) : Nat → Int
  | 0 => to
  | k + 1 => match l[k]? with
    | some x => endStep k x j (endTo l j to k)
    | none => endTo l j to k

/-- The next stretch: the plan behind it, the stretch, when its job is due; none: it does not begin below the limit. -/
def stretchAt (s : PSt) (frm : Int) (j : PJob) : PSlot × Int :=
  let to := endTo s.l j (frm + (s.l.getD j.task.toNat ⟨⟨0, 0, 0⟩, 0, [], 0⟩).left) s.l.length
  (⟨j.task, frm, to, decide (j.due < to)⟩, j.due)
def stretch (s : PSt) (limit : Int) : PSt × Option (PSlot × Int) :=
  if 0 ≤ (firstJ (release s.now s).l).task then (release s.now s, some (stretchAt (release s.now s) s.now (firstJ (release s.now s).l)))
  else
    if minTo (release s.now s).l limit (release s.now s).l.length = limit then (release s.now s, none)
    else (release (minTo (release s.now s).l limit (release s.now s).l.length) (release s.now s),
      some (stretchAt (release (minTo (release s.now s).l limit (release s.now s).l.length) (release s.now s)) (minTo (release s.now s).l limit (release s.now s).l.length)
        (firstJ (release (minTo (release s.now s).l limit (release s.now s).l.length) (release s.now s)).l)))

/-- A stretch is done. -/
def doneLine (d : Int) (x : PLine) : PLine :=
  if 0 < x.left - d then { x with left := x.left - d } else
  match x.wait with
  | [] => { x with left := x.left - d }
  | r :: rs =>
    if r.count - 1 = 0 then { x with wait := rs, left := match rs with | [] => x.left - d | q :: _ => q.t.lo }
    else { x with wait := { r with first := r.first + r.t.ev, count := r.count - 1 } :: rs, left := r.t.lo }
def done (s : PSt) (sl : PSlot) : PSt :=
  { l := s.l.set sl.task.toNat (doneLine (sl.to - sl.frm) (s.l.getD sl.task.toNat ⟨⟨0, 0, 0⟩, 0, [], 0⟩)), now := sl.to }

def endT : Int := 1152921504606846976
def nextS (s : PSt) : PSt × PSlot × Int :=
  if s.l = [] then (s, ⟨0, 0, 0, false⟩, 240) else
  match stretch s endT with
  | (s', some (sl, _)) => if endT < sl.to then (s, ⟨0, 0, 0, false⟩, 3) else (done s' sl, sl, 0)
  | (_, none) => (s, ⟨0, 0, 0, false⟩, 3)

/-- A stretch, cut at a tick. -/
def cutAt (tick : Int) (p : PSlot × Int) : PSlot := if tick < p.1.to then { p.1 with to := tick, late := decide (p.2 < tick) } else p.1
/-- The stretches up to a tick, at most so many more; the plan behind them; whether it stopped for their number. -/
def untilGo (tick : Int) : Nat → PSt → PSt × List PSlot
  | 0, s => (s, [])
  | k + 1, s =>
    if s.now < tick then
      match stretch s tick with
      | (s', none) => (s', [])
      | (s', some p) => let r := untilGo tick k (done s' (cutAt tick p)); (r.1, cutAt tick p :: r.2)
    else (s, [])
def mostN : Nat := 65536
def untilS (s : PSt) (tick : Int) : PSt × List PSlot :=
  let t := if endT < tick then endT else tick
  let r := untilGo t mostN s
  if r.2.length < mostN then ({ r.1 with now := if r.1.now < t then t else r.1.now }, r.2) else r

def setS (s : PSt) (task : Int) (t : PTask) : PSt × Int :=
  if task < 0 ∨ (s.l.length : Int) ≤ task ∨ mayB t = false then (s, 240)
  else ({ (release s.now s) with l := (release s.now s).l.set task.toNat { ((release s.now s).l.getD task.toNat ⟨⟨0, 0, 0⟩, 0, [], 0⟩) with t := t } }, 0)
def newS (l : List PTask) : PSt := ⟨l.map fun t => ⟨t, 0, [], 0⟩, 0⟩
end Go.Proofs.Ytcffjobefgecdaa
