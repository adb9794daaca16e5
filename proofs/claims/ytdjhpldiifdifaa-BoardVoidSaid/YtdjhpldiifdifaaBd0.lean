/- The board in plain Lean: orders, entries, halves by price and time, and what the calls do. No program in sight. -/
import Derived.Test.YtdjhpldiifdifaaRows
namespace Go.Proofs.Ytdjhpldiifdifaa
set_option linter.unusedSimpArgs false
set_option linter.unusedVariables false

/-- An order: member, side, kind, force, price, stop, quantity, peak. -/
structure Od where
  m : Int
  s : Int
  k : Int
  f : Int
  p : Int
  t : Int
  q : Int
  pk : Int
deriving DecidableEq
/-- An entry: number, order, what is left, what is shown. -/
structure En where
  n : Int
  o : Od
  l : Int
  h : Int
deriving DecidableEq
/-- An event: what, order, other order, price, quantity. -/
structure Ev where
  w : Int
  o : Int
  x : Int
  p : Int
  q : Int
deriving DecidableEq
/-- A side: its levels, the best one first, each with its queue. -/
abbrev Half := List (Int × List En)
structure Bd where
  buy : Half
  sell : Half
  wait : List En
  nums : Int
  last : Int

def inB2 (x lo hi : Int) : Bool := decide (lo ≤ x) && decide (x ≤ hi)
def sideB (s : Int) : Bool := decide (s = 1) || decide (s = 2)
/-- Is an order valid? -/
def Od.ok (o : Od) : Bool :=
  inB2 o.m 1 1000 && sideB o.s && inB2 o.f 1 4 && inB2 o.q 1 1000000000 && inB2 o.t 0 1000000 &&
  (if o.k = 1 then inB2 o.p 1 1000000 else if o.k = 2 then decide (o.p = 0) && (decide (o.f = 2) || decide (o.f = 3)) else false) &&
  (decide (o.pk = 0) || inB2 o.pk 1 o.q && (decide (o.f = 1) || decide (o.f = 4)))
/-- Is a price good for an order? -/
def Od.good (o : Od) (price : Int) : Bool := if o.k = 2 then true else if o.s = 1 then decide (price ≤ o.p) else decide (o.p ≤ price)
/-- Is the first price the better one for a resting order of the side? -/
def better (side a b : Int) : Bool := if side = 1 then decide (b < a) else decide (a < b)

def Half.all (h : Half) : List En := h.flatMap Prod.snd
def frontH : Half → Option En
  | [] => none
  | (_, q) :: _ => q.head?
def meetsH (o : Od) (h : Half) : Bool :=
  match frontH h with
  | none => false
  | some e => o.good e.o.p
/-- The first entry goes. -/
def popH : Half → Half
  | [] => []
  | (_, []) :: r => r
  | (p, _ :: q) :: r => if q.isEmpty then r else (p, q) :: r
/-- The first entry is another one. -/
def setH (y : En) : Half → Half
  | [] => []
  | (_, []) :: r => r
  | (p, _ :: q) :: r => (p, y :: q) :: r
/-- An entry comes to the end of the queue of its price. -/
def addH (side : Int) (e : En) : Half → Half
  | [] => [(e.o.p, [e])]
  | (p, q) :: r => if p = e.o.p then (p, q ++ [e]) :: r else if better side e.o.p p then (e.o.p, [e]) :: (p, q) :: r else (p, q) :: addH side e r
/-- An entry goes, wherever it rests. -/
def takeH (e : En) : Half → Half
  | [] => []
  | (p, q) :: r => if p = e.o.p then (if (q.filter fun y => decide (y.n ≠ e.n)).isEmpty then r else (p, q.filter fun y => decide (y.n ≠ e.n)) :: r) else (p, q) :: takeH e r
/-- What a trade of q leaves of the front. -/
def tradeH (side : Int) (y : En) (q : Int) (h : Half) : Half :=
  if 0 < y.h - q then setH { y with l := y.l - q, h := y.h - q } h
  else if y.l - q = 0 then popH h
  else addH side { y with l := y.l - q, h := min y.o.pk (y.l - q) } (popH h)
/-- What is left to find of a whole order. -/
def needF (o : Od) : List En → Int → Int
  | [], need => need
  | y :: r, need =>
    if o.good y.o.p = false then need
    else if 0 < (if y.o.m ≠ o.m then need - min need y.l else need) then needF o r (if y.o.m ≠ o.m then need - min need y.l else need)
    else (if y.o.m ≠ o.m then need - min need y.l else need)
/-- The state of an order that comes in, and the other side. -/
structure Mt where
  left : Int
  h : Half
  last : Int
  evs : List Ev
/-- One meeting with the front. -/
def meet1 (o : Od) (n : Int) (side : Int) (y : En) (s : Mt) : Mt :=
  if y.o.m = o.m then ⟨s.left, popH s.h, s.last, s.evs ++ [⟨5, y.n, 0, 0, y.l⟩]⟩
  else ⟨s.left - min s.left y.h, tradeH side y (min s.left y.h) s.h, y.o.p, s.evs ++ [⟨1, n, y.n, y.o.p, min s.left y.h⟩]⟩
/-- The order meets the front as long as it can; k: at most so often. -/
def meetF (o : Od) (n : Int) (side : Int) : Nat → Mt → Mt
  | 0, s => s
  | k + 1, s => if 0 < s.left then (match frontH s.h with | none => s | some y => if o.good y.o.p = true then meetF o n side k (meet1 o n side y s) else s) else s
/-- How often at most. -/
def sizeH (h : Half) : Nat := (h.all.map fun e => e.l.toNat + 1).sum
def Bd.half (S : Bd) (side : Int) : Half := if side = 1 then S.buy else S.sell
def Bd.put (S : Bd) (side : Int) (h : Half) : Bd := if side = 1 then { S with buy := h } else { S with sell := h }
/-- An order comes in: the board, and the events behind those that there are. -/
def comeF (S : Bd) (n : Int) (o : Od) (left : Int) (evs : List Ev) : Bd × List Ev :=
  if o.f = 4 ∧ meetsH o (S.half (3 - o.s)) = true then (S, evs ++ [⟨6, n, 0, 0, left⟩])
  else if o.f = 3 ∧ needF o (S.half (3 - o.s)).all left ≠ 0 then (S, evs ++ [⟨4, n, 0, 0, left⟩])
  else
    let r := meetF o n (3 - o.s) (sizeH (S.half (3 - o.s))) ⟨left, S.half (3 - o.s), S.last, evs⟩
    let S1 : Bd := { S.put (3 - o.s) r.h with last := r.last }
    if r.left = 0 then (S1, r.evs)
    else if o.f = 1 ∨ o.f = 4 then (S1.put o.s (addH o.s ⟨n, o, r.left, if 0 < o.pk then min o.pk r.left else r.left⟩ (S1.half o.s)), r.evs ++ [⟨2, n, 0, o.p, r.left⟩])
    else (S1, r.evs ++ [⟨3, n, 0, 0, r.left⟩])
/-- Is a waiting entry due? -/
def dueB (last : Int) (e : En) : Bool := if last = 0 then false else if e.o.s = 1 then decide (e.o.t ≤ last) else decide (last ≤ e.o.t)
/-- Waiting entries come in as long as one is due; k: at most so often. -/
def stopsF : Nat → Bd → List Ev → Bd × List Ev
  | 0, S, evs => (S, evs)
  | k + 1, S, evs =>
    match S.wait.find? (dueB S.last) with
    | none => (S, evs)
    | some x => stopsF k (comeF { S with wait := S.wait.eraseIdx (S.wait.findIdx (dueB S.last)) } x.n x.o x.l (evs ++ [⟨7, x.n, 0, 0, x.l⟩])).1 (comeF { S with wait := S.wait.eraseIdx (S.wait.findIdx (dueB S.last)) } x.n x.o x.l (evs ++ [⟨7, x.n, 0, 0, x.l⟩])).2
def Bd.live (S : Bd) : List En := S.buy.all ++ (S.sell.all ++ S.wait)
/-- What Enter returns beside the board: the number, the events, the error. -/
def enterE (S : Bd) (o : Od) : Int := if o.ok = false then 1 else if 4096 ≤ S.live.length then 6 else if o.f = 4 ∧ o.t = 0 ∧ meetsH o (S.half (3 - o.s)) = true then 20 else 0
/-- The board behind a valid order, and the events. -/
def enterF (S : Bd) (o : Od) : Bd × List Ev :=
  let r := if o.t = 0 then comeF { S with nums := S.nums + 1 } (S.nums + 1) o o.q [] else ({ S with nums := S.nums + 1, wait := S.wait ++ [⟨S.nums + 1, o, o.q, 0⟩] }, [⟨8, S.nums + 1, 0, 0, o.q⟩])
  stopsF r.1.wait.length r.1 r.2
def Bd.get (S : Bd) (n : Int) : Option En := S.live.find? fun e => decide (e.n = n)
/-- The board without an entry. -/
def Bd.off (S : Bd) (e : En) (waits : Bool) : Bd := if waits = true then { S with wait := S.wait.filter fun y => decide (y.n ≠ e.n) } else S.put e.o.s (takeH e (S.half e.o.s))
end Go.Proofs.Ytdjhpldiifdifaa
