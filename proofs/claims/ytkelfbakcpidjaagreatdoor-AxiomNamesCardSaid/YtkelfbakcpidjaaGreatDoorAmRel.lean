/- The abstract state of a frame, how it stands to the machine's, and what becomes of the two at a new block, at a store. -/
import Derived.Test.YtkelfbakcpidjaaGreatDoorAmVal
import Derived.RangeFuncRecord
set_option linter.unusedVariables false
namespace Go.Proofs.YtkelfbakcpidjaaGreatDoor
open Go.RowKit

/-- An abstract block: cells; the room behind a slice; a number put by; a map; the record of a range over a function; the block of its deferred calls. -/
inductive Blk where
  | cells (cs : List V)
  | room (n : Nat)
  | rsv
  | map (es : List (Value × V))
  | loop (st : LoopState) (pe : Option Code) (tm : Nat → V) (nt : Nat) (ps : Array Tmp) (as bo : Code) (df : Nat)
  | dfr

structure St where
  t : Nat → V
  h : Nat → Option Blk
  nx : Nat
  ds : List Nat

/-- What is named in a block. -/
def BlkDS (S : Nat → Prop) : Blk → Prop
  | .cells cs => ∀ x, x ∈ cs → DS S x
  | .map es => ∀ e, e ∈ es → DS S e.2
  | .loop _ _ tm _ _ _ _ df => (∀ i, DS S (tm i)) ∧ S df
  | _ => True

theorem BlkDS.mono {S S' : Nat → Prop} (hs : ∀ b, S b → S' b) {x : Blk} (h : BlkDS S x) : BlkDS S' x := by
  cases x with
  | cells cs => exact fun y hy => (h y hy).mono hs
  | map es => exact fun e he => (h e he).mono hs
  | loop => exact ⟨fun i => (h.1 i).mono hs, hs _ h.2⟩
  | _ => trivial
/-- A block in which nothing more is named than in one that stood at the begin. -/
def OldB (h : Nat → Option Blk) (b : Nat) (x : Blk) : Prop := ∃ x0, h b = some x0 ∧ ∀ S, BlkDS S x0 → BlkDS S x
theorem OldB.same {h : Nat → Option Blk} {b : Nat} {x : Blk} (hb : h b = some x) : OldB h b x := ⟨x, hb, fun _ h => h⟩
theorem OldB.loop {h : Nat → Option Blk} {b : Nat} {st st' : LoopState} {pe pe' : Option Code} {tm : Nat → V} {nt : Nat} {ps : Array Tmp} {as bo : Code} {df : Nat} (hb : h b = some (.loop st pe tm nt ps as bo df)) :
    OldB h b (.loop st' pe' tm nt ps as bo df) := ⟨_, hb, fun _ h => h⟩

/-- The global variables; the record of the round, where a frame is one's; how many temporaries it has; the abstract blocks at its begin. -/
structure Ctx where
  gl : Nat → V
  rl : Option Nat
  nt : Nat
  n0 : Nat
  h0 : Nat → Option Blk
/-- What a frame stands in: the world at its call, what was frozen then, the machine's block of the round's record, where things lay at its begin. -/
structure Env where
  w0 : World
  fz0 : Nat → Nat → Option Value
  c : Ctx
  l : Nat
  g0 : Gh
  hds : ∀ b x, c.h0 b = some x → BlkDS (fun k => k < c.n0) x

structure Keep (E : Env) (w : World) : Prop where
  os : w.os = E.w0.os
  tape : w.tape = E.w0.tape
  output : w.output = E.w0.output
  size : E.w0.heap.size ≤ w.heap.size
  block : ∀ k, k < E.w0.heap.size → w.heap[k]? = E.w0.heap[k]?

/-- A block of cells. -/
structure CellsAt (E : Env) (g : Gh) (w : World) (b : Nat) (cs : List V) : Prop where
  ex : ∃ cb arr T, g.m b = some cb ∧ E.w0.heap.size ≤ cb ∧ w.heap[cb]? = some (.cells arr T (0, 0)) ∧ cs.length ≤ arr.size ∧
    (∀ (i : Nat) x y, cs[i]? = some x → arr[i]? = some y → RV g x y) ∧ (∀ o, g.fz cb o = none)

/-- The room behind a slice. -/
def RoomAt (E : Env) (g : Gh) (w : World) (b n : Nat) : Prop :=
  (∀ k, n < k → g.loc b k = none) ∧
  match g.loc b n with
  | none => n = 0
  | some (cb, off, cap, sz) => (0 < n ∧ n ≤ cap) ∧ (n < cap → off = 0 ∧ E.w0.heap.size ≤ cb ∧ (∀ o, n * sz ≤ o → g.fz cb o = none) ∧
    ∃ arr T, w.heap[cb]? = some (.cells arr T (0, 0)) ∧ cap * sz ≤ arr.size)

/-- A map's entries. -/
structure MapIs (g : Gh) (es : List (Value × V)) (ar : Array MapEntry) (clock : Nat) : Prop where
  size : ar.size = es.length
  at_ : ∀ (i : Nat) e x, es[i]? = some e → ar[i]? = some x → x.key = e.1 ∧ RV g e.2 x.val
  born : ∀ (i : Nat) x, ar[i]? = some x → x.born < clock
  inc : ∀ (i j : Nat) x y, i < j → ar[i]? = some x → ar[j]? = some y → x.born < y.born

structure LoopIs (g : Gh) (st : LoopState) (pe : Option Code) (tm : Nat → V) (nt : Nat) (ps : Array Tmp) (as bo : Code) (df : Nat) (r : Loop) : Prop where
  state : r.state = st
  pending : r.pending = pe
  tmps : ∀ i, RV g (tm i) (r.tmps.getD i undef)
  size : r.tmps.size = nt
  ps : r.params = ps
  as : r.assign = as
  bo : r.body = bo
  df : g.m df = some r.defers

/-- A block of another make than cells. -/
def ObjIs (g : Gh) : Blk → Obj → Prop
  | .map es, o => ∃ ar clock, o = .map ar clock ∧ MapIs g es ar clock
  | .loop st pe tm nt ps as bo df, o => ∃ r, o = .loop r ∧ LoopIs g st pe tm nt ps as bo df r
  | .dfr, o => o = .deferred (some [])
  | _, _ => False

def BlkAt (E : Env) (g : Gh) (w : World) (b : Nat) : Blk → Prop
  | .cells cs => CellsAt E g w b cs
  | .room n => RoomAt E g w b n
  | .rsv => g.m b = none ∧ ∀ n, g.loc b n = none
  | x => ∃ cb o, g.m b = some cb ∧ E.w0.heap.size ≤ cb ∧ w.heap[cb]? = some o ∧ ObjIs g x o

/-- The machine's block of an abstract one. -/
def blkOf (g : Gh) (b : Nat) : Blk → Option Nat
  | .rsv => none
  | .room n => match g.loc b n with
    | some (cb, _, cap, _) => if n < cap then some cb else none
    | none => none
  | _ => g.m b

structure Mem (E : Env) (g : Gh) (h : Nat → Option Blk) (nx : Nat) (w : World) : Prop where
  keep : Keep E w
  fz : ∀ b o v, g.fz b o = some v → w.cell? ⟨b, o, none⟩ = some v
  fz0 : ∀ b o v, E.fz0 b o = some v → g.fz b o = some v
  fzN : ∀ b o v, g.fz b o = some v → E.fz0 b o = some v ∨ E.w0.heap.size ≤ b
  blk : ∀ b x, h b = some x → BlkAt E g w b x
  inj : ∀ b b' x x' cb, h b = some x → h b' = some x' → blkOf g b x = some cb → blkOf g b' x' = some cb → b = b'
  new : ∀ b, nx ≤ b → h b = none ∧ g.m b = none ∧ ∀ n, g.loc b n = none
  mlt : ∀ b cb, g.m b = some cb → cb < w.heap.size
  l0 : ∀ b, g.loc b 0 = none
  le0 : Gh.Le E.g0 g
  n0 : E.c.n0 ≤ nx ∧ ∀ b, E.c.n0 ≤ b → E.g0.m b = none ∧ ∀ n, E.g0.loc b n = none
  gl : ∀ i, RV g (E.c.gl i) (.pointer (some ⟨i, 0, none⟩)) ∧ D (E.c.gl i)

structure Rel (E : Env) (g : Gh) (s : St) (a : Act) (w : World) : Prop where
  tmps : ∀ i, RV g (s.t i) (a.tmps.getD i undef)
  size : a.tmps.size = E.c.nt
  defers : a.defers.length = s.ds.length ∧ ∀ (i : Nat) d x, s.ds[i]? = some d → a.defers[i]? = some x → ∃ k, g.m d = some k ∧ x.target = .collected k
  rl : ∀ L, E.c.rl = some L → g.m L = some E.l
  mem : Mem E g s.h s.nx w

end Go.Proofs.YtkelfbakcpidjaaGreatDoor
