/- Slices of whole numbers as rows. -/
import Derived.Test.YtkelfbakcpidjaaGreatDoorAmHeap
import Derived.Test.YtkelfbakcpidjaaGreatDoorProg
import Derived.IntWalk
set_option linter.unusedVariables false
set_option linter.unusedSimpArgs false
set_option maxRecDepth 100000
namespace Go.Proofs.YtkelfbakcpidjaaGreatDoor
open Go.RowKit

theorem mixed : Tryz.prog.follows .mixedOrders = true := by kernel_rfl
theorem tyInt : ty Tryz.prog 3 = some (false, 1) := by kernel_rfl
theorem tyBool : ty Tryz.prog 4 = some (false, 1) := by kernel_rfl
theorem tyInts : ty Tryz.prog 22 = some (false, 1) := by kernel_rfl
theorem eltInts : elt Tryz.prog 22 = some 3 := by kernel_rfl
theorem isInts : isSliceT Tryz.prog 22 = true := by kernel_rfl
theorem isStr : isStrT Tryz.prog 9 = true := by kernel_rfl
theorem arrStr : arrT Tryz.prog 9 = none := by kernel_rfl
theorem arrInts : arrT Tryz.prog 22 = none := by kernel_rfl
theorem isBool : isBoolT Tryz.prog 4 = true := by kernel_rfl

theorem wrap_in {n : Int} (h0 : -9223372036854775808 ≤ n) (h1 : n ≤ 9223372036854775807) : IntKind.i64.wrap n = n := IntWalk.i64_in n ⟨h0, h1⟩

def iv (x : Int) : V := .lit (.int .i64 x)
def bv (b : Bool) : V := .lit (.bool b)
def irow (x : Int) : List V := [.lit (.int .i64 x)]
def ints (xs : List Int) : List (List V) := xs.map irow

theorem ints_length (xs : List Int) : (ints xs).length = xs.length := by simp [ints]
theorem ints_at (xs : List Int) (i : Nat) : (ints xs)[i]? = (xs[i]?).map irow := by simp [ints]
theorem ints_append (xs ys : List Int) : ints xs ++ ints ys = ints (xs ++ ys) := by simp [ints]
theorem ints_one (x : Int) : [[V.lit (.int .i64 x)]] = ints [x] := (rfl)
theorem ints_rows (xs : List Int) : ∀ r, r ∈ ints xs → r.length = 1 := by intro r hr; simp [ints] at hr; obtain ⟨x, _, rfl⟩ := hr; rfl
theorem D.ints (xs : List Int) : D (.sl .ro (ints xs)) := .ro _ fun r x hr hx => by
  simp [Proofs.YtkelfbakcpidjaaGreatDoor.ints] at hr; obtain ⟨y, _, rfl⟩ := hr
  simp [irow] at hx; subst hx; exact .lit _

theorem len_ints (c : Cap) (xs : List Int) : lenV Tryz.prog 22 (.sl c (ints xs)) = some (.lit (.int .i64 xs.length)) := by simp [lenV, isInts, ints_length]
theorem at_ints {c : Cap} {xs : List Int} {k : IntKind} {i : Int} (h0 : 0 ≤ i) (h1 : i.toNat < xs.length) : indexAddrV Tryz.prog 22 (.sl c (ints xs)) (.lit (.int k i)) = some (.ept [.lit (.int .i64 (xs[i.toNat]'h1))] 0) := by
  simp [indexAddrV, indexSlV, eltInts, tyInt, h0, ints_at, h1, irow]
theorem ld_int (s : St) (v : V) : loadV Tryz.prog s 3 (.ept [v] 0) = some v := by simp [loadV, tyInt, partV]
theorem res_tmp (P : Program) (t : Nat → V) (h : Nat → Option Blk) (nx : Nat) (ds : List Nat) (i : Nat) : resV P ⟨t, h, nx, ds⟩ [.tmp i] = some (t i) := (rfl)
theorem res_tmp2 (P : Program) (t : Nat → V) (h : Nat → Option Blk) (nx : Nat) (ds : List Nat) (i j : Nat) : resV P ⟨t, h, nx, ds⟩ [.tmp i, .tmp j] = some (.tup [t i, t j]) := (rfl)
theorem res_tmp3 (P : Program) (t : Nat → V) (h : Nat → Option Blk) (nx : Nat) (ds : List Nat) (i j k : Nat) : resV P ⟨t, h, nx, ds⟩ [.tmp i, .tmp j, .tmp k] = some (.tup [t i, t j, t k]) := (rfl)
/-- A function's end with a value that is known. -/
theorem ret_is {x : Option V} {h : Nat → Option Blk} {v v' : V} {R : V → Prop} (h1 : x = some v) (h2 : finV h (fun _ => none) v = v') (hd : D v') (hr : R v') :
    ∃ r, x = some r ∧ D (finV h (fun _ => none) r) ∧ R (finV h (fun _ => none) r) := ⟨v, h1, by rw [h2]; exact hd, by rw [h2]; exact hr⟩
/-- A function's end with a value in which nothing is named. -/
theorem ret_d {x : Option V} {h : Nat → Option Blk} {v : V} {R : V → Prop} (h1 : x = some v) (hd : D v) (hr : R v) :
    ∃ r, x = some r ∧ D (finV h (fun _ => none) r) ∧ R (finV h (fun _ => none) r) := ret_is h1 hd.fin hd hr
/-- .. that is just what is said. -/
theorem ret_eq {x : Option V} {h : Nat → Option Blk} {v y : V} (h1 : x = some v) (hd : D v) (he : v = y) : ∃ r, x = some r ∧ D (finV h (fun _ => none) r) ∧ finV h (fun _ => none) r = y := ⟨v, h1, by rw [hd.fin]; exact hd, by rw [hd.fin]; exact he⟩
theorem fin_eq {x : Option V} {h : Nat → Option Blk} {v y : V} (h1 : x = some v) (h2 : finV h (fun _ => none) v = y) (hd : D y) : ∃ r, x = some r ∧ D (finV h (fun _ => none) r) ∧ finV h (fun _ => none) r = y := ⟨v, h1, by rw [h2]; exact hd, h2⟩
theorem D.tup2 {x y : V} (hx : D x) (hy : D y) : D (.tup [x, y]) := .tup _ fun z hz => by simp at hz; rcases hz with rfl | rfl <;> assumption
theorem D.tup3 {x y u : V} (hx : D x) (hy : D y) (hu : D u) : D (.tup [x, y, u]) := .tup _ fun z hz => by simp at hz; rcases hz with rfl | rfl | rfl <;> assumption

end Go.Proofs.YtkelfbakcpidjaaGreatDoor
