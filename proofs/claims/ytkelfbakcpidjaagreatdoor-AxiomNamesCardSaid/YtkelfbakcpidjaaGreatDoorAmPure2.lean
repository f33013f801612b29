/- The operations that make a value and turn nothing, the rest: arithmetic, comparisons, indexes, cuts, lengths. -/
import Derived.Test.YtkelfbakcpidjaaGreatDoorAmPure
set_option linter.unusedVariables false
set_option linter.unusedSimpArgs false
namespace Go.Proofs.YtkelfbakcpidjaaGreatDoor
open Go.RowKit

def isBoolT (P : Program) (t : TypeId) : Bool := match P.underlying t with | some .bool => true | _ => false
def isSliceT (P : Program) (t : TypeId) : Bool := match P.underlying t with | some (.slice _) => true | _ => false
def isStrT (P : Program) (t : TypeId) : Bool := match P.underlying t with | some .string => true | _ => false
def intT (P : Program) (t : TypeId) : Option IntKind := match P.underlying t with | some (.int k) => some k | _ => none

def intL (op : BinOp) (k : IntKind) (a b : Int) : Option Value :=
  match op with
  | .add => some (.int k (k.wrap (a + b)))
  | .sub => some (.int k (k.wrap (a - b)))
  | .mul => some (.int k (k.wrap (a * b)))
  | .quo => if b = 0 then none else some (.int k (k.wrap (a.tdiv b)))
  | .rem => if b = 0 then none else some (.int k (a.tmod b))
  | .and => some (.int k (k.wrap (BitVec.ofInt k.bits a &&& BitVec.ofInt k.bits b).toNat))
  | .or => some (.int k (k.wrap (BitVec.ofInt k.bits a ||| BitVec.ofInt k.bits b).toNat))
  | .xor => some (.int k (k.wrap (BitVec.ofInt k.bits a ^^^ BitVec.ofInt k.bits b).toNat))
  | .eql => some (.bool (a == b))
  | .neq => some (.bool (a != b))
  | .lss => some (.bool (decide (a < b)))
  | .leq => some (.bool (decide (a ≤ b)))
  | .gtr => some (.bool (decide (b < a)))
  | .geq => some (.bool (decide (b ≤ a)))
  | _ => none

def strL (op : BinOp) (a b : ByteArray) : Option Value :=
  match op with
  | .add => if a.size + b.size ≤ 1000000000000 then some (.string (a ++ b)) else none
  | .eql => some (.bool (a.toList == b.toList))
  | .neq => some (.bool (!(a.toList == b.toList)))
  | _ => none

def binL (op : BinOp) (x y : Value) : Option Value :=
  match x, y with
  | .int k a, .int k' b => match op with
    | .shl => if 0 ≤ b then some (.int k (k.wrap (a * 2 ^ (min b.toNat k.bits)))) else none
    | .shr => if 0 ≤ b then some (.int k (a.fdiv (2 ^ (min b.toNat k.bits)))) else none
    | op => if k = k' then intL op k a b else none
  | .string a, .string b => strL op a b
  | _, _ => none

theorem binL_spec {P : Program} {op : BinOp} {t : TypeId} {x y v : Value} (h : binL op x y = some v) (w : World) (ox oy : Operand) :
    (do eqGuard op t ox oy x y; binOp op t x y : Sem Value).run P w = .ok v w := by
  cases x <;> cases y <;> simp only [binL] at h <;> try cases h
  · rename_i k a k' b
    cases op <;> simp only [intL] at h <;> first
      | (split at h
         · rename_i hb; injection h with h; subst h; simp [eqGuard, binOp, Op.shift, Int.not_lt.2 hb]
         · cases h
         done)
      | (split at h
         · rename_i hk; subst hk; injection h with h; subst h; simp [eqGuard, binOp, Op.intArith, Op.intBits, Op.intCmp]
         · cases h
         done)
      | (split at h
         · rename_i hk; subst hk
           split at h
           · cases h
           · rename_i hb; injection h with h; subst h; simp [eqGuard, binOp, Op.intDiv, hb]
         · cases h
         done)
      | (split at h <;> cases h; done)
  · rename_i a b
    by_cases hop : op = .add
    · subst hop
      simp only [strL] at h
      split at h
      · rename_i hb
        injection h with h; subst h
        have hm : IntKind.i64.max = 9223372036854775807 := rfl
        have e' : ¬ (IntKind.i64.max < (a.size : Int) + (b.size : Int)) := by rw [hm]; omega
        simp [eqGuard, binOp, Op.stringOp, e']
        omega
      · cases h
    · cases op <;> simp only [strL] at h <;> first
        | (injection h with h; subst h; simp [eqGuard, binOp, Op.stringOp]; done)
        | exact absurd rfl hop
        | (cases h; done)

def unL (op : UnOp) (x : Value) : Option Value :=
  match op, x with
  | .neg, .int k n => some (.int k (k.wrap (0 - n)))
  | .not, .bool b => some (.bool !b)
  | _, _ => none

theorem unL_spec {P : Program} {op : UnOp} {x v : Value} (h : unL op x = some v) (w : World) : (Op.unary op x).run P w = .ok v w := by
  unfold unL at h
  split at h <;> first
    | (injection h with h; subst h; simp [Op.unary, Op.intArith])
    | cases h

/-- Equal cells, one by one, of whole numbers, bools and strings. -/
def eqC : List V → List V → Option Bool
  | [], [] => some true
  | .lit (.int k a) :: xs, .lit (.int k' b) :: ys => if k = k' then (eqC xs ys).map fun r => (a == b) && r else none
  | .lit (.string a) :: xs, .lit (.string b) :: ys => (eqC xs ys).map fun r => (a == b) && r
  | _, _ => none

def binV (P : Program) (op : BinOp) (t : TypeId) (x y : V) : Option V :=
  match x, y with
  | .lit (.bool a), .lit (.bool b) => if isBoolT P t = true then (match op with
    | .eql => some (.lit (.bool (a == b)))
    | .neq => some (.lit (.bool (!(a == b))))
    | _ => none) else none
  | .lit (.slice none 0 0), .lit (.slice none 0 0) => if isSliceT P t = true then (match op with
    | .eql => some (.lit (.bool true))
    | .neq => some (.lit (.bool false))
    | _ => none) else none
  | .lit a, .lit b => (binL op a b).map .lit
  | .sl _ (_ :: _), .lit (.slice none 0 0) => if isSliceT P t = true then (match op with
    | .eql => some (.lit (.bool false))
    | .neq => some (.lit (.bool true))
    | _ => none) else none
  | _, _ => none

theorem run_equal_bool {P : Program} {t : TypeId} (h : isBoolT P t = true) (a b : Bool) (w : World) : (Op.equal t (.bool a) (.bool b)).run P w = .ok (a == b) w := by
  unfold isBoolT at h
  cases hd : P.underlying t with
  | none => simp [hd] at h
  | some d => cases d <;> simp [hd] at h; rw [show Op.equal t (.bool a) (.bool b) = Op.equalIn (9999 + 1) t (.bool a) (.bool b) from rfl, Op.equalIn.eq_def]; simp [underlying, hd, Result.andThen]

theorem run_equal_slice {P : Program} {t : TypeId} (h : isSliceT P t = true) (a : Option Addr) (n c : Nat) (w : World) :
    (Op.equal t (.slice a n c) (.slice none 0 0)).run P w = .ok a.isNone w := by
  unfold isSliceT at h
  cases hd : P.underlying t with
  | none => simp [hd] at h
  | some d => cases d <;> simp [hd] at h; rw [show Op.equal t (.slice a n c) (.slice none 0 0) = Op.equalIn (9999 + 1) t (.slice a n c) (.slice none 0 0) from rfl, Op.equalIn.eq_def]; cases a <;> simp [underlying, hd, Result.andThen]

theorem evs_binOp {P : Program} {E : Env} {s : St} {o : Oper} {op : BinOp} {t u : TypeId} {x y : Operand} {v : V} (ho : o.op = .binOp op t x y u)
    (h : binV P op t (s.ev E.c x) (s.ev E.c y) = some v) : Evs P E s o v := by
  intro g a w H
  have hx := H.ev x
  have hy := H.ev y
  generalize s.ev E.c x = vx at h hx
  generalize s.ev E.c y = vy at h hy
  unfold binV at h
  split at h
  · rename_i p q
    split at h
    · rename_i hb
      generalize he : a.eval x = c at hx
      generalize he' : a.eval y = c' at hy
      cases hx; cases hy
      cases op <;> (try simp only [] at h) <;> first
        | (injection h with h; subst h; exact ⟨_, by simp [execOp, ho, he, he', eqGuard, binOp, run_equal_bool hb, Result.andThen], .lit _⟩)
        | cases h
    · cases h
  · split at h
    · rename_i hb
      generalize he : a.eval x = c at hx
      generalize he' : a.eval y = c' at hy
      cases hx; cases hy
      cases op <;> (try simp only [] at h) <;> first
        | (injection h with h; subst h; refine ⟨_, ?_, .lit _⟩; simp [execOp, ho, he, he', eqGuard, binOp, run_equal_slice hb, Result.andThen]; done)
        | cases h
    · cases h
  · rename_i p q _ _
    simp only [Option.map_eq_some_iff] at h
    obtain ⟨r, hr, rfl⟩ := h
    generalize he : a.eval x = c at hx
    generalize he' : a.eval y = c' at hy
    cases hx; cases hy
    refine ⟨r, ?_, .lit _⟩
    have := binL_spec (P := P) (t := t) hr w x y
    simp only [execOp, ho, he, he']
    rw [Sem.run_bind, this]; rfl
  · split at h
    · rename_i hb
      generalize he : a.eval x = c at hx
      generalize he' : a.eval y = c' at hy
      cases hy
      cases hx
      cases op <;> (try simp only [] at h) <;> first
        | (injection h with h; subst h; refine ⟨_, ?_, .lit _⟩; simp [execOp, ho, he, he', eqGuard, binOp, run_equal_slice hb, Result.andThen]; done)
        | cases h
    · cases h
  · cases h

theorem evs_unOp {P : Program} {E : Env} {s : St} {o : Oper} {op : UnOp} {t : TypeId} {x : Operand} {p v : Value} (ho : o.op = .unOp op t x)
    (hp : s.ev E.c x = .lit p) (h : unL op p = some v) : Evs P E s o (.lit v) := by
  intro g a w H
  have hx := H.ev x
  rw [hp] at hx
  generalize he : a.eval x = c at hx
  cases hx
  exact ⟨v, by simp [execOp, ho, he, unL_spec h, Result.andThen], .lit _⟩

theorem evs_move {P : Program} {E : Env} {s : St} {o : Oper} {x : Operand} (ho : o.op = .move x ∨ o.op = .assign x) : Evs P E s o (s.ev E.c x) := by
  intro g a w H
  rcases ho with ho | ho <;> exact ⟨_, by simp [execOp, ho], H.ev x⟩

theorem evs_pick {P : Program} {E : Env} {s : St} {o : Oper} {c x y : Operand} {b : Bool} (ho : o.op = .pick c x y) (hc : s.ev E.c c = .lit (.bool b)) :
    Evs P E s o (if b = true then s.ev E.c x else s.ev E.c y) := by
  intro g a w H
  have h := H.ev c
  rw [hc] at h
  generalize he : a.eval c = q at h
  cases h
  cases b
  · exact ⟨a.eval y, by simp [execOp, ho, he, asBool, Result.andThen], H.ev y⟩
  · exact ⟨a.eval x, by simp [execOp, ho, he, asBool, Result.andThen], H.ev x⟩

theorem evs_extract {P : Program} {E : Env} {s : St} {o : Oper} {x : Operand} {k : Nat} {cs : List V} {v : V} (ho : o.op = .extract x k)
    (hx : s.ev E.c x = .tup cs) (h : cs[k]? = some v) : Evs P E s o v := by
  intro g a w H
  have hr := H.ev x
  rw [hx] at hr
  generalize he : a.eval x = q at hr
  cases hr with
  | tup _ vs hl hv =>
    have hk : k < vs.size := by have := (List.getElem?_eq_some_iff.1 h).1; omega
    exact ⟨vs[k], by simp [execOp, ho, he, Instr.extract, hk, Result.andThen], hv k v _ h (by simp [hk])⟩

end Go.Proofs.YtkelfbakcpidjaaGreatDoor
