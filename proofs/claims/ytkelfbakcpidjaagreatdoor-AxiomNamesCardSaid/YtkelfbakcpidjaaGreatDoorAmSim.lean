/- Small laws for the reckoning. -/
import Derived.Test.YtkelfbakcpidjaaGreatDoorAmFn
set_option linter.unusedVariables false
set_option linter.unusedSimpArgs false
namespace Go.Proofs.YtkelfbakcpidjaaGreatDoor
open Go.RowKit

theorem upd_at {α : Type} (f : Nat → α) (i : Nat) (x : α) (j : Nat) : upd f i x j = if j = i then x else f j := (rfl)
theorem ev_tmp (C : Ctx) (s : St) (i : Nat) : s.ev C (.tmp i) = s.t i := (rfl)
theorem ev_const (C : Ctx) (s : St) (v : Value) : s.ev C (.const v) = .lit v := (rfl)
theorem ev_func (C : Ctx) (s : St) (f : FuncId) : s.ev C (.func f) = .clo (.func f) [] [] := (rfl)
theorem ev_global (C : Ctx) (s : St) (i : Nat) : s.ev C (.global i) = C.gl i := (rfl)
section
variable (t : Nat → V) (h : Nat → Option Blk) (nx : Nat) (ds : List Nat)
theorem put_some (i : Nat) (v : V) : (St.mk t h nx ds).put (some i) v = ⟨upd t i v, h, nx, ds⟩ := (rfl)
theorem put_none (s : St) (v : V) : s.put none v = s := (rfl)
theorem new_ord (i : Nat) (v : Nat → V) (cs : List V) : (St.mk t h nx ds).newAt none (some i) v cs = ⟨upd t i (v nx), upd h nx (some (.cells cs)), nx + 1, ds⟩ := (rfl)
theorem new_draw (b k : Nat) (i : Nat) (v : Nat → V) (cs : List V) : (St.mk t h nx ds).newAt (some (b, k)) (some i) v cs = ⟨upd t i (v k), upd h k (some (.cells cs)), nx, ds⟩ := (rfl)
theorem app_new (i : Nat) (rows ys : List (List V)) :
    (St.mk t h nx ds).appAt none (some i) none rows ys = ⟨upd t i (.sl (.own nx) (rows ++ ys)), upd h nx (some (.room (rows.length + ys.length))), nx + 1, ds⟩ := by
  simp [St.appAt, St.put, noOf, nextNo]
theorem app_old (i b : Nat) (rows ys : List (List V)) (hb : b ≠ nx) :
    (St.mk t h nx ds).appAt none (some i) (some b) rows ys = ⟨upd t i (.sl (.own b) (rows ++ ys)), upd h b (some (.room (rows.length + ys.length))), nx, ds⟩ := by
  simp [St.appAt, St.put, noOf, nextNo, hb]
theorem app_draw (b k : Nat) (i : Nat) (tok : Option Nat) (rows ys : List (List V)) :
    (St.mk t h nx ds).appAt (some (b, k)) (some i) tok rows ys = ⟨upd t i (.sl (.own (tok.getD k)) (rows ++ ys)), upd h (tok.getD k) (some (.room (rows.length + ys.length))), nx, ds⟩ := (rfl)
end

theorem bindO_if {α : Type} {c : Prop} [Decidable c] {v : α} {k : α → Prop} (hc : c) (hk : k v) : bindO (if c then some v else none) k := by rw [if_pos hc]; exact hk
theorem D.int (k : IntKind) (i : Int) : D (.lit (.int k i)) := .lit _
theorem strip_lit (v : Value) : strip (.lit v) = .lit v := (rfl)
theorem strip1_lit (v : Value) : strip1 (.lit v) = .lit v := (rfl)

/-- A function's end, where no range over a function was. -/
theorem retQ_normal {P : Program} {rs : List ResultVar} {R : V → Prop} {t : Nat → V} {h : Nat → Option Blk} {nx : Nat} :
    retQ P rs R .normal ⟨t, h, nx, []⟩ = ∃ r, resV P ⟨t, h, nx, []⟩ rs = some r ∧ D (finV h (fun _ => none) r) ∧ R (finV h (fun _ => none) r) := by
  simp [retQ, dsOk]
theorem retQ_ret {P : Program} {rs : List ResultVar} {R : V → Prop} {t : Nat → V} {h : Nat → Option Blk} {nx : Nat} :
    retQ P rs R .ret ⟨t, h, nx, []⟩ = ∃ r, resV P ⟨t, h, nx, []⟩ rs = some r ∧ D (finV h (fun _ => none) r) ∧ R (finV h (fun _ => none) r) := by
  simp [retQ, dsOk]

end Go.Proofs.YtkelfbakcpidjaaGreatDoor
