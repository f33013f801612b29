/- The operations that make a value and turn nothing: what they come to on abstract values. -/
import Derived.Test.YtkelfbakcpidjaaGreatDoorAmMem
set_option linter.unusedVariables false
set_option linter.unusedSimpArgs false
namespace Go.Proofs.YtkelfbakcpidjaaGreatDoor
open Go.RowKit

def St.ev (C : Ctx) (s : St) : Operand → V
  | .tmp i => s.t i
  | .const v => .lit v
  | .global g => C.gl g
  | .func f => .clo (.func f) [] []

/-- A type's make: is it a struct or an array; how many cells. -/
def ty (P : Program) (t : TypeId) : Option (Bool × Nat) :=
  match P.underlying t, P.info? t with
  | some (.struct _), some i => some (true, i.size)
  | some (.array _ _), some i => some (true, i.size)
  | some _, some i => some (false, i.size)
  | _, _ => none
/-- A field's place: where it begins, its make. -/
def fld (P : Program) (t : TypeId) (k : Nat) : Option (Nat × Bool × Nat) :=
  match P.underlying t with
  | some (.struct fs) => match fs[k]? with
    | some f => (ty P f.type).map fun q => (f.offset, q)
    | none => none
  | _ => none
/-- A slice's element type. -/
def elt (P : Program) (t : TypeId) : Option TypeId :=
  match P.underlying t with
  | some (.slice e) => some e
  | _ => none

def partV (q : Bool × Nat) (cs : List V) (o : Nat) : Option V :=
  if q.1 = true then (if o + q.2 ≤ cs.length then some (.agg ((cs.drop o).take q.2)) else none) else cs[o]?

def loadV (P : Program) (s : St) (t : TypeId) (x : V) : Option V :=
  match ty P t with
  | none => none
  | some q => match x with
    | .ptr b o => match s.h b with
      | some (.cells cs) => partV q cs o
      | _ => none
    | .ept row o => partV q row o
    | _ => none

def fieldAddrV (P : Program) (t : TypeId) (k : Nat) (x : V) : Option V :=
  match fld P t k with
  | some (off, _, n + 1) => match x with
    | .ptr b o => some (.ptr b (o + off))
    | .ept row o => some (.ept row (o + off))
    | _ => none
  | _ => none

def fieldV (P : Program) (t : TypeId) (k : Nat) (x : V) : Option V :=
  match fld P t k with
  | some (off, q) => match x with
    | .agg cs => partV q cs off
    | _ => none
  | _ => none

theorem Rel.ev {E : Env} {g : Gh} {s : St} {a : Act} {w : World} (H : Rel E g s a w) (x : Operand) : RV g (s.ev E.c x) (a.eval x) := by
  cases x with
  | tmp i => exact H.tmps i
  | const v => exact .lit v
  | global i => exact (H.mem.gl i).1
  | func f => exact .clo _ _ _ _ _ rfl rfl (fun i x y h => by simp at h) (fun i x y h => by simp at h)

theorem ty_spec {P : Program} {t : TypeId} {ag : Bool} {n : Nat} (h : ty P t = some (ag, n)) :
    ∃ d i, P.underlying t = some d ∧ P.info? t = some i ∧ i.size = n ∧ (∀ w, (isAgg t).run P w = .ok ag w) := by
  unfold ty at h
  cases hd : P.underlying t with
  | none => simp [hd] at h
  | some d =>
    cases hi : P.info? t with
    | none => simp [hd, hi] at h
    | some i =>
      refine ⟨d, i, rfl, rfl, ?_, fun w => ?_⟩
      · cases d <;> simp [hd, hi] at h <;> exact h.2
      · simp only [isAgg, Sem.run_bind, underlying, run_program]
        simp only [Result.andThen, hd, Sem.run_pure]
        cases d <;> simp [hd, hi] at h <;> simp [← h.1]

theorem run_sizeOf {P : Program} {t : TypeId} {ag : Bool} {n : Nat} (h : ty P t = some (ag, n)) (w : World) : (sizeOf t).run P w = .ok n w := by
  obtain ⟨d, i, _, hi, hn, _⟩ := ty_spec h
  simp [sizeOf, typeInfo, hi, hn]

theorem Addr.add_mk (b o n : Nat) : (⟨b, o, none⟩ : Addr).add n = ⟨b, o + n, none⟩ := by
  unfold Addr.add; split
  · rename_i h; subst h; rfl
  · rfl

/-- Cells that hold what is said are loaded. -/
theorem run_loadVar_at {P : Program} {t : TypeId} {q : Bool × Nat} (hq : ty P t = some q) {g : Gh} {w : World} {cs : List V} {blk off o : Nat} {f : Nat → Value}
    (hc : ∀ j, j < cs.length → w.cell? ⟨blk, off + j, none⟩ = some (f j)) (hv : ∀ j x, cs[j]? = some x → RV g x (f j)) {v : V} (h : partV q cs o = some v) :
    ∃ cv, (loadVar t ⟨blk, off + o, none⟩).run P w = .ok cv w ∧ RV g v cv := by
  obtain ⟨ag, n⟩ := q
  obtain ⟨d, i, hd, hi, hn, hag⟩ := ty_spec hq
  unfold partV at h
  cases ag with
  | true =>
    simp only [if_true] at h
    split at h
    · rename_i hle
      have hle' : o + n ≤ cs.length := hle
      injection h with h; subst h
      refine ⟨.agg ((List.range n).map fun j => f (o + j)).toArray, ?_, ?_⟩
      · simp only [loadVar, Sem.run_bind, hag w, Result.andThen, if_true, run_sizeOf hq w]
        rw [run_loadCells w ⟨blk, off + o, none⟩ n (fun j => f (o + j)) (fun j hj => by rw [Addr.add_mk, Nat.add_assoc]; exact hc (o + j) (by omega))]
        rfl
      · refine .agg _ _ (by simp; omega) (fun k x y h1 h2 => ?_)
        simp only [List.getElem?_take, List.getElem?_drop] at h1
        split at h1
        · rename_i hk
          simp only [List.getElem?_toArray, List.getElem?_map, List.getElem?_range hk, Option.map_some, Option.some.injEq] at h2
          subst h2
          exact hv _ x h1
        · cases h1
    · cases h
  | false =>
    simp only [Bool.false_eq_true, if_false] at h
    have hlt : o < cs.length := (List.getElem?_eq_some_iff.1 h).1
    refine ⟨f o, ?_, hv o v h⟩
    simp only [loadVar, Sem.run_bind, hag w, Result.andThen, Bool.false_eq_true, if_false, run_load, hc o hlt]

/-- An operation comes to a value and turns nothing. -/
def Evs (P : Program) (E : Env) (s : St) (o : Oper) (v : V) : Prop :=
  ∀ g a w, Rel E g s a w → ∃ cv, (execOp a.eval o).run P w = .ok (.value cv) w ∧ RV g v cv

theorem Mem.cells_cell {E : Env} {g : Gh} {h : Nat → Option Blk} {nx : Nat} {w : World} (H : Mem E g h nx w) {b : Nat} {cs : List V} (hb : h b = some (.cells cs)) :
    ∃ (cb : Nat) (f : Nat → Value), g.m b = some cb ∧ (∀ j, j < cs.length → w.cell? ⟨cb, 0 + j, none⟩ = some (f j)) ∧ (∀ j x, cs[j]? = some x → RV g x (f j)) := by
  obtain ⟨cb, arr, T, hm, hlo, hh, hs, hr, hz⟩ := (H.cells b cs hb).ex
  refine ⟨cb, fun j => arr.getD j undef, hm, fun j hj => ?_, fun j x hx => ?_⟩
  · have hj' : j < arr.size := by omega
    simp only [World.cell?, hh, Nat.zero_add]
    simp [hj']
  · have hj : j < cs.length := (List.getElem?_eq_some_iff.1 hx).1
    have hj' : j < arr.size := by omega
    exact hr j x _ hx (by simp [hj'])

theorem evs_load {P : Program} {E : Env} {s : St} {o : Oper} {t : TypeId} {x : Operand} {v : V} (ho : o.op = .load t x) (h : loadV P s t (s.ev E.c x) = some v) : Evs P E s o v := by
  intro g a w H
  have hx := H.ev x
  unfold loadV at h
  cases hq : ty P t with
  | none => simp [hq] at h
  | some q =>
    simp only [hq] at h
    generalize s.ev E.c x = y at h hx
    have fin : ∀ (ad : Addr), a.eval x = .pointer (some ad) → (∃ cv, (loadVar t ad).run P w = .ok cv w ∧ RV g v cv) →
        ∃ cv, (execOp a.eval o).run P w = .ok (.value cv) w ∧ RV g v cv := by
      rintro ad he ⟨cv, hr, hv⟩
      exact ⟨cv, by simp [execOp, ho, he, Instr.loadAt, Instr.sureAddr, hr, Result.andThen], hv⟩
    cases y with
    | ptr b o' =>
      simp only [] at h
      cases hb : s.h b with
      | none => simp [hb] at h
      | some blk =>
        cases blk with
        | cells cs =>
          simp only [hb] at h
          obtain ⟨cb, f, hm, hc, hv⟩ := H.mem.cells_cell hb
          generalize he : a.eval x = c at hx
          cases hx with
          | ptr _ _ cb' hm' =>
            rw [hm] at hm'; injection hm' with hm'; subst hm'
            have := run_loadVar_at (g := g) hq hc hv h
            rw [Nat.zero_add] at this
            exact fin _ he this
        | _ => simp [hb] at h
    | ept row o' =>
      simp only [] at h
      generalize he : a.eval x = c at hx
      cases hx with
      | ept _ _ blk off f hc hv =>
        exact fin _ he (run_loadVar_at hq (fun j hj => H.mem.fz _ _ _ (hc j hj)) hv h)
    | _ => simp at h

theorem fld_spec {P : Program} {t : TypeId} {k off : Nat} {q : Bool × Nat} (h : fld P t k = some (off, q)) :
    ∃ fs f, P.underlying t = some (.struct fs) ∧ fs[k]? = some f ∧ f.offset = off ∧ ty P f.type = some q := by
  unfold fld at h
  cases hd : P.underlying t with
  | none => simp [hd] at h
  | some d =>
    cases d <;> simp only [hd] at h <;> try cases h
    rename_i fs
    cases hf : fs[k]? with
    | none => simp [hf] at h
    | some f =>
      simp only [hf, Option.map_eq_some_iff] at h
      obtain ⟨q', hq, he⟩ := h
      injection he with h1 h2; subst h2
      exact ⟨fs, f, rfl, hf, h1, hq⟩

theorem evs_fieldAddr {P : Program} {E : Env} {s : St} {o : Oper} {t : TypeId} {x : Operand} {k : Nat} {v : V} (ho : o.op = .fieldAddr t x k)
    (h : fieldAddrV P t k (s.ev E.c x) = some v) : Evs P E s o v := by
  intro g a w H
  have hx := H.ev x
  unfold fieldAddrV at h
  split at h
  · rename_i off ag n hf
    obtain ⟨fs, f, hd, hk, hoff, hty⟩ := fld_spec hf
    generalize s.ev E.c x = y at h hx
    have fin : ∀ (b oo : Nat), a.eval x = .pointer (some ⟨b, oo, none⟩) → RV g v (.pointer (some ⟨b, oo + off, none⟩)) →
        ∃ cv, (execOp a.eval o).run P w = .ok (.value cv) w ∧ RV g v cv := by
      intro b oo he hv
      refine ⟨_, ?_, hv⟩
      simp [execOp, ho, he, Instr.fieldAt, Instr.sureAddr, Result.andThen, underlying, hd, hk, fieldPlace, run_sizeOf hty, hoff, Addr.add_mk]
    cases y with
    | ptr b o' =>
      simp only [Option.some.injEq] at h; subst h
      generalize he : a.eval x = c at hx
      cases hx with
      | ptr _ _ cb hm => exact fin _ _ he (.ptr _ _ _ hm)
    | ept row o' =>
      simp only [Option.some.injEq] at h; subst h
      generalize he : a.eval x = c at hx
      cases hx with
      | ept _ _ blk off' f hc hv => exact fin _ _ he (by rw [Nat.add_assoc]; exact .ept _ _ _ _ f hc hv)
    | _ => simp at h
  · cases h

end Go.Proofs.YtkelfbakcpidjaaGreatDoor
