/- Indexes, cuts, lengths, structs put together, function values. -/
import Derived.Test.YtkelfbakcpidjaaGreatDoorAmPure2
set_option linter.unusedVariables false
set_option linter.unusedSimpArgs false
namespace Go.Proofs.YtkelfbakcpidjaaGreatDoor
open Go.RowKit

theorem elt_spec {P : Program} {t e : TypeId} (h : elt P t = some e) : P.underlying t = some (.slice e) := by
  unfold elt at h
  split at h
  · rename_i hd; injection h with h; subst h; exact hd
  · cases h

/-- The address of a slice's element: it is read alone. -/
def indexSlV (P : Program) (t : TypeId) (x i : V) : Option V :=
  match elt P t with
  | none => none
  | some e => match ty P e with
    | some (_, sz) => match x, i with
      | .sl _ rows, .lit (.int _ n) => if 0 ≤ n then (match rows[n.toNat]? with
        | some r => if r.length = sz then some (.ept r 0) else none
        | none => none) else none
      | .hs b o n _ sz', .lit (.int _ i) => if 0 ≤ i ∧ i < n ∧ sz' = sz then some (.ptr b (o + i.toNat * sz)) else none
      | _, _ => none
    | none => none

theorem evs_indexSl {P : Program} {E : Env} {s : St} {o : Oper} {t : TypeId} {x i : Operand} {v : V} (ho : o.op = .indexAddr t x i)
    (h : indexSlV P t (s.ev E.c x) (s.ev E.c i) = some v) : Evs P E s o v := by
  intro g a w H
  have hx := H.ev x
  have hi := H.ev i
  unfold indexSlV at h
  cases he : elt P t with
  | none => simp [he] at h
  | some e =>
    simp only [he] at h
    have hd := elt_spec he
    cases hty : ty P e with
    | none => simp [hty] at h
    | some q =>
      obtain ⟨ag, sz⟩ := q
      simp only [hty] at h
      generalize s.ev E.c x = vx at h hx
      generalize s.ev E.c i = vi at h hi
      split at h
      · rename_i c rows k n
        split at h
        · rename_i hn
          split at h
          · rename_i r hr
            split at h
            · rename_i hlen
              injection h with h; subst h
              have hlt : n.toNat < rows.length := (List.getElem?_eq_some_iff.1 hr).1
              generalize hex : a.eval x = cx at hx
              generalize hei : a.eval i = ci at hi
              cases hi
              cases hx with
              | slnil _ _ _ => simp at hlt
              | sl _ _ sz' blk off cap f hcap hs hc hv hxx ho' =>
                have hsz : sz' = sz := by rw [← hs _ r hr]; exact hlen
                subst hsz
                refine ⟨.pointer (some ⟨blk, off + n.toNat * sz', none⟩), ?_, ?_⟩
                · simp only [execOp, ho, hex, hei]
                  have h2 : n < (rows.length : Int) := by omega
                  simp [Instr.indexAt, asIntOf, underlying, hd, Result.andThen, hn, h2, run_sizeOf hty, Addr.add_mk]
                · have := RV.ept (g := g) r 0 blk (off + n.toNat * sz') (fun j => f n.toNat j) (fun j hj => by
                    rw [Nat.add_assoc]; exact hc n.toNat j hlt (by omega)) (fun j x hx => hv n.toNat r j x hr hx)
                  simpa using this
            · cases h
          · cases h
        · cases h
      · rename_i b o' n cap sz' k j
        split at h
        · rename_i hn
          obtain ⟨h0, h1, rfl⟩ := hn
          injection h with h; subst h
          generalize hex : a.eval x = cx at hx
          generalize hei : a.eval i = ci at hi
          cases hi
          cases hx with
          | hs _ _ _ _ _ cb cap' hm hcap =>
            refine ⟨.pointer (some ⟨cb, o' + j.toNat * sz', none⟩), ?_, .ptr _ _ _ hm⟩
            simp only [execOp, ho, hex, hei]
            simp [Instr.indexAt, asIntOf, underlying, hd, Result.andThen, h0, h1, run_sizeOf hty, Addr.add_mk]
        · cases h
      · cases h

/-- An array's length, the cells of its elements. -/
def arrT (P : Program) (t : TypeId) : Option (Nat × Nat) :=
  match P.underlying t with
  | some (.array n e) => (ty P e).map fun q => (n, q.2)
  | _ => none
theorem arrT_spec {P : Program} {t : TypeId} {n sz : Nat} (h : arrT P t = some (n, sz)) : ∃ e ag, P.underlying t = some (.array n e) ∧ ty P e = some (ag, sz) := by
  unfold arrT at h
  split at h
  · rename_i m e hd
    simp only [Option.map_eq_some_iff] at h
    obtain ⟨⟨ag, k⟩, hq, he⟩ := h
    simp only [Prod.mk.injEq] at he
    obtain ⟨rfl, rfl⟩ := he
    exact ⟨e, ag, hd, hq⟩
  · cases h

/-- The address of an array's element. -/
def indexArrV (P : Program) (t : TypeId) (x i : V) : Option V :=
  match arrT P t with
  | none => none
  | some (n, sz) => match x, i with
    | .ptr b o, .lit (.int _ k) => if 0 ≤ k ∧ k < n then some (.ptr b (o + k.toNat * sz)) else none
    | .ept row o, .lit (.int _ k) => if 0 ≤ k ∧ k < n then some (.ept row (o + k.toNat * sz)) else none
    | _, _ => none

theorem evs_indexArr {P : Program} {E : Env} {s : St} {o : Oper} {t : TypeId} {x i : Operand} {v : V} (ho : o.op = .indexAddr t x i)
    (h : indexArrV P t (s.ev E.c x) (s.ev E.c i) = some v) : Evs P E s o v := by
  intro g a w H
  have hx := H.ev x
  have hi := H.ev i
  unfold indexArrV at h
  cases ha : arrT P t with
  | none => simp [ha] at h
  | some q =>
    obtain ⟨n, sz⟩ := q
    simp only [ha] at h
    obtain ⟨e, ag, hd, hty⟩ := arrT_spec ha
    generalize s.ev E.c x = vx at h hx
    generalize s.ev E.c i = vi at h hi
    split at h
    · rename_i b o' k' k
      split at h
      · rename_i hk
        injection h with h; subst h
        generalize hex : a.eval x = cx at hx
        generalize hei : a.eval i = ci at hi
        cases hi
        cases hx with
        | ptr _ _ cb hm =>
          refine ⟨.pointer (some ⟨cb, o' + k.toNat * sz, none⟩), ?_, .ptr _ _ _ hm⟩
          simp only [execOp, ho, hex, hei]
          simp [Instr.indexAt, Instr.sureAddr, asIntOf, underlying, hd, Result.andThen, hk.1, hk.2, run_sizeOf hty, Addr.add_mk]
      · cases h
    · rename_i row o' k' k
      split at h
      · rename_i hk
        injection h with h; subst h
        generalize hex : a.eval x = cx at hx
        generalize hei : a.eval i = ci at hi
        cases hi
        cases hx with
        | ept _ _ blk off f hc hv =>
          refine ⟨.pointer (some ⟨blk, off + o' + k.toNat * sz, none⟩), ?_, ?_⟩
          · simp only [execOp, ho, hex, hei]
            simp [Instr.indexAt, Instr.sureAddr, asIntOf, underlying, hd, Result.andThen, hk.1, hk.2, run_sizeOf hty, Addr.add_mk]
          · rw [Nat.add_assoc]; exact .ept _ _ _ _ f hc hv
      · cases h
    · cases h

/-- The address of an element. -/
def indexAddrV (P : Program) (t : TypeId) (x i : V) : Option V := match elt P t with
  | some _ => indexSlV P t x i
  | none => indexArrV P t x i
theorem evs_indexAddr {P : Program} {E : Env} {s : St} {o : Oper} {t : TypeId} {x i : Operand} {v : V} (ho : o.op = .indexAddr t x i)
    (h : indexAddrV P t (s.ev E.c x) (s.ev E.c i) = some v) : Evs P E s o v := by
  unfold indexAddrV at h
  split at h
  · exact evs_indexSl ho h
  · exact evs_indexArr ho h

/-- A string's byte; an element of an array that is a value. -/
def indexV (P : Program) (t : TypeId) (x i : V) : Option V :=
  if isStrT P t = true then (match x, i with
    | .lit (.string b), .lit (.int _ n) => if 0 ≤ n then (match b[n.toNat]? with
      | some c => some (.lit (.int .u8 c.toNat))
      | none => none) else none
    | _, _ => none)
  else none

theorem isStrT_spec {P : Program} {t : TypeId} (h : isStrT P t = true) : P.underlying t = some .string := by
  unfold isStrT at h
  split at h
  · rename_i hd; exact hd
  · cases h

theorem evs_index {P : Program} {E : Env} {s : St} {o : Oper} {t : TypeId} {x i : Operand} {v : V} (ho : o.op = .index t x i)
    (h : indexV P t (s.ev E.c x) (s.ev E.c i) = some v) : Evs P E s o v := by
  intro g a w H
  have hx := H.ev x
  have hi := H.ev i
  unfold indexV at h
  split at h
  · rename_i hs
    have hd := isStrT_spec hs
    generalize s.ev E.c x = vx at h hx
    generalize s.ev E.c i = vi at h hi
    split at h
    · rename_i b k n
      split at h
      · rename_i hn
        split at h
        · rename_i c hc
          injection h with h; subst h
          generalize hex : a.eval x = cx at hx
          generalize hei : a.eval i = ci at hi
          cases hx; cases hi
          exact ⟨_, by simp [execOp, ho, hex, hei, Instr.index, asIntOf, underlying, hd, Result.andThen, hn, hc], .lit _⟩
        · cases h
      · cases h
    · cases h
  · cases h

def lenV (P : Program) (t : TypeId) (x : V) : Option V :=
  match x with
  | .lit (.string b) => if isStrT P t = true then some (.lit (.int .i64 b.size)) else none
  | .lit (.slice none 0 0) => if isSliceT P t = true then some (.lit (.int .i64 0)) else none
  | .sl _ rows => if isSliceT P t = true then some (.lit (.int .i64 rows.length)) else none
  | .hs _ _ n _ _ => if isSliceT P t = true then some (.lit (.int .i64 n)) else none
  | _ => none

theorem isSliceT_spec {P : Program} {t : TypeId} (h : isSliceT P t = true) : ∃ e, P.underlying t = some (.slice e) := by
  unfold isSliceT at h
  split at h
  · rename_i e hd; exact ⟨e, hd⟩
  · cases h

theorem evs_len {P : Program} {E : Env} {s : St} {o : Oper} {t : TypeId} {x : Operand} {v : V} (ho : o.op = .call { callee := .builtin .len, args := #[x], argTypes := #[t] })
    (h : lenV P t (s.ev E.c x) = some v) : Evs P E s o v := by
  intro g a w H
  have hx := H.ev x
  generalize s.ev E.c x = vx at h hx
  unfold lenV at h
  generalize he : a.eval x = c at hx
  split at h
  · split at h
    · rename_i hs
      injection h with h; subst h
      cases hx
      exact ⟨_, by simp [execOp, ho, he, resolve, invoke, builtin, Builtin.len_, underlying, isStrT_spec hs, Result.andThen, goInt], .lit _⟩
    · cases h
  · split at h
    · rename_i hs
      injection h with h; subst h
      obtain ⟨e, hd⟩ := isSliceT_spec hs
      cases hx
      exact ⟨_, by simp [execOp, ho, he, resolve, invoke, builtin, Builtin.len_, underlying, hd, Result.andThen, goInt], .lit _⟩
    · cases h
  · split at h
    · rename_i hs
      injection h with h; subst h
      obtain ⟨e, hd⟩ := isSliceT_spec hs
      cases hx with
      | sl => exact ⟨_, by simp [execOp, ho, he, resolve, invoke, builtin, Builtin.len_, underlying, hd, Result.andThen, goInt], .lit _⟩
      | slnil => exact ⟨_, by simp [execOp, ho, he, resolve, invoke, builtin, Builtin.len_, underlying, hd, Result.andThen, goInt], .lit _⟩
    · cases h
  · split at h
    · rename_i hs
      injection h with h; subst h
      obtain ⟨e, hd⟩ := isSliceT_spec hs
      cases hx
      exact ⟨_, by simp [execOp, ho, he, resolve, invoke, builtin, Builtin.len_, underlying, hd, Result.andThen, goInt], .lit _⟩
    · cases h
  · cases h

/-- A cut: a bound that is left out, or a number. -/
def boundV (C : Ctx) (s : St) (x : Option Operand) (d : Nat) : Option Nat :=
  match x with
  | none => some d
  | some y => match s.ev C y with
    | .lit (.int _ n) => if 0 ≤ n then some n.toNat else none
    | _ => none

end Go.Proofs.YtkelfbakcpidjaaGreatDoor
