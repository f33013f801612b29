/- Slices laid out, appended to, cut. -/
import Derived.Test.YtkelfbakcpidjaaGreatDoorAmBuild
set_option linter.unusedVariables false
set_option linter.unusedSimpArgs false
namespace Go.Proofs.YtkelfbakcpidjaaGreatDoor
open Go.RowKit

def chunkV : Nat → Nat → List V → List (List V)
  | 0, _, _ => []
  | n + 1, sz, cs => cs.take sz :: chunkV n sz (cs.drop sz)

theorem chunkV_length (sz : Nat) : ∀ (n : Nat) (cs : List V), (chunkV n sz cs).length = n := by
  intro n; induction n with
  | zero => intro cs; rfl
  | succ n ih => intro cs; simp [chunkV, ih]

theorem chunkV_at (sz : Nat) : ∀ (n : Nat) (cs : List V) (i : Nat), i < n → (chunkV n sz cs)[i]? = some ((cs.drop (i * sz)).take sz) := by
  intro n; induction n with
  | zero => intro cs i hi; omega
  | succ n ih =>
    intro cs i hi
    cases i with
    | zero => simp [chunkV]
    | succ i =>
      simp only [chunkV, List.getElem?_cons_succ]
      rw [ih _ i (by omega), List.drop_drop]
      congr 3
      rw [Nat.add_mul]; omega

/-- A row of cells in a block whose cells are frozen from its head on. -/
theorem RV.row {g : Gh} {rows : List (List V)} {sz blk off cap : Nat} {arr : Array Value} {c : Cap} (hn : rows.length ≤ cap) (hs : ∀ (i : Nat) r, rows[i]? = some r → r.length = sz)
    (hc : ∀ k, k < rows.length * sz → g.fz blk (off + k) = some (arr.getD k Go.undef))
    (hv : ∀ (i : Nat) r j x, rows[i]? = some r → r[j]? = some x → RV g x (arr.getD (i * sz + j) Go.undef)) (hx : c = .exact → cap = rows.length)
    (ho : ∀ b, c = .own b → g.loc b rows.length = some (blk, off, cap, sz)) : RV g (.sl c rows) (.slice (some ⟨blk, off, none⟩) rows.length cap) :=
  .sl c rows sz blk off cap (fun i j => arr.getD (i * sz + j) Go.undef) hn hs (fun i j hi hj => hc (i * sz + j) (by
    have : (i + 1) * sz ≤ rows.length * sz := Nat.mul_le_mul_right _ hi
    rw [Nat.add_mul] at this; omega)) hv hx ho

def eltSz (P : Program) (t : TypeId) : Option (TypeId × Nat) :=
  match elt P t with
  | some e => match ty P e with
    | some (_, sz) => some (e, sz)
    | none => none
  | none => none

theorem eltSz_spec {P : Program} {t e : TypeId} {sz : Nat} (h : eltSz P t = some (e, sz)) : P.underlying t = some (.slice e) ∧ ∃ ag, ty P e = some (ag, sz) := by
  unfold eltSz at h
  cases he : elt P t with
  | none => simp [he] at h
  | some e' =>
    cases hq : ty P e' with
    | none => simp [he, hq] at h
    | some q =>
      obtain ⟨ag, n⟩ := q
      simp only [he, hq, Option.some.injEq, Prod.mk.injEq] at h
      obtain ⟨rfl, rfl⟩ := h
      exact ⟨elt_spec he, ag, hq⟩

def zerosV (zs : List V) : Nat → List V
  | 0 => []
  | n + 1 => zs ++ zerosV zs n

theorem zerosV_length (zs : List V) (n : Nat) : (zerosV zs n).length = n * zs.length := by
  induction n with
  | zero => simp [zerosV]
  | succ n ih => simp [zerosV, ih, Nat.add_mul]; omega

theorem zerosV_at (zs : List V) : ∀ (n i : Nat), i < n * zs.length → (zerosV zs n)[i]? = zs[i % zs.length]? := by
  intro n; induction n with
  | zero => intro i hi; simp at hi
  | succ n ih =>
    intro i hi
    rw [Nat.add_mul] at hi
    simp only [zerosV]
    by_cases h : i < zs.length
    · rw [List.getElem?_append_left h, Nat.mod_eq_of_lt h]
    · rw [List.getElem?_append_right (by omega), ih _ (by omega)]
      congr 1
      conv => rhs; rw [show i = (i - zs.length) + zs.length by omega, Nat.add_mod_right]

/-- A slice laid out: its rows. -/
def buildSliceV (P : Program) (C : Ctx) (s : St) (t : TypeId) (n : Nat) (parts : List (Nat × Operand)) : Option (List (List V)) :=
  match eltSz P t with
  | none => none
  | some (e, sz) => match zeroL P e with
    | none => none
    | some zs => if zs.length = sz ∧ 0 < sz ∧ n * sz ≤ 16777216 then (match fillV (fun i => some (i * sz, sz)) (zerosV zs n) (parts.map fun p => (p.1, s.ev C p.2)) with
      | some cs => some (chunkV n sz cs)
      | none => none) else none

variable {P : Program} {E : Env} {ops : Array Oper} {o : Oper} {l : List Oper} {s : St} {Q : Exit → St → Prop}

theorem fillV_length {pl : Nat → Option (Nat × Nat)} : ∀ (ps : List (Nat × V)) (cs out : List V), fillV pl cs ps = some out → out.length = cs.length := by
  intro ps; induction ps with
  | nil => intro cs out h; simp only [fillV, Option.some.injEq] at h; subst h; rfl
  | cons p ps ih =>
    intro cs out h
    obtain ⟨i, v⟩ := p
    simp only [fillV] at h
    cases hpl : pl i with
    | none => simp [hpl] at h
    | some q =>
      obtain ⟨off, size⟩ := q
      cases hcv : cellsV v with
      | none => simp [hpl, hcv] at h
      | some vs =>
        simp only [hpl, hcv] at h
        split at h
        · rename_i hle; rw [ih _ _ h]; simp; omega
        · cases h

theorem TrL.buildSlice {t : TypeId} {n : Nat} {parts : Array (Nat × Operand)} {rows : List (List V)} (hw : wantV ops s o = some true) (hd : dstOk E o.dst) (ho : o.op = .buildSlice t n parts)
    (hb : buildSliceV P E.c s t n parts.toList = some rows) (h : TrL P E ops l (s.put o.dst (.sl .exact rows)) Q) : TrL P E ops (o :: l) s Q := by
  intro g a w H
  unfold buildSliceV at hb
  cases hes : eltSz P t with
  | none => simp [hes] at hb
  | some q =>
    obtain ⟨e, sz⟩ := q
    simp only [hes] at hb
    obtain ⟨hu, ag, hty⟩ := eltSz_spec hes
    cases hz : zeroL P e with
    | none => simp [hz] at hb
    | some zs =>
      simp only [hz] at hb
      split at hb
      · rename_i hc
        obtain ⟨hzl, hsz, hlim⟩ := hc
        cases hfi : fillV (fun i => some (i * sz, sz)) (zerosV zs n) (parts.toList.map fun p => (p.1, s.ev E.c p.2)) with
        | none => rw [hfi] at hb; cases hb
        | some cs =>
          rw [hfi] at hb
          injection hb with hb; subst hb
          obtain ⟨z, hz1, hz2⟩ := run_zeroValue hz
          have hzsz : z.cells.size = sz := by rw [← hzl, hz2]; simp
          have hlen : cs.length = n * sz := by rw [fillV_length _ _ _ hfi, zerosV_length, hzl]
          obtain ⟨arr, ha, hr⟩ := fill_rel (g := g) (fun i => some (i * sz, sz)) (parts.toList.map fun p => (p.1, a.eval p.2)) (parts.toList.map fun p => (p.1, s.ev E.c p.2))
            ((Array.range (n * sz)).map (z.cells[· % z.cells.size]!)) (zerosV zs n) cs (by simp)
            (fun k p q h1 h2 => by
              simp only [List.getElem?_map, Option.map_eq_some_iff] at h1 h2
              obtain ⟨p', hp, rfl⟩ := h1
              obtain ⟨q', hq, rfl⟩ := h2
              rw [hp] at hq; injection hq with hq; subst hq
              exact ⟨rfl, H.ev _⟩)
            ⟨by rw [zerosV_length, hzl]; simp, fun i x y h1 h2 => by
              have hi : i < n * sz := by
                have := (List.getElem?_eq_some_iff.1 h1).1
                rw [zerosV_length, hzl] at this; exact this
              rw [zerosV_at _ _ _ (by rw [hzl]; exact hi), hzl, hz2] at h1
              simp only [List.getElem?_map, Option.map_eq_some_iff] at h1
              obtain ⟨q, hq, rfl⟩ := h1
              have hm : i % sz < z.cells.size := by rw [hzsz]; exact Nat.mod_lt _ hsz
              simp only [Array.getElem?_map, Array.getElem?_range, hi, if_true, Option.map_some, Option.some.injEq] at h2
              rw [hzsz] at h2
              have e1 : z.cells[i % sz]! = z.cells[i % sz] := by simp [hm]
              rw [e1] at h2
              have e2 : z.cells.toList[i % sz]? = some z.cells[i % sz] := by simp [hm]
              rw [e2] at hq; injection hq with hq
              rw [← h2, ← hq]; exact .lit _⟩ hfi
          have hexec : (execOp a.eval o).run P w = .ok (.value (.slice (some ⟨w.heap.size, 0, none⟩) n n)) (w.alloc (.cells arr e)) := by
            have hparts : (parts.map fun (p : Nat × Operand) => (p.1, a.eval p.2)).toList = parts.toList.map fun p => (p.1, a.eval p.2) := by simp
            simp only [execOp, ho, Instr.buildSlice]
            simp only [Sem.run_bind, underlying, run_program, Result.andThen_ok, hu, Sem.run_pure, run_sizeOf hty]
            have e3 : ¬ (n * sz > 2 ^ 24) := by omega
            rw [if_neg e3]
            by_cases h0 : n * sz = 0
            · have hn0 : n = 0 := by
                rcases Nat.mul_eq_zero.1 h0 with h | h
                · exact h
                · omega
              rw [if_pos h0]
              simp only [Sem.run_bind, Sem.run_pure, Result.andThen_ok, hparts]
              have e4 : ((Array.range (n * sz)).map fun x => (#[] : Array Value)[x % (#[] : Array Value).size]!) = (Array.range (n * sz)).map (z.cells[· % z.cells.size]!) := by rw [h0]; simp
              rw [e4, ha]
              simp [Result.andThen, newRow, newObj, Sem.run]
            · rw [if_neg h0]
              simp only [Sem.run_bind, hz1, Sem.run_pure, Result.andThen_ok, hparts, ha]
              simp [Result.andThen, newRow, newObj, Sem.run]
          refine of_exec (wantV_spec hw H) (by rw [ho]; intro c hc; cases hc) hexec ?_
          have hsz2 : arr.size = n * sz := by rw [hr.1, hlen]
          have hm := H.mem.fresh arr e arr.size
          have H2 := H.mem' (s := s) hm (Gh.frz_le H.mem.fz_new)
          have hrow : RV (g.frz w.heap.size arr arr.size) (.sl .exact (chunkV n sz cs)) (.slice (some ⟨w.heap.size, 0, none⟩) n n) := by
            have := RV.row (g := g.frz w.heap.size arr arr.size) (rows := chunkV n sz cs) (sz := sz) (blk := w.heap.size) (off := 0) (cap := n) (arr := arr) (c := .exact) (by rw [chunkV_length]; exact Nat.le_refl _)
              (fun i r hi => by
                have hlt : i < n := by have := (List.getElem?_eq_some_iff.1 hi).1; rwa [chunkV_length] at this
                rw [chunkV_at _ _ _ _ hlt] at hi
                injection hi with hi; subst hi
                have : (i + 1) * sz ≤ n * sz := Nat.mul_le_mul_right _ hlt
                rw [Nat.add_mul] at this
                simp; omega)
              (fun k hk => by
                rw [chunkV_length] at hk
                show (if w.heap.size = w.heap.size ∧ 0 + k < arr.size then arr[0 + k]? else _) = _
                rw [if_pos ⟨rfl, by omega⟩, Nat.zero_add]
                simp [Array.getD, show k < arr.size by omega])
              (fun i r j x hi hj => by
                have hlt : i < n := by have := (List.getElem?_eq_some_iff.1 hi).1; rwa [chunkV_length] at this
                rw [chunkV_at _ _ _ _ hlt] at hi
                injection hi with hi; subst hi
                rw [List.getElem?_take] at hj
                split at hj
                · rename_i hjs
                  rw [List.getElem?_drop] at hj
                  have : (i + 1) * sz ≤ n * sz := Nat.mul_le_mul_right _ hlt
                  rw [Nat.add_mul] at this
                  exact Gh.frz_mono H.mem.fz_new (hr.2 _ x _ hj (by simp [Array.getD, show i * sz + j < arr.size by omega]))
                · cases hj)
              (fun _ => (chunkV_length _ _ _).symm) (fun b hb => by cases hb)
            rwa [chunkV_length] at this
          exact h _ _ _ (H2.put hd hrow)
      · cases hb

end Go.Proofs.YtkelfbakcpidjaaGreatDoor
