/- Structs, arrays and slices put together. -/
import Derived.Test.YtkelfbakcpidjaaGreatDoorAmStep
set_option linter.unusedVariables false
set_option linter.unusedSimpArgs false
namespace Go.Proofs.YtkelfbakcpidjaaGreatDoor
open Go.RowKit

def fillV (pl : Nat → Option (Nat × Nat)) (cells : List V) : List (Nat × V) → Option (List V)
  | [] => some cells
  | (i, v) :: rest => match pl i, cellsV v with
    | some (off, size), some vs => if vs.length = size ∧ off + size ≤ cells.length then fillV pl (cells.take off ++ vs ++ cells.drop (off + size)) rest else none
    | _, _ => none

theorem foldl_set (l : List Value) : ∀ (k off : Nat) (arr : Array Value), off + k + l.length ≤ arr.size →
    ((l.zipIdx k).foldl (fun cs p => cs.setIfInBounds (off + p.2) p.1) arr).size = arr.size ∧
    ∀ i, ((l.zipIdx k).foldl (fun cs p => cs.setIfInBounds (off + p.2) p.1) arr)[i]? = if off + k ≤ i ∧ i < off + k + l.length then l[i - (off + k)]? else arr[i]? := by
  induction l with
  | nil => intro k off arr h; exact ⟨rfl, fun i => by rw [if_neg (by simp)]; rfl⟩
  | cons c l ih =>
    intro k off arr h
    simp only [List.length_cons] at h
    simp only [List.zipIdx_cons, List.foldl_cons]
    obtain ⟨h1, h2⟩ := ih (k + 1) off (arr.setIfInBounds (off + k) c) (by simp; omega)
    refine ⟨by rw [h1]; simp, fun i => ?_⟩
    rw [h2]
    by_cases e : i = off + k
    · subst e
      rw [if_neg (by omega), if_pos (by simp)]
      simp only [Nat.sub_self, List.getElem?_cons_zero]
      rw [Array.getElem?_setIfInBounds_self, if_pos (by omega)]
    · by_cases hi : off + (k + 1) ≤ i ∧ i < off + (k + 1) + l.length
      · rw [if_pos hi, if_pos (by simp; omega)]
        have : i - (off + k) = (i - (off + (k + 1))) + 1 := by omega
        rw [this, List.getElem?_cons_succ]
      · rw [if_neg hi, if_neg (by simp; omega), Array.getElem?_setIfInBounds_ne (by omega)]

/-- Cells that hold what is said, one by one. -/
def RC (g : Gh) (cs : List V) (arr : Array Value) : Prop := arr.size = cs.length ∧ ∀ (i : Nat) x y, cs[i]? = some x → arr[i]? = some y → RV g x y

theorem fill_rel {g : Gh} (pl : Nat → Option (Nat × Nat)) : ∀ (ps : List (Nat × Value)) (vps : List (Nat × V)) (cells : Array Value) (cs out : List V), ps.length = vps.length →
    (∀ (k : Nat) p q, vps[k]? = some p → ps[k]? = some q → p.1 = q.1 ∧ RV g p.2 q.2) → RC g cs cells → fillV pl cs vps = some out →
    ∃ arr, Instr.fill pl cells ps = some arr ∧ RC g out arr := by
  intro ps
  induction ps with
  | nil =>
    intro vps cells cs out hl hp hc h
    cases vps with
    | nil => simp only [fillV, Option.some.injEq] at h; subst h; exact ⟨cells, rfl, hc⟩
    | cons _ _ => simp at hl
  | cons p ps ih =>
    intro vps cells cs out hl hp hc h
    cases vps with
    | nil => simp at hl
    | cons q vps =>
      obtain ⟨i, v⟩ := p
      obtain ⟨i', x⟩ := q
      obtain ⟨e, hrv⟩ := hp 0 _ _ rfl rfl
      simp only at e hrv
      subst e
      simp only [fillV] at h
      cases hpl : pl i' with
      | none => simp [hpl] at h
      | some os =>
        obtain ⟨off, size⟩ := os
        cases hcv : cellsV x with
        | none => simp [hpl, hcv] at h
        | some vs =>
          simp only [hpl, hcv] at h
          split at h
          · rename_i hle
            obtain ⟨c1, c2, c3⟩ := hrv.cells hcv
            obtain ⟨f1, f2⟩ := foldl_set v.cells.toList 0 off cells (by rw [hc.1, Array.length_toList, c1]; omega)
            have hfold : v.cells.zipIdx.foldl (fun cs (p : Value × Nat) => cs.setIfInBounds (off + p.2) p.1) cells = (v.cells.toList.zipIdx 0).foldl (fun cs p => cs.setIfInBounds (off + p.2) p.1) cells := by
              rw [← Array.foldl_toList]; simp
            have hRC : RC g (cs.take off ++ vs ++ cs.drop (off + size)) (v.cells.zipIdx.foldl (fun cs (p : Value × Nat) => cs.setIfInBounds (off + p.2) p.1) cells) := by
              rw [hfold]
              refine ⟨by rw [f1, hc.1]; simp; omega, fun k u y h1 h2 => ?_⟩
              rw [f2] at h2
              simp only [Nat.add_zero, Array.length_toList, c1] at h2
              by_cases i1 : k < off
              · rw [if_neg (by omega)] at h2
                rw [List.append_assoc, List.getElem?_append_left (by simp; omega), List.getElem?_take, if_pos i1] at h1
                exact hc.2 k u y h1 h2
              · by_cases i2 : k < off + size
                · rw [if_pos (by omega)] at h2
                  have e1 : (cs.take off).length = off := by simp; omega
                  rw [List.append_assoc, List.getElem?_append_right (by omega), e1, List.getElem?_append_left (by omega)] at h1
                  exact c2 _ u y h1 (by simpa using h2)
                · rw [if_neg (by omega)] at h2
                  have e1 : (cs.take off ++ vs).length = off + size := by simp; omega
                  rw [List.getElem?_append_right (by omega), e1, List.getElem?_drop] at h1
                  have e2 : off + size + (k - (off + size)) = k := by omega
                  rw [e2] at h1
                  exact hc.2 k u y h1 h2
            obtain ⟨arr, ha, hr⟩ := ih vps _ _ out (by simpa using hl) (fun k p q h1 h2 => hp (k + 1) p q (by simpa using h1) (by simpa using h2)) hRC h
            refine ⟨arr, ?_, hr⟩
            simp only [Instr.fill, hpl]
            rw [if_neg (by have h1 := hc.1; have h2 : v.cells.size = size := by omega
                           simp [h2]; omega)]
            exact ha
          · cases h

/-- The fields' places. -/
def flds (P : Program) (t : TypeId) : Option (List (Nat × Nat)) :=
  match P.underlying t with
  | some (.struct fs) => fs.toList.mapM fun f => (ty P f.type).map fun q => (f.offset, q.2)
  | _ => none

theorem flds_spec {P : Program} {t : TypeId} {l : List (Nat × Nat)} (h : flds P t = some l) :
    ∃ fs, P.underlying t = some (.struct fs) ∧ ∀ w, (fs.mapM fun f => do pure (f.offset, ← sizeOf f.type) : Sem (Array (Nat × Nat))).run P w = .ok l.toArray w := by
  unfold flds at h
  cases hd : P.underlying t with
  | none => simp [hd] at h
  | some d =>
    cases d <;> simp only [hd] at h <;> try cases h
    rename_i fs
    refine ⟨fs, rfl, fun w => ?_⟩
    obtain ⟨fl⟩ := fs
    simp only at h
    rw [List.mapM_toArray]
    have key : ∀ (fl : List Field) (l : List (Nat × Nat)), fl.mapM (fun f => (ty P f.type).map fun q => (f.offset, q.2)) = some l →
        (fl.mapM fun f => do pure (f.offset, ← sizeOf f.type) : Sem (List (Nat × Nat))).run P w = .ok l w := by
      intro fl
      induction fl with
      | nil => intro l h; simp at h; subst h; simp
      | cons f fl ih =>
        intro l h
        simp only [List.mapM_cons, Option.bind_eq_bind, Option.bind_eq_some_iff, Option.map_eq_some_iff, Option.pure_def, Option.some.injEq] at h
        obtain ⟨p, ⟨q, hq, rfl⟩, l', hl', rfl⟩ := h
        obtain ⟨ag, n⟩ := q
        simp only [List.mapM_cons, Sem.run_bind, run_sizeOf hq, Result.andThen_ok, Sem.run_pure, ih l' hl']
    rw [Sem.run_map, key fl l h]; rfl

def buildStV (P : Program) (C : Ctx) (s : St) (t : TypeId) (parts : List (Nat × Operand)) : Option V :=
  match zeroL P t, flds P t with
  | some zs, some pl => match fillV (fun i => pl[i]?) zs (parts.map fun p => (p.1, s.ev C p.2)) with
    | some cs => some (.agg cs)
    | none => none
  | _, _ => none

theorem evs_buildSt {P : Program} {E : Env} {s : St} {o : Oper} {t : TypeId} {parts : Array (Nat × Operand)} {v : V} (ho : o.op = .build t parts)
    (h : buildStV P E.c s t parts.toList = some v) : Evs P E s o v := by
  intro g a w H
  unfold buildStV at h
  cases hz : zeroL P t with
  | none => simp [hz] at h
  | some zs =>
    cases hf : flds P t with
    | none => simp [hz, hf] at h
    | some pl =>
      simp only [hz, hf] at h
      cases hfi : fillV (fun i => pl[i]?) zs (parts.toList.map fun p => (p.1, s.ev E.c p.2)) with
      | none => rw [hfi] at h; cases h
      | some cs =>
        rw [hfi] at h
        injection h with h; subst h
        obtain ⟨z, hz1, hz2⟩ := run_zeroValue hz
        obtain ⟨fs, hd, hmap⟩ := flds_spec hf
        obtain ⟨arr, ha, hr⟩ := fill_rel (g := g) (fun i => pl[i]?) (parts.toList.map fun p => (p.1, a.eval p.2)) (parts.toList.map fun p => (p.1, s.ev E.c p.2)) z.cells zs cs (by simp)
          (fun k p q h1 h2 => by
            simp only [List.getElem?_map, Option.map_eq_some_iff] at h1 h2
            obtain ⟨p', hp, rfl⟩ := h1
            obtain ⟨q', hq, rfl⟩ := h2
            rw [hp] at hq; injection hq with hq; subst hq
            exact ⟨rfl, H.ev _⟩)
          ⟨by rw [hz2]; simp, fun i x y h1 h2 => by
            rw [hz2] at h1
            simp only [List.getElem?_map, Option.map_eq_some_iff] at h1
            obtain ⟨q, hq, rfl⟩ := h1
            have : q = y := by simpa [h2] using hq.symm
            subst this; exact .lit q⟩ hfi
        refine ⟨.agg arr, ?_, .agg _ _ hr.1.symm hr.2⟩
        have hparts : (parts.map fun (p : Nat × Operand) => (p.1, a.eval p.2)).toList = parts.toList.map fun p => (p.1, a.eval p.2) := by simp
        simp only [execOp, ho, Instr.build]
        simp only [Sem.run_bind, hz1, Result.andThen_ok, underlying, run_program, hd, Sem.run_pure, hmap]
        simp only [List.getElem?_toArray, hparts, ha]
        rfl

def buildArV (P : Program) (C : Ctx) (s : St) (t : TypeId) (sz : Nat) (parts : List (Nat × Operand)) : Option V :=
  match zeroL P t with
  | some zs => match fillV (fun i => some (i * sz, sz)) zs (parts.map fun p => (p.1, s.ev C p.2)) with
    | some cs => some (.agg cs)
    | none => none
  | _ => none

theorem evs_buildAr {P : Program} {E : Env} {s : St} {o : Oper} {t : TypeId} {n sz : Nat} {parts : Array (Nat × Operand)} {v : V} (ho : o.op = .build t parts) (ha : arrT P t = some (n, sz))
    (h : buildArV P E.c s t sz parts.toList = some v) : Evs P E s o v := by
  intro g a w H
  obtain ⟨e, ag, hd, hty⟩ := arrT_spec ha
  unfold buildArV at h
  cases hz : zeroL P t with
  | none => simp [hz] at h
  | some zs =>
    simp only [hz] at h
    cases hfi : fillV (fun i => some (i * sz, sz)) zs (parts.toList.map fun p => (p.1, s.ev E.c p.2)) with
    | none => rw [hfi] at h; cases h
    | some cs =>
      rw [hfi] at h
      injection h with h; subst h
      obtain ⟨z, hz1, hz2⟩ := run_zeroValue hz
      obtain ⟨arr, ha, hr⟩ := fill_rel (g := g) (fun i => some (i * sz, sz)) (parts.toList.map fun p => (p.1, a.eval p.2)) (parts.toList.map fun p => (p.1, s.ev E.c p.2)) z.cells zs cs (by simp)
        (fun k p q h1 h2 => by
          simp only [List.getElem?_map, Option.map_eq_some_iff] at h1 h2
          obtain ⟨p', hp, rfl⟩ := h1
          obtain ⟨q', hq, rfl⟩ := h2
          rw [hp] at hq; injection hq with hq; subst hq
          exact ⟨rfl, H.ev _⟩)
        ⟨by rw [hz2]; simp, fun i x y h1 h2 => by
          rw [hz2] at h1
          simp only [List.getElem?_map, Option.map_eq_some_iff] at h1
          obtain ⟨q, hq, rfl⟩ := h1
          have : q = y := by simpa [h2] using hq.symm
          subst this; exact .lit q⟩ hfi
      refine ⟨.agg arr, ?_, .agg _ _ hr.1.symm hr.2⟩
      have hparts : (parts.map fun (p : Nat × Operand) => (p.1, a.eval p.2)).toList = parts.toList.map fun p => (p.1, a.eval p.2) := by simp
      simp only [execOp, ho, Instr.build]
      simp only [Sem.run_bind, hz1, Result.andThen_ok, underlying, run_program, hd, Sem.run_pure, run_sizeOf hty]
      simp only [hparts, ha]
      rfl

/-- A struct or an array put together. -/
def buildV (P : Program) (C : Ctx) (s : St) (t : TypeId) (parts : List (Nat × Operand)) : Option V :=
  match arrT P t with
  | some (_, sz) => buildArV P C s t sz parts
  | none => buildStV P C s t parts
theorem evs_build {P : Program} {E : Env} {s : St} {o : Oper} {t : TypeId} {parts : Array (Nat × Operand)} {v : V} (ho : o.op = .build t parts)
    (h : buildV P E.c s t parts.toList = some v) : Evs P E s o v := by
  unfold buildV at h
  split at h
  · rename_i ha; exact evs_buildAr ho ha h
  · exact evs_buildSt ho h

end Go.Proofs.YtkelfbakcpidjaaGreatDoor
