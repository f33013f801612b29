/- A slice or a string, cut. -/
import Derived.Test.YtkelfbakcpidjaaGreatDoorAmSlice
set_option linter.unusedVariables false
set_option linter.unusedSimpArgs false
namespace Go.Proofs.YtkelfbakcpidjaaGreatDoor
open Go.RowKit

theorem boundV_spec {P : Program} {E : Env} {s : St} {g : Gh} {a : Act} {w : World} (H : Rel E g s a w) {y : Operand} {d n : Nat} (h : boundV E.c s (some y) d = some n) :
    ∃ k i, a.eval y = .int k i ∧ 0 ≤ i ∧ i.toNat = n := by
  simp only [boundV] at h
  have hr := H.ev y
  generalize s.ev E.c y = v at h hr
  generalize a.eval y = c at hr
  split at h
  · rename_i k i
    split at h
    · rename_i h0
      injection h with h
      cases hr
      exact ⟨k, i, rfl, h0, h⟩
    · cases h
  · cases h

theorem run_bounds {P : Program} {E : Env} {s : St} {g : Gh} {a : Act} {w : World} (H : Rel E g s a w) {b : Bool} {len cap l h : Nat} {lo hi mx : Option Operand}
    (hh : boundV E.c s hi len = some h) (hl : boundV E.c s lo 0 = some l) (h1 : l ≤ h) (h2 : h ≤ len) (h3 : len ≤ cap) (hm : ∀ y, mx = some y → hi.isSome = true ∧ boundV E.c s mx 0 = some h) :
    (Instr.sliceBounds b len cap (lo.map a.eval) (hi.map a.eval) (mx.map a.eval)).run P w = .ok (l, h, if mx.isSome then h else cap) w := by
  have key : ∀ (y : Operand) (d n : Nat), boundV E.c s (some y) d = some n → ∀ (m : Nat), n ≤ m → ∀ code, (Instr.sliceBound (a.eval y) m code).run P w = .ok n w := by
    intro y d n hb m hm code
    obtain ⟨k, i, e1, e2, e3⟩ := boundV_spec (P := P) H hb
    rw [e1, run_sliceBound w k i m code e2 (by omega), e3]
  cases mx with
  | none =>
    cases hi with
    | none =>
      simp only [boundV, Option.some.injEq] at hh
      subst hh
      cases lo with
      | none => simp only [boundV, Option.some.injEq] at hl; subst hl; simp [Instr.sliceBounds]
      | some y => simp [Instr.sliceBounds, key y _ _ hl len h1]
    | some z =>
      have k1 := key z _ _ hh cap (by omega)
      cases lo with
      | none => simp only [boundV, Option.some.injEq] at hl; subst hl; simp [Instr.sliceBounds, k1]
      | some y => simp [Instr.sliceBounds, k1, key y _ _ hl h h1]
  | some z =>
    obtain ⟨hhi, hz⟩ := hm z rfl
    cases hi with
    | none => cases hhi
    | some u =>
      have k1 := key u _ _ hh h (Nat.le_refl _)
      have k2 := key z _ _ hz cap (by omega)
      cases lo with
      | none => simp only [boundV, Option.some.injEq] at hl; subst hl; simp [Instr.sliceBounds, k1, k2]
      | some y => simp [Instr.sliceBounds, k1, k2, key y _ _ hl h h1]

def eltS (P : Program) (t : TypeId) : Option Nat :=
  match elt P t with
  | some e => match ty P e with
    | some (_, sz) => some sz
    | none => none
  | none => none
theorem eltS_spec {P : Program} {t : TypeId} {sz : Nat} (h : eltS P t = some sz) : ∃ e, P.underlying t = some (.slice e) ∧ ∀ w, (sizeOf e).run P w = .ok sz w := by
  unfold eltS at h
  split at h
  · rename_i e he
    split at h
    · rename_i ag n hq
      injection h with h; subst h
      exact ⟨e, elt_spec he, fun w => run_sizeOf hq w⟩
    · cases h
  · cases h

/-- What is left of a slice or a string. -/
def cutSlV (P : Program) (C : Ctx) (s : St) (t : TypeId) (x : V) (lo hi mx : Option Operand) : Option V :=
  match x with
  | .lit (.string b) => if isStrT P t = true ∧ mx = none then (match boundV C s hi b.size, boundV C s lo 0 with
    | some h, some l => if l ≤ h ∧ h ≤ b.size then some (.lit (.string (b.extract l h))) else none
    | _, _ => none) else none
  | .sl c rows => match eltS P t with
    | none => none
    | some sz => match boundV C s hi rows.length, boundV C s lo 0 with
      | some h, some l => if l ≤ h ∧ h ≤ rows.length ∧ (∀ r, r ∈ rows → r.length = sz) then (match mx with
        | none => some (.sl (if c = Cap.exact ∧ h = rows.length then Cap.exact else Cap.ro) ((rows.take h).drop l))
        | some y => if hi.isSome = true ∧ boundV C s (some y) 0 = some h then some (.sl .exact ((rows.take h).drop l)) else none) else none
      | _, _ => none
  | .hs b o n cap sz' => match eltS P t with
    | none => none
    | some sz => match boundV C s hi n, boundV C s lo 0 with
      | some h, some l => if l ≤ h ∧ h ≤ n ∧ n ≤ cap ∧ l < cap ∧ sz' = sz ∧ mx = none then some (.hs b (o + l * sz) (h - l) (cap - l) sz) else none
      | _, _ => none
  | _ => none

theorem evs_cutSl {P : Program} {E : Env} {s : St} {o : Oper} {t : TypeId} {x : Operand} {lo hi mx : Option Operand} {v : V} (ho : o.op = .slice t x lo hi mx)
    (h : cutSlV P E.c s t (s.ev E.c x) lo hi mx = some v) : Evs P E s o v := by
  intro g a w H
  have hx := H.ev x
  generalize s.ev E.c x = vx at h hx
  generalize he : a.eval x = c at hx
  unfold cutSlV at h
  split at h
  · rename_i b
    split at h
    · rename_i hc
      obtain ⟨hs, rfl⟩ := hc
      split at h
      · rename_i hh l e1 e2
        split at h
        · rename_i hle
          injection h with h; subst h
          cases hx
          have := run_bounds (P := P) (b := false) (cap := b.size) (mx := none) H e1 e2 hle.1 hle.2 (Nat.le_refl _) (fun y hy => by cases hy)
          simp only [Option.map_none] at this
          have hu := isStrT_spec hs
          exact ⟨_, by simp [execOp, ho, he, Instr.sliceAt, Instr.slice, underlying, hu, this], .lit _⟩
        · cases h
      · cases h
    · cases h
  · rename_i c' rows
    cases hsz : eltS P t with
    | none => simp [hsz] at h
    | some sz =>
      simp only [hsz] at h
      obtain ⟨e, hu, hso⟩ := eltS_spec hsz
      split at h
      · rename_i hh l e1 e2
        split at h
        · rename_i hle
          obtain ⟨h1, h2, hrs⟩ := hle
          -- the value in the machine
          have main : ∀ (ad : Option Addr) (n cap : Nat), c = .slice ad n cap → n = rows.length → n ≤ cap → (∀ y, mx = some y → hi.isSome = true ∧ boundV E.c s mx 0 = some hh) →
              (execOp a.eval o).run P w = .ok (.value (.slice (if (if mx.isSome then hh else cap) = l then ad else ad.map (·.add (l * sz))) (hh - l) ((if mx.isSome then hh else cap) - l))) w := by
            intro ad n cap hcv hn hcap hmx
            subst hn
            have := run_bounds (P := P) (b := true) (cap := cap) H e1 e2 h1 h2 hcap hmx
            simp [execOp, ho, he, hcv, Instr.sliceAt, Instr.slice, underlying, hu, this, hso]
          have hmx : (∀ y, mx = some y → hi.isSome = true ∧ boundV E.c s mx 0 = some hh) ∧
              v = .sl (if mx.isSome = true then .exact else if c' = Cap.exact ∧ hh = rows.length then Cap.exact else Cap.ro) ((rows.take hh).drop l) := by
            cases mx with
            | none => simp only [Option.some.injEq] at h; exact ⟨fun y hy => (by cases hy), by rw [← h]; rfl⟩
            | some y =>
              simp only at h
              split at h
              · rename_i hq
                injection h with h
                exact ⟨fun y' hy => hq, by rw [← h]; rfl⟩
              · cases h
          obtain ⟨hmx, rfl⟩ := hmx
          have hlen : ((rows.take hh).drop l).length = hh - l := by simp; omega
          cases hx with
          | slnil _ ad ho' =>
            have e0 : hh = 0 := by simpa using h2
            subst e0
            have e0 : l = 0 := by omega
            subst e0
            refine ⟨_, main ad 0 0 rfl rfl (Nat.le_refl _) hmx, ?_⟩
            simp only [ite_self]
            simp
            refine .slnil _ ad (fun b hb => ?_)
            split at hb
            · cases hb
            · split at hb <;> cases hb
          | sl _ _ sz' blk off cap f hn hs hc hv hx' ho' =>
            refine ⟨_, main _ _ cap rfl rfl hn hmx, ?_⟩
            have hsz' : ∀ (i : Nat), i < rows.length → sz' = sz := fun i hi => by
              rw [← hs i rows[i] (List.getElem?_eq_getElem hi)]; exact hrs _ (List.getElem_mem hi)
            have hown : ∀ b, (if mx.isSome = true then Cap.exact else if c' = Cap.exact ∧ hh = rows.length then Cap.exact else Cap.ro) ≠ .own b := fun b hb => by
              split at hb
              · cases hb
              · split at hb <;> cases hb
            generalize hm : (if mx.isSome then hh else cap) = m
            have hmh : hh ≤ m := by rw [← hm]; split <;> omega
            by_cases hml : m = l
            · rw [if_pos hml]
              have e0 : hh = l := by omega
              have e3 : (rows.take hh).drop l = [] := List.length_eq_zero_iff.1 (by rw [hlen]; omega)
              rw [e3, hml, e0, Nat.sub_self]
              rw [e0] at hown
              exact .slnil _ _ (fun b hb => absurd hb (hown b))
            · rw [if_neg hml]
              simp only [Option.map_some]
              rw [Addr.add_mk, ← hlen]
              have hat : ∀ (i : Nat) r, ((rows.take hh).drop l)[i]? = some r → rows[l + i]? = some r ∧ l + i < hh := by
                intro i r hi
                rw [List.getElem?_drop, List.getElem?_take] at hi
                split at hi
                · exact ⟨hi, by assumption⟩
                · cases hi
              refine .sl _ _ sz blk (off + l * sz) (m - l) (fun i j => f (l + i) j) (by rw [hlen]; omega) (fun i r hi => hrs r (List.mem_of_getElem? (hat i r hi).1)) (fun i j hi hj => ?_)
                (fun i r j x hi hj => hv (l + i) r j x (hat i r hi).1 hj) (fun he => ?_) (fun b hb => absurd hb (hown b))
              · rw [hlen] at hi
                have e4 := hsz' (l + i) (by omega)
                subst e4
                have := hc (l + i) j (by omega) hj
                rw [Nat.add_mul] at this
                rwa [show off + l * sz' + (i * sz' + j) = off + (l * sz' + i * sz' + j) by omega]
              · rw [hlen, ← hm]
                split at he
                · rename_i hsome; rw [if_pos hsome]
                · rename_i hsome
                  rw [if_neg hsome]
                  split at he
                  · rename_i hq; rw [hx' hq.1, hq.2]
                  · cases he
        · cases h
      · cases h
  · rename_i b o' n cap sz'
    cases hsz : eltS P t with
    | none => simp [hsz] at h
    | some sz =>
      simp only [hsz] at h
      obtain ⟨e, hu, hso⟩ := eltS_spec hsz
      split at h
      · rename_i hh l e1 e2
        split at h
        · rename_i hle
          obtain ⟨h1, h2, h3, h4, rfl, rfl⟩ := hle
          injection h with h; subst h
          cases hx with
          | hs _ _ _ _ _ cb cap' hm hcap =>
            have := run_bounds (P := P) (b := true) (cap := cap') (mx := none) H e1 e2 h1 h2 (Nat.le_trans h3 hcap) (fun y hy => by cases hy)
            simp only [Option.map_none] at this
            have hne : ¬ cap' = l := by omega
            refine ⟨.slice (some ⟨cb, o' + l * sz', none⟩) (hh - l) (cap' - l), ?_, .hs _ _ _ _ _ _ _ hm (by omega)⟩
            simp [execOp, ho, he, Instr.sliceAt, Instr.slice, underlying, hu, this, hso, hne, Addr.add_mk]
        · cases h
      · cases h
  · cases h

/-- A slice of an array's cells. -/
def cutArrV (P : Program) (C : Ctx) (s : St) (t : TypeId) (x : V) (lo hi : Option Operand) : Option V :=
  match arrT P t with
  | none => none
  | some (n, sz) => match boundV C s hi n, boundV C s lo 0 with
    | some h, some l => if l ≤ h ∧ h ≤ n ∧ l < n then (match x with
      | .ptr b o => some (.hs b (o + l * sz) (h - l) (n - l) sz)
      | .ept row o => if 0 < sz ∧ o + n * sz ≤ row.length then some (.sl .ro (chunkV (h - l) sz (row.drop (o + l * sz)))) else none
      | _ => none) else none
    | _, _ => none

theorem evs_cutArr {P : Program} {E : Env} {s : St} {o : Oper} {t : TypeId} {x : Operand} {lo hi : Option Operand} {v : V} (ho : o.op = .slice t x lo hi none)
    (h : cutArrV P E.c s t (s.ev E.c x) lo hi = some v) : Evs P E s o v := by
  intro g a w H
  have hx := H.ev x
  generalize s.ev E.c x = vx at h hx
  generalize he : a.eval x = c at hx
  unfold cutArrV at h
  cases ha : arrT P t with
  | none => simp [ha] at h
  | some q =>
    obtain ⟨n, sz⟩ := q
    simp only [ha] at h
    obtain ⟨e, ag, hd, hty⟩ := arrT_spec ha
    split at h
    · rename_i hh l e1 e2
      split at h
      · rename_i hle
        obtain ⟨h1, h2, h3⟩ := hle
        have hb := run_bounds (P := P) (b := false) (len := n) (cap := n) (mx := none) H e1 e2 h1 h2 (Nat.le_refl _) (fun y hy => by cases hy)
        simp only [Option.map_none] at hb
        have hne : ¬ n = l := by omega
        split at h
        · rename_i b o'
          injection h with h; subst h
          cases hx with
          | ptr _ _ cb hm =>
            refine ⟨.slice (some ⟨cb, o' + l * sz, none⟩) (hh - l) (n - l), ?_, .hs _ _ _ _ _ _ _ hm (Nat.le_refl _)⟩
            simp [execOp, ho, he, Instr.sliceAt, Instr.sureAddr, underlying, hd, hb, run_sizeOf hty, hne, Addr.add_mk]
        · rename_i row o'
          split at h
          · rename_i hr
            obtain ⟨hsz, hlen⟩ := hr
            injection h with h; subst h
            cases hx with
            | ept _ _ blk off f hc hv =>
              refine ⟨.slice (some ⟨blk, off + o' + l * sz, none⟩) (hh - l) (n - l), ?_, ?_⟩
              · simp [execOp, ho, he, Instr.sliceAt, Instr.sureAddr, underlying, hd, hb, run_sizeOf hty, hne, Addr.add_mk]
              · have hl : (chunkV (hh - l) sz (row.drop (o' + l * sz))).length = hh - l := chunkV_length _ _ _
                have hin : ∀ i, i < hh - l → o' + l * sz + (i * sz + sz) ≤ row.length := fun i hi => by
                  have : (l + (i + 1)) * sz ≤ n * sz := Nat.mul_le_mul_right _ (by omega)
                  rw [Nat.add_mul, Nat.add_mul] at this; omega
                have := RV.sl (g := g) .ro (chunkV (hh - l) sz (row.drop (o' + l * sz))) sz blk (off + o' + l * sz) (n - l) (fun i j => f (o' + l * sz + (i * sz + j))) (by rw [hl]; omega)
                  (fun i r hi => by
                    have hlt : i < hh - l := by have := (List.getElem?_eq_some_iff.1 hi).1; rwa [hl] at this
                    rw [chunkV_at _ _ _ _ hlt] at hi
                    injection hi with hi; subst hi
                    have := hin i hlt
                    simp; omega)
                  (fun i j hi hj => by
                    rw [hl] at hi
                    have := hin i hi
                    have := hc (o' + l * sz + (i * sz + j)) (by omega)
                    rwa [show off + o' + l * sz + (i * sz + j) = off + (o' + l * sz + (i * sz + j)) by omega])
                  (fun i r j x hi hj => by
                    have hlt : i < hh - l := by have := (List.getElem?_eq_some_iff.1 hi).1; rwa [hl] at this
                    rw [chunkV_at _ _ _ _ hlt] at hi
                    injection hi with hi; subst hi
                    rw [List.getElem?_take] at hj
                    split at hj
                    · rw [List.getElem?_drop, List.getElem?_drop] at hj
                      exact hv _ x hj
                    · cases hj)
                  (fun e => by cases e) (fun b e => by cases e)
                rwa [hl] at this
          · cases h
        · cases h
      · cases h
    · cases h

/-- What is left of a slice, a string, an array. -/
def cutV (P : Program) (C : Ctx) (s : St) (t : TypeId) (x : V) (lo hi mx : Option Operand) : Option V :=
  match arrT P t with
  | some _ => if mx = none then cutArrV P C s t x lo hi else none
  | none => cutSlV P C s t x lo hi mx
theorem evs_slice {P : Program} {E : Env} {s : St} {o : Oper} {t : TypeId} {x : Operand} {lo hi mx : Option Operand} {v : V} (ho : o.op = .slice t x lo hi mx)
    (h : cutV P E.c s t (s.ev E.c x) lo hi mx = some v) : Evs P E s o v := by
  unfold cutV at h
  split at h
  · split at h
    · rename_i hm; subst hm; exact evs_cutArr ho h
    · cases h
  · exact evs_cutSl ho h

end Go.Proofs.YtkelfbakcpidjaaGreatDoor
