/- What is written into no more. -/
import Derived.Test.YtkelfbakcpidjaaGreatDoorAmCode
set_option linter.unusedVariables false
set_option linter.unusedSimpArgs false
namespace Go.Proofs.YtkelfbakcpidjaaGreatDoor
open Go.RowKit

def Cap.shut : Cap → Cap
  | .own _ => .ro
  | c => c
theorem Cap.shut_own (c : Cap) (b : Nat) : c.shut ≠ .own b := by cases c <;> intro h <;> cases h
theorem Cap.shut_exact {c : Cap} (h : c.shut = .exact) : c = .exact := by cases c <;> first | rfl | cases h

mutual
/-- The rooms forgotten, however deep. -/
def deOwn : V → V
  | .sl c rows => .sl c.shut (deOwnLL rows)
  | .agg cs => .agg (deOwnL cs)
  | .tup cs => .tup (deOwnL cs)
  | .clo f a b => .clo f (deOwnL a) (deOwnL b)
  | .ept r o => .ept (deOwnL r) o
  | .ifc t x => .ifc t (deOwn x)
  | .undef => .undef
  | .lit v => .lit v
  | .ptr b o => .ptr b o
  | .hs b o n cap sz => .hs b o n cap sz
  | .yld L => .yld L
def deOwnL : List V → List V
  | [] => []
  | x :: xs => deOwn x :: deOwnL xs
def deOwnLL : List (List V) → List (List V)
  | [] => []
  | r :: rs => deOwnL r :: deOwnLL rs
end

theorem deOwnL_eq (xs : List V) : deOwnL xs = xs.map deOwn := by
  induction xs with
  | nil => rfl
  | cons x xs ih => rw [deOwnL, ih]; rfl
theorem deOwnLL_eq (xs : List (List V)) : deOwnLL xs = xs.map (·.map deOwn) := by
  induction xs with
  | nil => rfl
  | cons x xs ih => rw [deOwnLL, ih, deOwnL_eq]; rfl
theorem deOwn_sl (c : Cap) (rows : List (List V)) : deOwn (.sl c rows) = .sl c.shut (rows.map (·.map deOwn)) := by rw [deOwn, deOwnLL_eq]
theorem deOwn_agg (cs : List V) : deOwn (.agg cs) = .agg (cs.map deOwn) := by rw [deOwn, deOwnL_eq]
theorem deOwn_tup (cs : List V) : deOwn (.tup cs) = .tup (cs.map deOwn) := by rw [deOwn, deOwnL_eq]
theorem deOwn_clo (f : Fn) (a b : List V) : deOwn (.clo f a b) = .clo f (a.map deOwn) (b.map deOwn) := by rw [deOwn, deOwnL_eq, deOwnL_eq]
theorem deOwn_ept (r : List V) (o : Nat) : deOwn (.ept r o) = .ept (r.map deOwn) o := by rw [deOwn, deOwnL_eq]

theorem map_id_of {α : Type} {f : α → α} {l : List α} (h : ∀ x, x ∈ l → f x = x) : l.map f = l := by
  induction l with
  | nil => rfl
  | cons x l ih => rw [List.map_cons, h x (by simp), ih fun y hy => h y (by simp [hy])]

theorem D.deOwn {x : V} (h : D x) : deOwn x = x := by
  induction h with
  | undef => rfl
  | lit v => rfl
  | ept row o h ih => rw [deOwn_ept, map_id_of ih]
  | ro rows h ih => rw [deOwn_sl, map_id_of fun r hr => map_id_of (ih r · hr)]; rfl
  | exact rows h ih => rw [deOwn_sl, map_id_of fun r hr => map_id_of (ih r · hr)]; rfl
  | agg cs h ih => rw [deOwn_agg, map_id_of ih]
  | tup cs h ih => rw [deOwn_tup, map_id_of ih]
  | clo fn a b ha hb iha ihb => rw [deOwn_clo, map_id_of iha, map_id_of ihb]
  | ifc t x h ih => rw [Proofs.YtkelfbakcpidjaaGreatDoor.deOwn, ih]

variable {g : Gh}

/-- Whatever is put for the parts. -/
theorem RV.sl_map {F : V → V} {c c' : Cap} {rows : List (List V)} {v : Value} (h : RV g (.sl c rows) v) (hF : ∀ x v, RV g x v → RV g (F x) v) (hc : c' = .exact → c = .exact) (ho : ∀ b, c' ≠ .own b) : RV g (.sl c' (rows.map (·.map F))) v := by
  cases h with
  | slnil _ a ho' => exact .slnil _ a (fun b hb => absurd hb (ho b))
  | sl _ _ sz blk off cap f hn hs hc' hv hx ho' =>
    have := RV.sl (g := g) c' (rows.map (·.map F)) sz blk off cap f (by simpa using hn) (fun i r hi => by
      simp only [List.getElem?_map, Option.map_eq_some_iff] at hi
      obtain ⟨r', hr, rfl⟩ := hi
      simpa using hs i r' hr) (fun i j hi hj => hc' i j (by simpa using hi) hj) (fun i r j x hi hj => by
      simp only [List.getElem?_map, Option.map_eq_some_iff] at hi
      obtain ⟨r', hr, rfl⟩ := hi
      simp only [List.getElem?_map, Option.map_eq_some_iff] at hj
      obtain ⟨x', hx', rfl⟩ := hj
      exact hF _ _ (hv i r' j x' hr hx')) (fun e => by simpa using hx (hc e)) (fun b hb => absurd hb (ho b))
    simpa using this

theorem RV.dO {x : V} {v : Value} (h : RV g x v) : RV g (deOwn x) v := by
  induction h with
  | undef v => exact .undef v
  | lit v => exact .lit v
  | ptr b o cb h => exact .ptr b o cb h
  | ept row o blk off f hc hv ih =>
    rw [deOwn_ept]
    exact .ept _ o blk off f (fun j hj => hc j (by simpa using hj)) (fun j x hx => by
      simp only [List.getElem?_map, Option.map_eq_some_iff] at hx
      obtain ⟨y, hy, rfl⟩ := hx
      exact ih j y hy)
  | sl c rows sz blk off cap f hn hs hc hv hx ho ih =>
    rw [deOwn_sl]
    have key : RV g (.sl c.shut (rows.map (·.map Proofs.YtkelfbakcpidjaaGreatDoor.deOwn))) (.slice (some ⟨blk, off, none⟩) (rows.map (·.map Proofs.YtkelfbakcpidjaaGreatDoor.deOwn)).length cap) := by
      refine .sl _ _ sz blk off cap f (by simpa using hn) (fun i r hi => ?_) (fun i j hi hj => hc i j (by simpa using hi) hj) (fun i r j x hi hj => ?_) (fun e => ?_) (fun b hb => ?_)
      · simp only [List.getElem?_map, Option.map_eq_some_iff] at hi
        obtain ⟨r', hr, rfl⟩ := hi
        simpa using hs i r' hr
      · simp only [List.getElem?_map, Option.map_eq_some_iff] at hi
        obtain ⟨r', hr, rfl⟩ := hi
        simp only [List.getElem?_map, Option.map_eq_some_iff] at hj
        obtain ⟨x', hx', rfl⟩ := hj
        exact ih i r' j x' hr hx'
      · simpa using hx (Cap.shut_exact e)
      · exact absurd hb (Cap.shut_own c b)
    simpa using key
  | slnil c a ho => rw [deOwn_sl]; exact .slnil _ a (fun b hb => absurd hb (Cap.shut_own c b))
  | agg cs vs hl hv ih =>
    rw [deOwn_agg]
    exact .agg _ vs (by simpa using hl) (fun i x y h1 h2 => by
      simp only [List.getElem?_map, Option.map_eq_some_iff] at h1
      obtain ⟨z, hz, rfl⟩ := h1
      exact ih i z y hz h2)
  | tup cs vs hl hv ih =>
    rw [deOwn_tup]
    exact .tup _ vs (by simpa using hl) (fun i x y h1 h2 => by
      simp only [List.getElem?_map, Option.map_eq_some_iff] at h1
      obtain ⟨z, hz, rfl⟩ := h1
      exact ih i z y hz h2)
  | clo fn a b va vb hla hlb ha hb iha ihb =>
    rw [deOwn_clo]
    exact .clo fn _ _ va vb (by simpa using hla) (by simpa using hlb) (fun i x y h1 h2 => by
      simp only [List.getElem?_map, Option.map_eq_some_iff] at h1
      obtain ⟨z, hz, rfl⟩ := h1
      exact iha i z y hz h2) (fun i x y h1 h2 => by
      simp only [List.getElem?_map, Option.map_eq_some_iff] at h1
      obtain ⟨z, hz, rfl⟩ := h1
      exact ihb i z y hz h2)
  | ifc t x v h ih => rw [Proofs.YtkelfbakcpidjaaGreatDoor.deOwn]; exact .ifc t _ v ih
  | hs b o n cap sz cb cap' h hc => exact .hs b o n cap sz cb cap' h hc
  | yld L l h => exact .yld L l h

/-- A block that is given up is frozen. -/
def goneV (h h1 : Nat → Option Blk) (b : Nat) : Option (List V) :=
  match h1 b, h b with
  | none, some (.cells cs) => some (cs.map deOwn)
  | _, _ => none

mutual
/-- What a value is where blocks are given up: what lies in them is written into no more. -/
def finV (h h1 : Nat → Option Blk) : V → V
  | .ptr b o => match goneV h h1 b with
    | some cs => .ept cs o
    | none => .ptr b o
  | .hs b o n cap sz => match goneV h h1 b with
    | some cs => if o + n * sz ≤ cs.length ∧ 0 < sz ∧ n ≤ cap then .sl .ro (chunkV n sz (cs.drop o)) else .undef
    | none => .hs b o n cap sz
  | .sl c rows => .sl c.shut (finLL h h1 rows)
  | .agg cs => .agg (finL h h1 cs)
  | .tup cs => .tup (finL h h1 cs)
  | .clo f a b => .clo f (finL h h1 a) (finL h h1 b)
  | .ept r o => .ept (finL h h1 r) o
  | .ifc t x => .ifc t (finV h h1 x)
  | .undef => .undef
  | .lit v => .lit v
  | .yld L => .yld L
def finL (h h1 : Nat → Option Blk) : List V → List V
  | [] => []
  | x :: xs => finV h h1 x :: finL h h1 xs
def finLL (h h1 : Nat → Option Blk) : List (List V) → List (List V)
  | [] => []
  | r :: rs => finL h h1 r :: finLL h h1 rs
end

variable {h h1 : Nat → Option Blk}
theorem finL_eq (xs : List V) : finL h h1 xs = xs.map (finV h h1) := by
  induction xs with
  | nil => rfl
  | cons x xs ih => rw [finL, ih]; rfl
theorem finLL_eq (xs : List (List V)) : finLL h h1 xs = xs.map (·.map (finV h h1)) := by
  induction xs with
  | nil => rfl
  | cons x xs ih => rw [finLL, ih, finL_eq]; rfl
theorem fin_sl (c : Cap) (rows : List (List V)) : finV h h1 (.sl c rows) = .sl c.shut (rows.map (·.map (finV h h1))) := by rw [finV, finLL_eq]
theorem fin_agg (cs : List V) : finV h h1 (.agg cs) = .agg (cs.map (finV h h1)) := by rw [finV, finL_eq]
theorem fin_tup (cs : List V) : finV h h1 (.tup cs) = .tup (cs.map (finV h h1)) := by rw [finV, finL_eq]
theorem fin_clo (f : Fn) (a b : List V) : finV h h1 (.clo f a b) = .clo f (a.map (finV h h1)) (b.map (finV h h1)) := by rw [finV, finL_eq, finL_eq]
theorem fin_ept (r : List V) (o : Nat) : finV h h1 (.ept r o) = .ept (r.map (finV h h1)) o := by rw [finV, finL_eq]
theorem fin_lit (v : Value) : finV h h1 (.lit v) = .lit v := by rw [finV]
theorem fin_undef : finV h h1 .undef = .undef := by rw [finV]
theorem fin_ptr (b o : Nat) : finV h h1 (.ptr b o) = match goneV h h1 b with | some cs => .ept cs o | none => .ptr b o := by rw [finV]
theorem fin_hs (b o n cap sz : Nat) : finV h h1 (.hs b o n cap sz) = match goneV h h1 b with | some cs => if o + n * sz ≤ cs.length ∧ 0 < sz ∧ n ≤ cap then .sl .ro (chunkV n sz (cs.drop o)) else .undef | none => .hs b o n cap sz := by rw [finV]
theorem D.fin {x : V} (hd : D x) : finV h h1 x = x := by
  induction hd with
  | undef => rw [finV]
  | lit v => rw [finV]
  | ept row o h ih => rw [fin_ept, map_id_of ih]
  | ro rows h ih => rw [fin_sl, map_id_of fun r hr => map_id_of (ih r · hr)]; rfl
  | exact rows h ih => rw [fin_sl, map_id_of fun r hr => map_id_of (ih r · hr)]; rfl
  | agg cs h ih => rw [fin_agg, map_id_of ih]
  | tup cs h ih => rw [fin_tup, map_id_of ih]
  | clo fn a b ha hb iha ihb => rw [fin_clo, map_id_of iha, map_id_of ihb]
  | ifc t x h ih => rw [finV, ih]

open Classical in
/-- All is frozen that is no block of h1, from block n on. -/
noncomputable def Gh.frzBut (g : Gh) (h1 : Nat → Option Blk) (n : Nat) (w : World) : Gh :=
  { g with fz := fun b o => if n ≤ b ∧ ¬ ∃ b' x, h1 b' = some x ∧ blkOf g b' x = some b then w.cell? ⟨b, o, none⟩ else g.fz b o }

variable {E : Env} {nx : Nat} {w : World}

open Classical in
theorem frzBut_at {n b o : Nat} (hb : n ≤ b) (hn : ¬ ∃ b' x, h1 b' = some x ∧ blkOf g b' x = some b) : (g.frzBut h1 n w).fz b o = w.cell? ⟨b, o, none⟩ := if_pos ⟨hb, hn⟩
open Classical in
theorem frzBut_off {n b o : Nat} (hn : ¬ (n ≤ b ∧ ¬ ∃ b' x, h1 b' = some x ∧ blkOf g b' x = some b)) : (g.frzBut h1 n w).fz b o = g.fz b o := if_neg hn
theorem Mem.frzBut_le (H : Mem E g h nx w) (n : Nat) : Gh.Le g (g.frzBut h1 n w) :=
  Gh.Le.fzOnly fun b o v hf => by
    show (g.frzBut h1 n w).fz b o = _
    by_cases hc : n ≤ b ∧ ¬ ∃ b' x, h1 b' = some x ∧ blkOf g b' x = some b
    · rw [frzBut_at hc.1 hc.2]; exact H.fz b o v hf
    · rw [frzBut_off hc]; exact hf

theorem Mem.frzBut (H : Mem E g h nx w) (hsub : ∀ {b x}, h1 b = some x → h b = some x) : Mem E (g.frzBut h1 E.w0.heap.size w) h1 nx w := by
  have le := H.frzBut_le (h1 := h1) E.w0.heap.size
  have H1 := H.sub hsub
  have hb : ∀ b x, blkOf (g.frzBut h1 E.w0.heap.size w) b x = blkOf g b x := fun b x => by cases x <;> rfl
  have hfz : ∀ b o v, (g.frzBut h1 E.w0.heap.size w).fz b o = some v → (E.w0.heap.size ≤ b ∧ w.cell? ⟨b, o, none⟩ = some v) ∨ g.fz b o = some v := fun b o v hf => by
    by_cases hc : E.w0.heap.size ≤ b ∧ ¬ ∃ b' x, h1 b' = some x ∧ blkOf g b' x = some b
    · rw [frzBut_at hc.1 hc.2] at hf; exact .inl ⟨hc.1, hf⟩
    · rw [frzBut_off hc] at hf; exact .inr hf
  refine ⟨H.keep, fun b o v hf => ?_, fun b o v hf => le.fz _ _ _ (H.fz0 b o v hf), fun b o v hf => ?_, fun b x hx => ?_, fun b b' x x' cb e1 e2 e3 e4 => H1.inj b b' x x' cb e1 e2 (by rw [← hb]; exact e3) (by rw [← hb]; exact e4),
    H1.new, H.mlt, H.l0, H.le0.trans le, H.n0, fun i => ⟨le.rv (H.gl i).1, (H.gl i).2⟩⟩
  · rcases hfz b o v hf with h | h
    · exact h.2
    · exact H.fz b o v h
  · rcases hfz b o v hf with h | h
    · exact .inr h.1
    · exact H.fzN b o v h
  · refine (H1.blk b x hx).move le.m le.rv (fun _ => rfl) (fun hr => by subst hr; exact (H1.rsv b hx).1) (fun cb hc => ⟨rfl, fun o ho => ?_⟩)
    rw [frzBut_off (fun e => e.2 ⟨b, x, hx, hc⟩)]; exact ho

/-- A value where blocks are given up. -/
theorem RV.fin0 {h0 : Nat → Option Blk} (H : Mem E g h nx w) (hsub : ∀ {b x}, h1 b = some x → h b = some x) (hg0 : ∀ b cs, goneV h0 h1 b = some cs → goneV h h1 b = some cs) {x : V} {v : Value} (hx : RV g x v) :
    RV (g.frzBut h1 E.w0.heap.size w) (finV h0 h1 x) v := by
  have le := H.frzBut_le (h1 := h1) E.w0.heap.size
  have gone : ∀ {b : Nat} {cs : List V}, goneV h0 h1 b = some cs → ∃ (cs' : List V) (cb : Nat) (arr : Array Value) (T : TypeId), cs = cs'.map Proofs.YtkelfbakcpidjaaGreatDoor.deOwn ∧ g.m b = some cb ∧ w.heap[cb]? = some (.cells arr T (0, 0)) ∧ cs'.length ≤ arr.size ∧
      (∀ (i : Nat) x y, cs'[i]? = some x → arr[i]? = some y → RV g x y) ∧ ∀ o, (g.frzBut h1 E.w0.heap.size w).fz cb o = w.cell? ⟨cb, o, none⟩ := by
    intro b cs hg
    replace hg := hg0 b cs hg
    unfold goneV at hg
    split at hg
    · rename_i cs' hn hcs
      injection hg with hg; subst hg
      obtain ⟨cb, arr, T, a1, a2, a3, a4, a5, a6⟩ := (H.cells b cs' hcs).ex
      refine ⟨cs', cb, arr, T, rfl, a1, a3, a4, a5, fun o => frzBut_at a2 ?_⟩
      rintro ⟨b', x, hb', hx⟩
      have e := H.inj b' b _ _ cb (hsub hb') hcs hx a1
      subst e; rw [hn] at hb'; cases hb'
    · cases hg
  induction hx with
  | undef v => rw [finV]; exact .undef v
  | lit v => rw [finV]; exact .lit v
  | ptr b o cb hm =>
    rw [fin_ptr]
    split
    · rename_i cs hg
      obtain ⟨cs', cb', arr, T, rfl, a1, a3, a4, a5, a6⟩ := gone hg
      rw [hm] at a1; injection a1 with a1; subst a1
      have := RV.ept (g := g.frzBut h1 E.w0.heap.size w) (cs'.map deOwn) o cb 0 (fun j => arr.getD j Go.undef) (fun j hj => by
        have hj' : j < arr.size := by have : j < cs'.length := by simpa using hj
                                      omega
        rw [a6]
        simp [World.cell?, a3, Array.getD, hj']) (fun j x hx => by
        simp only [List.getElem?_map, Option.map_eq_some_iff] at hx
        obtain ⟨y, hy, rfl⟩ := hx
        have hj : j < cs'.length := (List.getElem?_eq_some_iff.1 hy).1
        have hj' : j < arr.size := by omega
        exact le.rv (a5 j y _ hy (by simp [Array.getD, hj'])).dO)
      rwa [Nat.zero_add] at this
    · exact .ptr b o cb hm
  | hs b o n cap sz cb cap' hm hcap =>
    rw [fin_hs]
    split
    · rename_i cs hg
      split
      · rename_i hc
        obtain ⟨c1, c2, c3⟩ := hc
        obtain ⟨cs', cb', arr, T, rfl, a1, a3, a4, a5, a6⟩ := gone hg
        rw [hm] at a1; injection a1 with a1; subst a1
        have hlen : (chunkV n sz ((cs'.map deOwn).drop o)).length = n := chunkV_length _ _ _
        have hrow : ∀ (i : Nat) r, (chunkV n sz ((cs'.map deOwn).drop o))[i]? = some r → r = (((cs'.map deOwn).drop o).drop (i * sz)).take sz ∧ i < n ∧ (i + 1) * sz ≤ n * sz := by
          intro i r hi
          have hlt : i < n := by have := (List.getElem?_eq_some_iff.1 hi).1; rwa [hlen] at this
          rw [chunkV_at _ _ _ _ hlt] at hi
          injection hi with hi
          exact ⟨hi.symm, hlt, Nat.mul_le_mul_right _ hlt⟩
        rw [List.length_map] at c1
        have := RV.rowF (g := g.frzBut h1 E.w0.heap.size w) (c := .ro) (rows := chunkV n sz ((cs'.map deOwn).drop o)) (sz := sz) (blk := cb) (off := o) (cap := cap') (F := fun q => arr.getD (o + q) Go.undef) (by rw [hlen]; omega)
          (fun r hr => by
            obtain ⟨i, hi⟩ := List.getElem?_of_mem hr
            obtain ⟨rfl, hlt, hle⟩ := hrow i r hi
            rw [Nat.add_mul] at hle
            simp; omega)
          (fun k hk => by
            rw [hlen] at hk
            rw [a6]
            have hlt : o + k < arr.size := by omega
            simp [World.cell?, a3, Array.getD, hlt])
          (fun i r j x hi hj => by
            obtain ⟨rfl, hlt, hle⟩ := hrow i r hi
            rw [Nat.add_mul] at hle
            rw [List.getElem?_take] at hj
            split at hj
            · rename_i hjs
              rw [List.getElem?_drop, List.getElem?_drop, List.getElem?_map, Option.map_eq_some_iff] at hj
              obtain ⟨y, hy, rfl⟩ := hj
              have hlt2 : o + (i * sz + j) < arr.size := by omega
              exact le.rv (a5 (o + (i * sz + j)) y _ hy (by simp [Array.getD, hlt2])).dO
            · cases hj) (fun h => by cases h) (fun b h => by cases h)
        rwa [hlen] at this
      · exact .undef _
    · exact .hs b o n cap sz cb cap' hm hcap
  | ept row o blk off f hc hv ih =>
    rw [fin_ept]
    exact .ept _ o blk off f (fun j hj => le.fz _ _ _ (hc j (by simpa using hj))) (fun j x hx => by
      simp only [List.getElem?_map, Option.map_eq_some_iff] at hx
      obtain ⟨y, hy, rfl⟩ := hx
      exact ih j y hy)
  | sl c rows sz blk off cap f hn hs hc hv hx ho ih =>
    rw [fin_sl]
    have key : RV (g.frzBut h1 E.w0.heap.size w) (.sl c.shut (rows.map (·.map (finV h0 h1)))) (.slice (some ⟨blk, off, none⟩) (rows.map (·.map (finV h0 h1))).length cap) := by
      refine .sl _ _ sz blk off cap f (by simpa using hn) (fun i r hi => ?_) (fun i j hi hj => le.fz _ _ _ (hc i j (by simpa using hi) hj)) (fun i r j x hi hj => ?_) (fun e => ?_) (fun b hb => ?_)
      · simp only [List.getElem?_map, Option.map_eq_some_iff] at hi
        obtain ⟨r', hr, rfl⟩ := hi
        simpa using hs i r' hr
      · simp only [List.getElem?_map, Option.map_eq_some_iff] at hi
        obtain ⟨r', hr, rfl⟩ := hi
        simp only [List.getElem?_map, Option.map_eq_some_iff] at hj
        obtain ⟨x', hx', rfl⟩ := hj
        exact ih i r' j x' hr hx'
      · simpa using hx (Cap.shut_exact e)
      · exact absurd hb (Cap.shut_own c b)
    simpa using key
  | slnil c a ho => rw [fin_sl]; exact .slnil _ a (fun b hb => absurd hb (Cap.shut_own c b))
  | agg cs vs hl hv ih =>
    rw [fin_agg]
    exact .agg _ vs (by simpa using hl) (fun i x y h1 h2 => by
      simp only [List.getElem?_map, Option.map_eq_some_iff] at h1
      obtain ⟨z, hz, rfl⟩ := h1
      exact ih i z y hz h2)
  | tup cs vs hl hv ih =>
    rw [fin_tup]
    exact .tup _ vs (by simpa using hl) (fun i x y h1 h2 => by
      simp only [List.getElem?_map, Option.map_eq_some_iff] at h1
      obtain ⟨z, hz, rfl⟩ := h1
      exact ih i z y hz h2)
  | clo fn a b va vb hla hlb ha hb iha ihb =>
    rw [fin_clo]
    exact .clo fn _ _ va vb (by simpa using hla) (by simpa using hlb) (fun i x y h1 h2 => by
      simp only [List.getElem?_map, Option.map_eq_some_iff] at h1
      obtain ⟨z, hz, rfl⟩ := h1
      exact iha i z y hz h2) (fun i x y h1 h2 => by
      simp only [List.getElem?_map, Option.map_eq_some_iff] at h1
      obtain ⟨z, hz, rfl⟩ := h1
      exact ihb i z y hz h2)
  | ifc t x v h ih => rw [finV]; exact .ifc t _ v ih
  | yld L l h => rw [finV]; exact .yld L l h

theorem RV.fin (H : Mem E g h nx w) (hsub : ∀ {b x}, h1 b = some x → h b = some x) {x : V} {v : Value} (hx : RV g x v) : RV (g.frzBut h1 E.w0.heap.size w) (finV h h1 x) v :=
  RV.fin0 H hsub (fun _ _ h => h) hx

/-- A block's content where blocks are given up. -/
def finB (h h1 : Nat → Option Blk) : Blk → Blk
  | .cells cs => .cells (cs.map (finV h h1))
  | .map es => .map (es.map fun e => (e.1, finV h h1 e.2))
  | x => x

def finH (h0 h1 : Nat → Option Blk) (S : Nat → Bool) : Nat → Option Blk := fun b => match h1 b with | some x => some (if S b = true then finB h0 h1 x else x) | none => none
theorem finH_some {h0 : Nat → Option Blk} {S : Nat → Bool} {b : Nat} {x : Blk} (hb : h1 b = some x) : finH h0 h1 S b = some (if S b = true then finB h0 h1 x else x) := by unfold finH; rw [hb]
theorem finH_none {h0 : Nat → Option Blk} {S : Nat → Bool} {b : Nat} (hb : h1 b = none) : finH h0 h1 S b = none := by unfold finH; rw [hb]

/-- A block's content is what is said of it less exactly. -/
theorem Mem.finB {h0 : Nat → Option Blk} (H : Mem E g h nx w) (hsub : ∀ {b x}, h1 b = some x → h b = some x) (hg0 : ∀ b cs, goneV h0 h1 b = some cs → goneV h h1 b = some cs) (S : Nat → Bool) :
    Mem E (g.frzBut h1 E.w0.heap.size w) (finH h0 h1 S) nx w := by
  have H1 := H.frzBut (h1 := h1) hsub
  have own : ∀ x : Blk, ∀ b g', blkOf g' b (Proofs.YtkelfbakcpidjaaGreatDoor.finB h0 h1 x) = blkOf g' b x := fun x b g' => by cases x <;> rfl
  have key : ∀ b y, finH h0 h1 S b = some y → ∃ x, h1 b = some x ∧ (y = x ∨ y = Proofs.YtkelfbakcpidjaaGreatDoor.finB h0 h1 x) := by
    intro b y hy
    cases hx : h1 b with
    | none => rw [finH_none hx] at hy; cases hy
    | some x =>
      rw [finH_some hx] at hy
      simp only [Option.some.injEq] at hy
      split at hy
      · exact ⟨x, rfl, .inr hy.symm⟩
      · exact ⟨x, rfl, .inl hy.symm⟩
  refine ⟨H1.keep, H1.fz, H1.fz0, H1.fzN, fun b y hy => ?_, fun b b' y y' cb e1 e2 e3 e4 => ?_, fun b hb => ?_, H1.mlt, H1.l0, H1.le0, H1.n0, H1.gl⟩
  · obtain ⟨x, hx, hyx⟩ := key b y hy
    have hB := H1.blk b x hx
    rcases hyx with rfl | rfl
    · exact hB
    · have hB0 := H.blk b x (hsub hx)
      have le := H.frzBut_le (h1 := h1) E.w0.heap.size
      cases x with
      | cells cs =>
        obtain ⟨cb, arr, T, a1, a2, a3, a4, a5, a6⟩ := CellsAt.ex hB0
        obtain ⟨cb', arr', T', b1, b2, b3, b4, b5, b6⟩ := CellsAt.ex hB
        have b1' : g.m b = some cb' := b1
        rw [a1] at b1'; injection b1' with b1'; subst b1'
        exact ⟨⟨cb, arr, T, b1, a2, a3, by simpa using a4, fun i x y h2 h3 => by
          simp only [List.getElem?_map, Option.map_eq_some_iff] at h2
          obtain ⟨z, hz, rfl⟩ := h2
          exact RV.fin0 H hsub hg0 (a5 i z y hz h3), b6⟩⟩
      | map es =>
        obtain ⟨cb, o, a1, a2, a3, ar, clock, rfl, hi⟩ := hB0
        refine ⟨cb, _, a1, a2, a3, ar, clock, rfl, by simpa using hi.size, fun i e x h2 h3 => ?_, hi.born, hi.inc⟩
        simp only [List.getElem?_map, Option.map_eq_some_iff] at h2
        obtain ⟨z, hz, rfl⟩ := h2
        exact ⟨(hi.at_ i z x hz h3).1, RV.fin0 H hsub hg0 (hi.at_ i z x hz h3).2⟩
      | _ => exact hB
  · obtain ⟨x, hx, hyx⟩ := key b y e1
    obtain ⟨x', hx', hyx'⟩ := key b' y' e2
    refine H1.inj b b' x x' cb hx hx' ?_ ?_
    · rcases hyx with rfl | rfl
      · exact e3
      · rw [own] at e3; exact e3
    · rcases hyx' with rfl | rfl
      · exact e4
      · rw [own] at e4; exact e4
  · obtain ⟨a1, a2⟩ := H1.new b hb
    exact ⟨finH_none a1, a2⟩

end Go.Proofs.YtkelfbakcpidjaaGreatDoor
