/- From a function's contract to a row: what is left below, and an argument that is a slice of ints. -/
import Derived.Test.YtkelfbakcpidjaaGreatDoorAmInts
import Derived.ProofKit
import Derived.OpenShut
import Derived.Carry
import Derived.SizedLaws
import Derived.ChangeSlices
import Derived.Deep.DeepHandedRow
import Derived.Lib.LaidTab
set_option linter.unusedVariables false
set_option linter.unusedSimpArgs false
set_option maxRecDepth 100000
namespace Go.Proofs.YtkelfbakcpidjaaGreatDoor
open Go.ChangeShapes Go.WideShapes Go.ChangeAt Go.RowKit

section
variable {H : Type} {enc : TypeId × Value → H} {P : Program}

/-- What a call leaves that writes into nothing that was there: the row's word for it. -/
theorem post_below {f : Func} {s : ChangeSpec} {apart fresh handsOn again : Bool} {W W' : World} {args : Array Value} {v : Value} {ds gs : List (DataW H)} {before pa pv : List MemPlace}
    (hW : DataW.Whole enc P f.params.toList s.vars apart W args.toList ds gs before)
    (hres : ∀ (b : Nat) (sp : Nat → Bool) (hd : Bool), DataW.TrodAll enc P W' b sp hd f.resultTypes.toList (v.resultList f.resultTypes.size) (s.fn H (ds ++ gs)).results [])
    (hargs : ∀ sp : Nat → Bool, (∀ p ∈ before, sp p.block = true) → DataW.TrodAll enc P W' 0 sp true f.params.toList args.toList (s.fn H (ds ++ gs)).args pa)
    (hvars : ∀ sp : Nat → Bool, (∀ p ∈ before, sp p.block = true) → DataW.TrodVars enc P W' sp s.vars (s.fn H (ds ++ gs)).vars pv)
    (hps : before = pa ++ pv) (hB : Below W.heap.size W W')
    (hok : ∀ (j : Nat) (t : TypeId) (r : Value), f.resultTypes[j]? = some t → (v.resultList f.resultTypes.size)[j]? = some r → Value.okWide P W' .any 0 t r) :
    s.post enc P f apart fresh handsOn again W args v W' := by
  have hlt := hW.lt
  have old : ∀ p ∈ before, (fun b => decide (b < W.heap.size)) p.block = true := fun p hp => decide_eq_true (hlt p hp)
  refine ⟨ds, gs, before, [], pa, pv, hW, hres _ _ _, hargs _ old, hvars _ old, ?_, fun _ => ⟨hok, ?_⟩⟩
  · refine World.keptBut_mono (fun p (hp : p ∈ before) => ⟨hp, ?_⟩) (hB.frame (· ∈ before))
    exact Or.inr (by rw [hps] at hp; simpa using hp)
  · obtain ⟨_, _, _, _, hbe, hz, hn⟩ := hW
    refine ⟨_, _, ([] ++ pa) ++ pv, ⟨[] ++ pa, pv, trodAll_append (hargs _ (fun _ _ => rfl)) (hres _ _ _), hvars _ (fun _ _ => rfl), rfl, ?_, ?_⟩, ?_⟩
    · intro b off hp
      have hp' : MemPlace.cell b off ∈ before := by rw [hps]; simpa using hp
      have hb : b < W.heap.size := hlt _ hp'
      rw [hB.frozen (p := ⟨b, off, none⟩) hb]
      exact hz b off hp'
    · intro ha
      have := hn ha
      rw [hps] at this
      simpa using this
    · intro p hp _
      rw [hps]
      simpa using hp

/-- The cells of a world, all taken as they stand. -/
def worldFz (W : World) : Nat → Nat → Option Value := fun b o => W.cell? ⟨b, o, none⟩
theorem fzOk_world (W : World) : FzOk (worldFz W) W := fun _ _ _ h => h
theorem glOk_undef (fz : Nat → Nat → Option Value) : GlOk fz (fun _ => .undef) := fun _ => ⟨.undef _, .undef⟩

/-- An argument that is a slice of ints. -/
theorem arg_ints {t e : TypeId} (ht : P.underlying t = some (.slice e)) (he : P.underlying e = some (.int .i64)) (hc : P.cellsOf e = 1) {r : Reach} {b0 : Nat} {W : World} {v : Value} {d : DataW H} {ps : List MemPlace}
    (hv : Value.okWide P W r b0 t v) (hd : DataW.Trod enc P W 0 (fun _ => true) true t v d ps) :
    ∃ (xs : List Int), RV (gd (worldFz W)) (.sl .ro (ints xs)) v ∧ (∀ (es sp : List (DataW H)), d = .slice es sp → xs.length ≤ es.length + sp.length) ∧ (d = .nil → xs = []) ∧ (d = .nil ∨ ∃ es sp, d = .slice es sp) := by
  obtain ⟨a, len, cap, rfl⟩ := okWide_slice ht hv
  obtain ⟨fuel, hf⟩ := hd
  rcases open_ints ht he hc hf with ⟨hcs, hx⟩ | ⟨a', len', cap', zs, hcs, _, hl, _, hz, hx, hcell, _⟩
  · simp only [Value.cells, List.cons.injEq, Value.slice.injEq, and_true] at hcs
    obtain ⟨rfl, rfl, rfl⟩ := hcs
    injection hx with hx1 hx2
    subst hx1
    exact ⟨[], .slnil .ro none (fun b h => by cases h), fun es sp h => (by cases h), fun _ => rfl, .inl rfl⟩
  · simp only [Value.cells, List.cons.injEq, Value.slice.injEq, and_true] at hcs
    obtain ⟨rfl, rfl, rfl⟩ := hcs
    injection hx with hx1 hx2
    subst hx1
    simp only [if_true] at hz
    have hsp : a'.spot = none := by
      simp only [Value.okWide, ht, Cell.okWide, Cell.ok] at hv
      exact hv.2.2.2.1
    obtain ⟨blk, off, spot⟩ := a'
    simp only at hsp
    subst hsp
    refine ⟨zs.take len, ?_, fun es sp h => ?_, fun h => (by cases h), .inr ⟨_, _, rfl⟩⟩
    · have hlen : (ints (zs.take len)).length = len := by simp [ints]; omega
      have := RV.sl (g := gd (worldFz W)) .ro (ints (zs.take len)) 1 blk off cap (fun i _ => .int .i64 (zs.getD i 0)) (by omega) (fun i r hr => ints_rows _ r (List.mem_of_getElem? hr))
        (fun i j hi hj => by
          have hj0 : j = 0 := by omega
          subst hj0
          have := hcell i (by omega)
          simp only [Addr.add] at this
          show W.cell? ⟨blk, off + (i * 1 + 0), none⟩ = _
          rw [Nat.mul_one, Nat.add_zero]
          by_cases e : i = 0
          · subst e; simpa using this
          · rw [if_neg e] at this; exact this)
        (fun i r j x hr hx => by
          rw [ints_at] at hr
          simp only [Option.map_eq_some_iff] at hr
          obtain ⟨z, hz1, rfl⟩ := hr
          cases j with
          | zero =>
            simp only [irow, List.getElem?_cons_zero, Option.some.injEq] at hx
            subst hx
            have : zs.getD i 0 = z := by
              rw [List.getElem?_take] at hz1
              split at hz1
              · rw [List.getD_eq_getElem?_getD, hz1]; rfl
              · cases hz1
            rw [this]; exact .lit _
          | succ j => simp [irow] at hx)
        (fun h => by cases h) (fun b h => by cases h)
      rw [hlen] at this
      exact this
    · injection h with h1 h2
      subst h1 h2
      simp [lits]
end

end Go.Proofs.YtkelfbakcpidjaaGreatDoor
