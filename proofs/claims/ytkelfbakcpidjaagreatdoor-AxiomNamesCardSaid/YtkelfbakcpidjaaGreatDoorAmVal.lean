/- The abstract values of the proofs of this folder and how they stand to the machine's own values: definitions and plain laws; no program is named. -/
import Derived.WalkKit
import Derived.WalkLawsBesides
set_option linter.unusedVariables false
namespace Go.Proofs.YtkelfbakcpidjaaGreatDoor
open Go.RowKit

/-- May a slice be appended to? ro: it may not (or nothing is known of its capacity); exact: its capacity is its length; own b: token b stands for the room behind it. -/
inductive Cap where
  | ro | exact | own (b : Nat)
  deriving DecidableEq

/-- Values without addresses: slices are lists of rows of cells. -/
inductive V where
  | undef
  | lit (v : Value)
  | ptr (b o : Nat)
  | ept (row : List V) (o : Nat)
  | sl (c : Cap) (rows : List (List V))
  | agg (cs : List V)
  | tup (vs : List V)
  | clo (fn : Fn) (fst cap : List V)
  | ifc (t : TypeId) (v : V)
  | hs (b o n cap sz : Nat)
  | yld (L : Nat)

instance : Inhabited V := ⟨.undef⟩

/-- Where the abstract blocks, the rooms and the frozen cells lie. -/
structure Gh where
  m : Nat → Option Nat
  loc : Nat → Nat → Option (Nat × Nat × Nat × Nat)
  fz : Nat → Nat → Option Value

/-- A machine's value is what an abstract one says. -/
inductive RV (g : Gh) : V → Value → Prop where
  | undef (v : Value) : RV g .undef v
  | lit (v : Value) : RV g (.lit v) v
  | ptr (b o cb : Nat) (h : g.m b = some cb) : RV g (.ptr b o) (.pointer (some ⟨cb, o, none⟩))
  | ept (row : List V) (o blk off : Nat) (f : Nat → Value) (hc : ∀ j, j < row.length → g.fz blk (off + j) = some (f j))
      (hv : ∀ j x, row[j]? = some x → RV g x (f j)) : RV g (.ept row o) (.pointer (some ⟨blk, off + o, none⟩))
  | sl (c : Cap) (rows : List (List V)) (sz blk off cap : Nat) (f : Nat → Nat → Value) (hn : rows.length ≤ cap) (hs : ∀ (i : Nat) r, rows[i]? = some r → r.length = sz)
      (hc : ∀ i j, i < rows.length → j < sz → g.fz blk (off + (i * sz + j)) = some (f i j))
      (hv : ∀ (i : Nat) r j x, rows[i]? = some r → r[j]? = some x → RV g x (f i j))
      (hx : c = .exact → cap = rows.length) (ho : ∀ b, c = .own b → g.loc b rows.length = some (blk, off, cap, sz)) :
      RV g (.sl c rows) (.slice (some ⟨blk, off, none⟩) rows.length cap)
  | slnil (c : Cap) (a : Option Addr) (ho : ∀ b, c = .own b → g.loc b 0 = none) : RV g (.sl c []) (.slice a 0 0)
  | agg (cs : List V) (vs : Array Value) (hl : cs.length = vs.size) (hv : ∀ (i : Nat) x y, cs[i]? = some x → vs[i]? = some y → RV g x y) : RV g (.agg cs) (.agg vs)
  | tup (cs : List V) (vs : Array Value) (hl : cs.length = vs.size) (hv : ∀ (i : Nat) x y, cs[i]? = some x → vs[i]? = some y → RV g x y) : RV g (.tup cs) (.tuple vs)
  | clo (fn : Fn) (a b : List V) (va vb : Array Value) (hla : a.length = va.size) (hlb : b.length = vb.size)
      (ha : ∀ (i : Nat) x y, a[i]? = some x → va[i]? = some y → RV g x y) (hb : ∀ (i : Nat) x y, b[i]? = some x → vb[i]? = some y → RV g x y) :
      RV g (.clo fn a b) (.func fn va vb)
  | ifc (t : TypeId) (x : V) (v : Value) (h : RV g x v) : RV g (.ifc t x) (.iface t v)
  | hs (b o n cap sz cb cap' : Nat) (h : g.m b = some cb) (hc : cap ≤ cap') : RV g (.hs b o n cap sz) (.slice (some ⟨cb, o, none⟩) n cap')
  | yld (L l : Nat) (h : g.m L = some l) : RV g (.yld L) (.func (.yield l) #[] #[])

theorem RV.mono {g g' : Gh} (hm : ∀ b cb, g.m b = some cb → g'.m b = some cb) (hl : ∀ b n x, g.loc b n = some x → g'.loc b n = some x)
    (hl0 : ∀ b, g.loc b 0 = none → g'.loc b 0 = none) (hf : ∀ b o v, g.fz b o = some v → g'.fz b o = some v) {x : V} {v : Value} (h : RV g x v) : RV g' x v := by
  induction h with
  | undef v => exact .undef v
  | lit v => exact .lit v
  | ptr b o cb h => exact .ptr b o cb (hm _ _ h)
  | ept row o blk off f hc hv ih => exact .ept row o blk off f (fun j hj => hf _ _ _ (hc j hj)) ih
  | sl c rows sz blk off cap f hn hs hc hv hx ho ih => exact .sl c rows sz blk off cap f hn hs (fun i j hi hj => hf _ _ _ (hc i j hi hj)) ih hx (fun b hb => hl _ _ _ (ho b hb))
  | slnil c a ho => exact .slnil c a (fun b hb => hl0 b (ho b hb))
  | agg cs vs hl' hv ih => exact .agg cs vs hl' ih
  | tup cs vs hl' hv ih => exact .tup cs vs hl' ih
  | clo fn a b va vb hla hlb ha hb iha ihb => exact .clo fn a b va vb hla hlb iha ihb
  | ifc t x v h ih => exact .ifc t x v ih
  | hs b o n cap sz cb cap' h hc => exact .hs b o n cap sz cb cap' (hm _ _ h) hc
  | yld L l h => exact .yld L l (hm _ _ h)

/-- More is known of where things lie. -/
structure Gh.Le (g g' : Gh) : Prop where
  m : ∀ b cb, g.m b = some cb → g'.m b = some cb
  loc : ∀ b n x, g.loc b n = some x → g'.loc b n = some x
  loc0 : ∀ b, g.loc b 0 = none → g'.loc b 0 = none
  fz : ∀ b o v, g.fz b o = some v → g'.fz b o = some v

theorem Gh.Le.refl (g : Gh) : Gh.Le g g := ⟨fun _ _ h => h, fun _ _ _ h => h, fun _ h => h, fun _ _ _ h => h⟩
theorem Gh.Le.trans {a b c : Gh} (h : Gh.Le a b) (k : Gh.Le b c) : Gh.Le a c :=
  ⟨fun _ _ x => k.m _ _ (h.m _ _ x), fun _ _ _ x => k.loc _ _ _ (h.loc _ _ _ x), fun _ x => k.loc0 _ (h.loc0 _ x), fun _ _ _ x => k.fz _ _ _ (h.fz _ _ _ x)⟩
theorem Gh.Le.rv {g g' : Gh} (h : Gh.Le g g') {x : V} {v : Value} (hx : RV g x v) : RV g' x v := RV.mono h.m h.loc h.loc0 h.fz hx
theorem Gh.Le.fzOnly {g : Gh} {fz : Nat → Nat → Option Value} (h : ∀ b o v, g.fz b o = some v → fz b o = some v) : Gh.Le g { g with fz := fz } :=
  ⟨fun _ _ h => h, fun _ _ _ h => h, fun _ h => h, h⟩

/-- No abstract block and no room is named in it. -/
inductive D : V → Prop where
  | undef : D .undef
  | lit (v : Value) : D (.lit v)
  | ept (row : List V) (o : Nat) (h : ∀ x, x ∈ row → D x) : D (.ept row o)
  | ro (rows : List (List V)) (h : ∀ r x, r ∈ rows → x ∈ r → D x) : D (.sl .ro rows)
  | exact (rows : List (List V)) (h : ∀ r x, r ∈ rows → x ∈ r → D x) : D (.sl .exact rows)
  | agg (cs : List V) (h : ∀ x, x ∈ cs → D x) : D (.agg cs)
  | tup (cs : List V) (h : ∀ x, x ∈ cs → D x) : D (.tup cs)
  | clo (fn : Fn) (a b : List V) (ha : ∀ x, x ∈ a → D x) (hb : ∀ x, x ∈ b → D x) : D (.clo fn a b)
  | ifc (t : TypeId) (x : V) (h : D x) : D (.ifc t x)

theorem RV.data {g g' : Gh} (hf : ∀ b o v, g.fz b o = some v → g'.fz b o = some v) {x : V} {v : Value} (h : RV g x v) : D x → RV g' x v := by
  induction h with
  | undef v => exact fun _ => .undef v
  | lit v => exact fun _ => .lit v
  | ptr b o cb h => exact fun hd => by cases hd
  | ept row o blk off f hc hv ih =>
    intro hd; cases hd with | ept _ _ hd => exact .ept row o blk off f (fun j hj => hf _ _ _ (hc j hj)) (fun j x hx => ih j x hx (hd x (List.mem_of_getElem? hx)))
  | sl c rows sz blk off cap f hn hs hc hv hx ho ih =>
    intro hd
    have hr : ∀ r x, r ∈ rows → x ∈ r → D x := by cases hd with | ro _ h => exact h | exact _ h => exact h
    refine .sl c rows sz blk off cap f hn hs (fun i j hi hj => hf _ _ _ (hc i j hi hj)) (fun i r j x h1 h2 => ih i r j x h1 h2 (hr r x (List.mem_of_getElem? h1) (List.mem_of_getElem? h2))) hx (fun b hb => ?_)
    subst hb; cases hd
  | slnil c a ho => intro hd; exact .slnil c a (fun b hb => by subst hb; cases hd)
  | agg cs vs hl hv ih => intro hd; cases hd with | agg _ hd => exact .agg cs vs hl (fun i x y h1 h2 => ih i x y h1 h2 (hd x (List.mem_of_getElem? h1)))
  | tup cs vs hl hv ih => intro hd; cases hd with | tup _ hd => exact .tup cs vs hl (fun i x y h1 h2 => ih i x y h1 h2 (hd x (List.mem_of_getElem? h1)))
  | clo fn a b va vb hla hlb ha hb iha ihb =>
    intro hd; cases hd with | clo _ _ _ da db => exact .clo fn a b va vb hla hlb (fun i x y h1 h2 => iha i x y h1 h2 (da x (List.mem_of_getElem? h1))) (fun i x y h1 h2 => ihb i x y h1 h2 (db x (List.mem_of_getElem? h1)))
  | ifc t x v h ih => intro hd; cases hd with | ifc _ _ hd => exact .ifc t x v (ih hd)
  | hs b o n cap sz cb cap' h hc => exact fun hd => by cases hd
  | yld L l h => exact fun hd => by cases hd

/-- No abstract block but those of S is named in it. -/
inductive DS (S : Nat → Prop) : V → Prop where
  | undef : DS S .undef
  | lit (v : Value) : DS S (.lit v)
  | ptr (b o : Nat) (h : S b) : DS S (.ptr b o)
  | ept (row : List V) (o : Nat) (h : ∀ x, x ∈ row → DS S x) : DS S (.ept row o)
  | sl (c : Cap) (rows : List (List V)) (hc : ∀ b, c = .own b → rows = [] ∨ S b) (h : ∀ r x, r ∈ rows → x ∈ r → DS S x) : DS S (.sl c rows)
  | agg (cs : List V) (h : ∀ x, x ∈ cs → DS S x) : DS S (.agg cs)
  | tup (cs : List V) (h : ∀ x, x ∈ cs → DS S x) : DS S (.tup cs)
  | clo (fn : Fn) (a b : List V) (ha : ∀ x, x ∈ a → DS S x) (hb : ∀ x, x ∈ b → DS S x) : DS S (.clo fn a b)
  | ifc (t : TypeId) (x : V) (h : DS S x) : DS S (.ifc t x)
  | hs (b o n cap sz : Nat) (h : S b) : DS S (.hs b o n cap sz)
  | yld (L : Nat) (h : S L) : DS S (.yld L)

theorem D.ds {S : Nat → Prop} {x : V} (h : D x) : DS S x := by
  induction h with
  | undef => exact .undef
  | lit v => exact .lit v
  | ept row o h ih => exact .ept row o ih
  | ro rows h ih => exact .sl _ rows (fun b e => by cases e) ih
  | exact rows h ih => exact .sl _ rows (fun b e => by cases e) ih
  | agg cs h ih => exact .agg cs ih
  | tup cs h ih => exact .tup cs ih
  | clo fn a b ha hb iha ihb => exact .clo fn a b iha ihb
  | ifc t x h ih => exact .ifc t x ih
theorem DS.mono {S S' : Nat → Prop} (hs : ∀ b, S b → S' b) {x : V} (h : DS S x) : DS S' x := by
  induction h with
  | undef => exact .undef
  | lit v => exact .lit v
  | ptr b o h => exact .ptr b o (hs b h)
  | ept row o h ih => exact .ept row o ih
  | sl c rows hc h ih => exact .sl c rows (fun b e => (hc b e).imp id (hs b)) ih
  | agg cs h ih => exact .agg cs ih
  | tup cs h ih => exact .tup cs ih
  | clo fn a b ha hb iha ihb => exact .clo fn a b iha ihb
  | ifc t x h ih => exact .ifc t x ih
  | hs b o n cap sz h => exact .hs b o n cap sz (hs b h)
  | yld L h => exact .yld L (hs L h)

/-- What stands for something names nothing else. -/
theorem RV.ds {g : Gh} {S : Nat → Prop} (hm : ∀ b cb, g.m b = some cb → S b) (hl : ∀ b n q, g.loc b n = some q → S b) {x : V} {v : Value} (h : RV g x v) : DS S x := by
  induction h with
  | undef v => exact .undef
  | lit v => exact .lit v
  | ptr b o cb h => exact .ptr b o (hm _ _ h)
  | ept row o blk off f hc hv ih =>
    refine .ept row o fun x hx => ?_
    obtain ⟨j, hj⟩ := List.getElem?_of_mem hx
    exact ih j x hj
  | sl c rows sz blk off cap f hn hs hc hv hx ho ih =>
    refine .sl c rows (fun b e => .inr (hl _ _ _ (ho b e))) fun r x hr hx => ?_
    obtain ⟨i, hi⟩ := List.getElem?_of_mem hr
    obtain ⟨j, hj⟩ := List.getElem?_of_mem hx
    exact ih i r j x hi hj
  | slnil c a ho => exact .sl c [] (fun b e => .inl rfl) (fun r x hr => by cases hr)
  | agg cs vs hl' hv ih =>
    refine .agg cs fun x hx => ?_
    obtain ⟨i, hi⟩ := List.getElem?_of_mem hx
    have hlt := (List.getElem?_eq_some_iff.1 hi).1
    exact ih i x vs[i] hi (by simp [show i < vs.size by omega])
  | tup cs vs hl' hv ih =>
    refine .tup cs fun x hx => ?_
    obtain ⟨i, hi⟩ := List.getElem?_of_mem hx
    have hlt := (List.getElem?_eq_some_iff.1 hi).1
    exact ih i x vs[i] hi (by simp [show i < vs.size by omega])
  | clo fn a b va vb hla hlb ha hb iha ihb =>
    refine .clo fn a b (fun x hx => ?_) (fun x hx => ?_)
    · obtain ⟨i, hi⟩ := List.getElem?_of_mem hx
      have hlt := (List.getElem?_eq_some_iff.1 hi).1
      exact iha i x va[i] hi (by simp [show i < va.size by omega])
    · obtain ⟨i, hi⟩ := List.getElem?_of_mem hx
      have hlt := (List.getElem?_eq_some_iff.1 hi).1
      exact ihb i x vb[i] hi (by simp [show i < vb.size by omega])
  | ifc t x v h ih => exact .ifc t x ih
  | hs b o n cap sz cb cap' h hc => exact .hs b o n cap sz (hm _ _ h)
  | yld L l h => exact .yld L (hm _ _ h)

/-- It stands for the same where the blocks that it names lie as they lay. -/
theorem RV.on {g g' : Gh} {S : Nat → Prop} (hm : ∀ b cb, S b → g.m b = some cb → g'.m b = some cb) (hl : ∀ b n q, S b → g.loc b n = some q → g'.loc b n = some q)
    (hz : ∀ b, g.loc b 0 = none) (hl0 : ∀ b, g'.loc b 0 = none) (hf : ∀ b o v, g.fz b o = some v → g'.fz b o = some v) {x : V} {v : Value} (h : RV g x v) : DS S x → RV g' x v := by
  induction h with
  | undef v => exact fun _ => .undef v
  | lit v => exact fun _ => .lit v
  | ptr b o cb h => intro hd; cases hd with | ptr _ _ hs => exact .ptr b o cb (hm _ _ hs h)
  | ept row o blk off f hc hv ih =>
    intro hd; cases hd with | ept _ _ hd => exact .ept row o blk off f (fun j hj => hf _ _ _ (hc j hj)) (fun j x hx => ih j x hx (hd x (List.mem_of_getElem? hx)))
  | sl c rows sz blk off cap f hn hs hc hv hx ho ih =>
    intro hd
    cases hd with
    | sl _ _ hown hd =>
      by_cases h0 : ∃ b, c = .own b ∧ rows = []
      · obtain ⟨b, rfl, rfl⟩ := h0
        have := ho b rfl
        rw [show ([] : List (List V)).length = 0 from rfl, hz b] at this; cases this
      · refine .sl c rows sz blk off cap f hn hs (fun i j hi hj => hf _ _ _ (hc i j hi hj)) (fun i r j x h1 h2 => ih i r j x h1 h2 (hd r x (List.mem_of_getElem? h1) (List.mem_of_getElem? h2))) hx (fun b hb => ?_)
        exact hl _ _ _ ((hown b hb).resolve_left (fun e => h0 ⟨b, hb, e⟩)) (ho b hb)
  | slnil c a ho => intro hd; exact .slnil c a (fun b hb => hl0 b)
  | agg cs vs hl' hv ih => intro hd; cases hd with | agg _ hd => exact .agg cs vs hl' (fun i x y h1 h2 => ih i x y h1 h2 (hd x (List.mem_of_getElem? h1)))
  | tup cs vs hl' hv ih => intro hd; cases hd with | tup _ hd => exact .tup cs vs hl' (fun i x y h1 h2 => ih i x y h1 h2 (hd x (List.mem_of_getElem? h1)))
  | clo fn a b va vb hla hlb ha hb iha ihb =>
    intro hd; cases hd with | clo _ _ _ da db => exact .clo fn a b va vb hla hlb (fun i x y h1 h2 => iha i x y h1 h2 (da x (List.mem_of_getElem? h1))) (fun i x y h1 h2 => ihb i x y h1 h2 (db x (List.mem_of_getElem? h1)))
  | ifc t x v h ih => intro hd; cases hd with | ifc _ _ hd => exact .ifc t x v (ih hd)
  | hs b o n cap sz cb cap' h hc => intro hd; cases hd with | hs _ _ _ _ _ hs => exact .hs b o n cap sz cb cap' (hm _ _ hs h) hc
  | yld L l h => intro hd; cases hd with | yld _ hs => exact .yld L l (hm _ _ hs h)

/-- The room forgotten. -/
def strip0 : V → V
  | .sl _ rows => .sl .ro rows
  | x => x
def strip1 : V → V
  | .agg cs => .agg (cs.map strip0)
  | x => strip0 x
def strip : V → V
  | .tup cs => .tup (cs.map strip1)
  | x => strip1 x

theorem RV.strip0 {g : Gh} {x : V} {v : Value} (h : RV g x v) : RV g (strip0 x) v := by
  cases h with
  | sl c rows sz blk off cap f hn hs hc hv hx ho =>
    cases c with
    | own b => exact .sl .ro rows sz blk off cap f hn hs hc hv (fun h => by cases h) (fun b h => by cases h)
    | ro => exact .sl _ rows sz blk off cap f hn hs hc hv hx ho
    | exact => exact .sl .ro rows sz blk off cap f hn hs hc hv (fun h => by cases h) (fun b h => by cases h)
  | slnil c a ho => exact .slnil .ro a (fun b h => by cases h)
  | undef v => exact .undef v
  | lit v => exact .lit v
  | ptr b o cb h => exact .ptr b o cb h
  | ept row o blk off f hc hv => exact .ept row o blk off f hc hv
  | agg cs vs hl hv => exact .agg cs vs hl hv
  | tup cs vs hl hv => exact .tup cs vs hl hv
  | clo fn a b va vb hla hlb ha hb => exact .clo fn a b va vb hla hlb ha hb
  | ifc t x v h => exact .ifc t x v h
  | hs b o n cap sz cb cap' h hc => exact .hs b o n cap sz cb cap' h hc
  | yld L l h => exact .yld L l h

theorem RV.strip1 {g : Gh} {x : V} {v : Value} (h : RV g x v) : RV g (strip1 x) v := by
  cases x with
  | agg cs =>
    cases h with
    | agg _ vs hl hv =>
      refine .agg _ vs (by simpa using hl) (fun i x y h1 h2 => ?_)
      simp only [List.getElem?_map, Option.map_eq_some_iff] at h1
      obtain ⟨z, hz, rfl⟩ := h1
      exact (hv i z y hz h2).strip0
  | _ => exact h.strip0

theorem RV.strip {g : Gh} {x : V} {v : Value} (h : RV g x v) : RV g (strip x) v := by
  cases x with
  | tup cs =>
    cases h with
    | tup _ vs hl hv =>
      refine .tup _ vs (by simpa using hl) (fun i x y h1 h2 => ?_)
      simp only [List.getElem?_map, Option.map_eq_some_iff] at h1
      obtain ⟨z, hz, rfl⟩ := h1
      exact (hv i z y hz h2).strip1
  | _ => exact h.strip1

/-- Where no block is known. -/
def gd (fz : Nat → Nat → Option Value) : Gh := ⟨fun _ => none, fun _ _ => none, fz⟩

end Go.Proofs.YtkelfbakcpidjaaGreatDoor
