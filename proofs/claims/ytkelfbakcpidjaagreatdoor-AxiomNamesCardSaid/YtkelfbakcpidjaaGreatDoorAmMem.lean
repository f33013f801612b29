/- What becomes of the abstract memory at a new block, at a store, at a call that makes memory of its own, at a draw. -/
import Derived.Test.YtkelfbakcpidjaaGreatDoorAmRel
set_option linter.unusedVariables false
namespace Go.Proofs.YtkelfbakcpidjaaGreatDoor
open Go.RowKit

def upd {α : Type} (f : Nat → α) (i : Nat) (x : α) : Nat → α := fun j => if j = i then x else f j
theorem upd_same {α : Type} (f : Nat → α) (i : Nat) (x : α) : upd f i x i = x := if_pos rfl
theorem upd_ne {α : Type} (f : Nat → α) (i : Nat) (x : α) {j : Nat} (h : j ≠ i) : upd f i x j = f j := if_neg h

def Gh.new (g : Gh) (b cb : Nat) : Gh := { g with m := upd g.m b (some cb) }

theorem Gh.new_le {g : Gh} {b cb : Nat} (hb : g.m b = none) : Gh.Le g (g.new b cb) :=
  ⟨fun i c hi => by
    show upd g.m b (some cb) i = some c
    rw [upd_ne _ _ _ (fun e => by rw [e, hb] at hi; cases hi)]; exact hi, fun _ _ _ h => h, fun _ h => h, fun _ _ _ h => h⟩
theorem Gh.new_mono {g : Gh} {b cb : Nat} (hb : g.m b = none) {x : V} {v : Value} (h : RV g x v) : RV (g.new b cb) x v := (Gh.new_le hb).rv h

theorem lt_of_cell {w : World} {b o : Nat} {v : Value} (h : w.cell? ⟨b, o, none⟩ = some v) : b < w.heap.size := by
  unfold World.cell? at h
  by_cases hb : b < w.heap.size
  · exact hb
  · rw [Array.getElem?_eq_none (by show w.heap.size ≤ b; omega)] at h; cases h

theorem alloc_get (w : World) (o : Obj) (k : Nat) : (w.alloc o).heap[k]? = if k = w.heap.size then some o else w.heap[k]? := by
  show (w.heap.push o)[k]? = _
  rw [Array.getElem?_push]

theorem cell_of_heap {w w' : World} {b o : Nat} (h : w'.heap[b]? = w.heap[b]?) : w'.cell? ⟨b, o, none⟩ = w.cell? ⟨b, o, none⟩ := by
  unfold World.cell?; simp only [h]

variable {E : Env} {g : Gh} {h : Nat → Option Blk} {nx : Nat} {w : World}

theorem Mem.cells (H : Mem E g h nx w) (b : Nat) (cs : List V) (hb : h b = some (.cells cs)) : CellsAt E g w b cs := H.blk b _ hb
theorem Mem.room (H : Mem E g h nx w) (b n : Nat) (hb : h b = some (.room n)) : RoomAt E g w b n := H.blk b _ hb
theorem Mem.rsv (H : Mem E g h nx w) (b : Nat) (hb : h b = some .rsv) : g.m b = none ∧ ∀ n, g.loc b n = none := H.blk b _ hb

theorem Mem.fz_lt (H : Mem E g h nx w) {b o : Nat} {v : Value} (hf : g.fz b o = some v) : b < w.heap.size := lt_of_cell (H.fz b o v hf)
theorem Mem.nx_m (H : Mem E g h nx w) : g.m nx = none := (H.new nx (Nat.le_refl _)).2.1

/-- What is no cell is not frozen. -/
theorem Mem.fz_obj (H : Mem E g h nx w) {cb : Nat} {o : Obj} (hc : w.heap[cb]? = some o) (ho : ∀ c T f, o ≠ .cells c T f) (k : Nat) : g.fz cb k = none := by
  cases hf : g.fz cb k with
  | none => rfl
  | some v =>
    have := H.fz _ _ _ hf
    simp only [World.cell?, hc] at this
    cases o <;> first | exact absurd rfl (ho _ _ _) | (simp at this)

/-- A number that stands for nothing yet: the next one, or one put by. -/
def FreeNo (h : Nat → Option Blk) (nx b : Nat) : Prop := b = nx ∨ h b = some .rsv
theorem Mem.free (H : Mem E g h nx w) {b : Nat} (hb : FreeNo h nx b) : g.m b = none ∧ ∀ n, g.loc b n = none := by
  rcases hb with rfl | hb
  · exact (H.new b (Nat.le_refl _)).2
  · exact H.rsv b hb
theorem Mem.free_h (H : Mem E g h nx w) {b : Nat} (hb : FreeNo h nx b) : h b = none ∨ h b = some .rsv := by
  rcases hb with rfl | hb
  · exact .inl (H.new b (Nat.le_refl _)).1
  · exact .inr hb

theorem Mem.live_lt (H : Mem E g h nx w) {b : Nat} {x : Blk} (hb : h b = some x) : b < nx := by
  by_cases hlt : b < nx
  · exact hlt
  · have := (H.new b (by omega)).1; rw [this] at hb; cases hb

theorem RoomAt.move {w' : World} {g' : Gh} {b n : Nat} (hr : RoomAt E g w b n) (hloc : ∀ k, n ≤ k → g'.loc b k = g.loc b k)
    (hh : ∀ cb, blkOf g b (.room n) = some cb → w'.heap[cb]? = w.heap[cb]? ∧ ∀ o, g.fz cb o = none → g'.fz cb o = none) : RoomAt E g' w' b n := by
  obtain ⟨h1, h2⟩ := hr
  refine ⟨fun k hk => by rw [hloc k (Nat.le_of_lt hk)]; exact h1 k hk, ?_⟩
  rw [hloc n (Nat.le_refl _)]
  simp only [blkOf] at hh
  cases hl : g.loc b n with
  | none => rw [hl] at h2; exact h2
  | some q =>
    obtain ⟨cb, off, cap, sz⟩ := q
    rw [hl] at h2 hh
    refine ⟨h2.1, fun hlt => ?_⟩
    obtain ⟨h3, h4, h5, arr, T, h6, h7⟩ := h2.2 hlt
    obtain ⟨h8, h9⟩ := hh cb (by simp [hlt])
    exact ⟨h3, h4, fun o ho => h9 o (h5 o ho), arr, T, by rw [h8]; exact h6, h7⟩

theorem ObjIs.lift {g' : Gh} (hm : ∀ b cb, g.m b = some cb → g'.m b = some cb) (lift : ∀ {x : V} {v : Value}, RV g x v → RV g' x v) {x : Blk} {o : Obj} (h : ObjIs g x o) : ObjIs g' x o := by
  cases x with
  | map es => obtain ⟨ar, clock, rfl, hi⟩ := h; exact ⟨ar, clock, rfl, hi.size, fun i e x h1 h2 => ⟨(hi.at_ i e x h1 h2).1, lift (hi.at_ i e x h1 h2).2⟩, hi.born, hi.inc⟩
  | loop st pe tm nt ps as bo df => obtain ⟨r, rfl, hi⟩ := h; exact ⟨r, rfl, hi.state, hi.pending, fun i => lift (hi.tmps i), hi.size, hi.ps, hi.as, hi.bo, hm _ _ hi.df⟩
  | dfr => exact h
  | _ => exact h.elim

theorem ObjIs.notCells {x : Blk} {o : Obj} (h : ObjIs g x o) : ∀ c T f, o ≠ .cells c T f := by
  cases x with
  | map es => obtain ⟨ar, clock, rfl, hi⟩ := h; intro c T f e; cases e
  | loop st pe tm nt ps as bo df => obtain ⟨r, rfl, hi⟩ := h; intro c T f e; cases e
  | dfr => intro c T f e; rw [show o = _ from h] at e; cases e
  | _ => exact h.elim

/-- A block lies on where what it stands for lies as it lay. -/
theorem BlkAt.move {w' : World} {g' : Gh} {b : Nat} {x : Blk} (hb : BlkAt E g w b x) (hm : ∀ b cb, g.m b = some cb → g'.m b = some cb) (lift : ∀ {x : V} {v : Value}, RV g x v → RV g' x v)
    (hloc : ∀ k, g'.loc b k = g.loc b k) (hrsv : x = .rsv → g'.m b = none)
    (hh : ∀ cb, blkOf g b x = some cb → w'.heap[cb]? = w.heap[cb]? ∧ ∀ o, g.fz cb o = none → g'.fz cb o = none) : BlkAt E g' w' b x := by
  have obj : (∃ cb o, g.m b = some cb ∧ E.w0.heap.size ≤ cb ∧ w.heap[cb]? = some o ∧ ObjIs g x o) → (∀ cb, g.m b = some cb → w'.heap[cb]? = w.heap[cb]?) →
      ∃ cb o, g'.m b = some cb ∧ E.w0.heap.size ≤ cb ∧ w'.heap[cb]? = some o ∧ ObjIs g' x o := by
    rintro ⟨cb, o, h1, h2, h3, h4⟩ hw
    exact ⟨cb, o, hm _ _ h1, h2, by rw [hw cb h1]; exact h3, h4.lift hm lift⟩
  cases x with
  | cells cs =>
    obtain ⟨cb, arr, T, h1, h2, h3, h4, h5, h6⟩ := CellsAt.ex hb
    obtain ⟨h7, h8⟩ := hh cb h1
    exact ⟨⟨cb, arr, T, hm _ _ h1, h2, by rw [h7]; exact h3, h4, fun i x y a1 a2 => lift (h5 i x y a1 a2), fun o => h8 o (h6 o)⟩⟩
  | room n => exact RoomAt.move hb (fun k _ => hloc k) hh
  | rsv => exact ⟨hrsv rfl, fun n => by rw [hloc]; exact hb.2 n⟩
  | map es => exact obj hb (fun cb hc => (hh cb hc).1)
  | loop st pe tm nt ps as bo df => exact obj hb (fun cb hc => (hh cb hc).1)
  | dfr => exact obj hb (fun cb hc => (hh cb hc).1)

theorem Mem.room_block (H : Mem E g h nx w) {b n cb : Nat} (hb : h b = some (.room n)) (hc : blkOf g b (.room n) = some cb) :
    ∃ cap sz arr T, g.loc b n = some (cb, 0, cap, sz) ∧ n < cap ∧ E.w0.heap.size ≤ cb ∧ (∀ o, n * sz ≤ o → g.fz cb o = none) ∧ w.heap[cb]? = some (.cells arr T (0, 0)) ∧ cap * sz ≤ arr.size := by
  obtain ⟨h1, h2⟩ := H.room b n hb
  simp only [blkOf] at hc
  cases hl : g.loc b n with
  | none => rw [hl] at hc; cases hc
  | some q =>
    obtain ⟨cb', off, cap, sz⟩ := q
    rw [hl] at hc h2
    simp only [] at hc
    split at hc
    · rename_i hlt
      injection hc with hc; subst hc
      obtain ⟨h3, h4, h5, arr, T, h6, h7⟩ := h2.2 hlt
      subst h3
      exact ⟨cap, sz, arr, T, rfl, hlt, h4, h5, h6, h7⟩
    · cases hc

theorem Mem.blk_lt (H : Mem E g h nx w) {b : Nat} {x : Blk} {cb : Nat} (hb : h b = some x) (hc : blkOf g b x = some cb) : cb < w.heap.size := by
  cases x with
  | rsv => cases hc
  | room n =>
    obtain ⟨_, _, arr, T, _, _, _, _, h6, _⟩ := H.room_block hb hc
    exact (Array.getElem?_eq_some_iff.1 h6).1
  | _ => exact H.mlt b cb hc

/-- The machine's block of an abstract one is no older than the frame. -/
theorem Mem.blk_own (H : Mem E g h nx w) {b : Nat} {x : Blk} {cb : Nat} (hb : h b = some x) (hc : blkOf g b x = some cb) : E.w0.heap.size ≤ cb := by
  have obj : (∃ cb o, g.m b = some cb ∧ E.w0.heap.size ≤ cb ∧ w.heap[cb]? = some o ∧ ObjIs g x o) → g.m b = some cb → E.w0.heap.size ≤ cb := by
    rintro ⟨cb', o, h1, h2, _⟩ h3
    rw [h1] at h3; injection h3 with h3; omega
  have hB := H.blk b x hb
  cases x with
  | rsv => cases hc
  | room n =>
    obtain ⟨_, _, arr, T, _, _, h3, _⟩ := H.room_block hb hc
    exact h3
  | cells cs =>
    obtain ⟨cb', arr, T, h1, h2, _⟩ := CellsAt.ex hB
    have : g.m b = some cb := hc
    rw [h1] at this; injection this with this; omega
  | map es => exact obj hB hc
  | loop st pe tm nt ps as bo df => exact obj hB hc
  | dfr => exact obj hB hc

theorem Mem.free_le (H : Mem E g h nx w) {b : Nat} (hb : FreeNo h nx b) : b ≤ nx := by
  rcases hb with rfl | hb
  · exact Nat.le_refl _
  · exact Nat.le_of_lt (H.live_lt hb)
def nextNo (nx b : Nat) : Nat := if b = nx then nx + 1 else nx
theorem nextNo_same (n : Nat) : nextNo n n = n + 1 := if_pos rfl
theorem nextNo_ne {nx b : Nat} (h : b ≠ nx) : nextNo nx b = nx := if_neg h

/-- Is it a block with an object of its own? -/
def Blk.own : Blk → Bool
  | .room _ | .rsv => false
  | _ => true
theorem blkOf_own {x : Blk} (h : x.own = true) (g : Gh) (b : Nat) : blkOf g b x = g.m b := by cases x <;> first | rfl | cases h
theorem blkOf_new {b nb cb : Nat} {x : Blk} (h : b ≠ nb) : blkOf (g.new nb cb) b x = blkOf g b x := by
  have : (g.new nb cb).m b = g.m b := upd_ne _ _ _ h
  cases x <;> first | exact this | rfl

/-- A block that stands comes to stand for a number. -/
theorem Mem.adoptB (H : Mem E g h nx w) {nb blk : Nat} (hf : FreeNo h nx nb) {x : Blk} (hx : x.own = true) (hat : BlkAt E (g.new nb blk) w nb x) (hlt : blk < w.heap.size)
    (hbn : ∀ b x cb, h b = some x → blkOf g b x = some cb → cb ≠ blk) : Mem E (g.new nb blk) (upd h nb (some x)) (nextNo nx nb) w := by
  have hn := (H.free hf).1
  have le := Gh.new_le (cb := blk) hn
  have hself : blkOf (g.new nb blk) nb x = some blk := by rw [blkOf_own hx]; exact upd_same _ _ _
  refine ⟨H.keep, H.fz, H.fz0, H.fzN, ?_, ?_, ?_, ?_, H.l0, H.le0.trans le, ⟨by have := H.n0.1; unfold nextNo; split <;> omega, H.n0.2⟩, fun i => ⟨le.rv (H.gl i).1, (H.gl i).2⟩⟩
  · intro b y hb
    by_cases e : b = nb
    · subst e
      rw [upd_same] at hb; injection hb with hb; subst hb
      exact hat
    · rw [upd_ne _ _ _ e] at hb
      exact (H.blk b y hb).move le.m le.rv (fun _ => rfl) (fun hr => by subst hr; show upd g.m nb _ b = none; rw [upd_ne _ _ _ e]; exact (H.rsv b hb).1) (fun cb _ => ⟨rfl, fun _ h => h⟩)
  · intro b b' y y' cb hb hb' hc hc'
    have key : ∀ b y, upd h nb (some x) b = some y → blkOf (g.new nb blk) b y = some cb → (b = nb ∧ cb = blk) ∨ (b ≠ nb ∧ h b = some y ∧ blkOf g b y = some cb ∧ cb ≠ blk) := by
      intro b y hb hc
      by_cases e : b = nb
      · subst e
        rw [upd_same] at hb; injection hb with hb; subst hb
        rw [hself] at hc; injection hc with hc
        exact .inl ⟨rfl, hc.symm⟩
      · rw [upd_ne _ _ _ e] at hb
        rw [blkOf_new e] at hc
        exact .inr ⟨e, hb, hc, hbn b y cb hb hc⟩
    rcases key b y hb hc with ⟨e1, e2⟩ | ⟨e1, h1, h2, h3⟩ <;> rcases key b' y' hb' hc' with ⟨e1', e2'⟩ | ⟨e1', h1', h2', h3'⟩
    · rw [e1, e1']
    · exact absurd e2 h3'
    · exact absurd e2' h3
    · exact H.inj b b' y y' cb h1 h1' h2 h2'
  · intro b hb
    have hge : nx ≤ b ∧ b ≠ nb := by
      have := H.free_le hf
      unfold nextNo at hb
      split at hb <;> rename_i e <;> constructor <;> omega
    obtain ⟨h1, h2, h3⟩ := H.new b hge.1
    exact ⟨by rw [upd_ne _ _ _ hge.2]; exact h1, by show upd g.m nb _ b = none; rw [upd_ne _ _ _ hge.2]; exact h2, h3⟩
  · intro b cb hb
    by_cases e : b = nb
    · subst e
      have : upd g.m b (some blk) b = some cb := hb
      rw [upd_same] at this; injection this with this; omega
    · have : upd g.m nb (some blk) b = some cb := hb
      rw [upd_ne _ _ _ e] at this
      exact H.mlt b cb this

/-- A block nobody knows is laid. -/
theorem Mem.laid (H : Mem E g h nx w) (o : Obj) : Mem E g h nx (w.alloc o) := by
  have hsz : (w.alloc o).heap.size = w.heap.size + 1 := World.size_alloc _ _
  have hold : ∀ k, k < w.heap.size → (w.alloc o).heap[k]? = w.heap[k]? := fun k hk => by rw [alloc_get, if_neg (by omega)]
  refine ⟨⟨H.keep.os, H.keep.tape, H.keep.output, by rw [hsz]; have := H.keep.size; omega, fun k hk => ?_⟩, ?_, H.fz0, H.fzN, ?_, H.inj, H.new, ?_, H.l0, H.le0, H.n0, H.gl⟩
  · rw [hold k (by have := H.keep.size; omega)]; exact H.keep.block k hk
  · intro b o v hb
    rw [cell_of_heap (hold b (H.fz_lt hb))]; exact H.fz b o v hb
  · intro b y hb
    exact (H.blk b y hb).move (fun _ _ h => h) id (fun _ => rfl) (fun hr => by subst hr; exact (H.rsv b hb).1) (fun cb hc => ⟨hold cb (H.blk_lt hb hc), fun _ h => h⟩)
  · intro b cb hb; rw [hsz]; have := H.mlt b cb hb; omega

theorem Mem.fz_new (H : Mem E g h nx w) (o : Nat) : g.fz w.heap.size o = none := by
  cases hf : g.fz w.heap.size o with
  | none => rfl
  | some v => have := H.fz_lt hf; omega

theorem Mem.alloc (H : Mem E g h nx w) {nb : Nat} (hf : FreeNo h nx nb) (cs : List V) (arr : Array Value) (T : TypeId) (hl : cs.length ≤ arr.size)
    (hv : ∀ (i : Nat) x y, cs[i]? = some x → arr[i]? = some y → RV g x y) :
    Mem E (g.new nb w.heap.size) (upd h nb (some (.cells cs))) (nextNo nx nb) (w.alloc (.cells arr T)) := by
  have hn := (H.free hf).1
  refine (H.laid (.cells arr T)).adoptB hf rfl ⟨⟨w.heap.size, arr, T, upd_same _ _ _, H.keep.size, by rw [alloc_get, if_pos rfl], hl, fun i x y h1 h2 => Gh.new_mono hn (hv i x y h1 h2), H.fz_new⟩⟩
    (by rw [World.size_alloc]; omega) (fun b x cb hb hc => by have := H.blk_lt hb hc; omega)

/-- A new object that is no row of cells. -/
theorem Mem.allocObj (H : Mem E g h nx w) {nb : Nat} (hf : FreeNo h nx nb) {x : Blk} {o : Obj} (ho : ObjIs g x o) :
    Mem E (g.new nb w.heap.size) (upd h nb (some x)) (nextNo nx nb) (w.alloc o) := by
  have hn := (H.free hf).1
  have le := Gh.new_le (cb := w.heap.size) hn
  have hx : x.own = true := by cases x <;> first | rfl | exact ho.elim
  have hat : ∃ cb o', (g.new nb w.heap.size).m nb = some cb ∧ E.w0.heap.size ≤ cb ∧ (w.alloc o).heap[cb]? = some o' ∧ ObjIs (g.new nb w.heap.size) x o' :=
    ⟨w.heap.size, o, upd_same _ _ _, H.keep.size, by rw [alloc_get, if_pos rfl], ho.lift le.m le.rv⟩
  refine (H.laid o).adoptB hf hx ?_ (by rw [World.size_alloc]; omega) (fun b x cb hb hc => by have := H.blk_lt hb hc; omega)
  cases x <;> first | exact hat | exact ho.elim

/-- A row of cells that stands, and that stands for nothing yet, comes to stand for a number. -/
theorem Mem.adopt (H : Mem E g h nx w) {nb blk : Nat} (hf : FreeNo h nx nb) {cs : List V} {arr : Array Value} {T : TypeId} (hheap : w.heap[blk]? = some (.cells arr T (0, 0)))
    (hmn : ∀ b cb, g.m b = some cb → cb ≠ blk) (hbn : ∀ b x cb, h b = some x → blkOf g b x = some cb → cb ≠ blk) (hz : ∀ o, g.fz blk o = none) (hlo : E.w0.heap.size ≤ blk)
    (hl : cs.length ≤ arr.size) (hv : ∀ (i : Nat) x y, cs[i]? = some x → arr[i]? = some y → RV g x y) :
    Mem E (g.new nb blk) (upd h nb (some (.cells cs))) (nextNo nx nb) w :=
  H.adoptB hf rfl ⟨⟨blk, arr, T, upd_same _ _ _, hlo, hheap, hl, fun i x y h1 h2 => Gh.new_mono (H.free hf).1 (hv i x y h1 h2), hz⟩⟩ (Array.getElem?_eq_some_iff.1 hheap).1 hbn

/-- One block is other than it was. -/
structure ObjSet (w w' : World) (cb : Nat) (o : Obj) : Prop where
  os : w'.os = w.os
  tape : w'.tape = w.tape
  output : w'.output = w.output
  size : w'.heap.size = w.heap.size
  at_ : w'.heap[cb]? = some o
  other : ∀ k, k ≠ cb → w'.heap[k]? = w.heap[k]?
abbrev HeapSet (w w' : World) (cb : Nat) (arr : Array Value) (T : TypeId) : Prop := ObjSet w w' cb (.cells arr T (0, 0))
theorem putObj_set {w : World} {cb : Nat} {o o' : Obj} (h : w.heap[cb]? = some o) : ObjSet w (w.putObj cb o') cb o' :=
  ⟨rfl, rfl, rfl, World.putObj_size, World.putObj_heap_same (Array.getElem?_eq_some_iff.1 h).1, fun k hk => World.putObj_heap_other hk⟩

/-- A block's content turns. -/
theorem Mem.setB (H : Mem E g h nx w) {b cb : Nat} {x x' : Blk} (hb : h b = some x) (hx : x.own = true) (hx' : x'.own = true) (hm : g.m b = some cb) {o : Obj} {w' : World} (hw : ObjSet w w' cb o)
    (hz : ∀ k, g.fz cb k = none) (hat : BlkAt E g w' b x') : Mem E g (upd h b (some x')) nx w' := by
  have hlo : E.w0.heap.size ≤ cb := H.blk_own hb (by rw [blkOf_own hx]; exact hm)
  refine ⟨⟨hw.os.trans H.keep.os, hw.tape.trans H.keep.tape, hw.output.trans H.keep.output, by rw [hw.size]; exact H.keep.size, fun k hk => ?_⟩, ?_, H.fz0, H.fzN, ?_, ?_, ?_, ?_, H.l0, H.le0, H.n0, H.gl⟩
  · rw [hw.other k (by omega)]; exact H.keep.block k hk
  · intro b' o v hf
    have e : b' ≠ cb := fun e => by subst e; rw [hz o] at hf; cases hf
    rw [cell_of_heap (hw.other b' e)]; exact H.fz b' o v hf
  · intro b' y hb'
    by_cases e : b' = b
    · subst e
      rw [upd_same] at hb'; injection hb' with hb'; subst hb'
      exact hat
    · rw [upd_ne _ _ _ e] at hb'
      exact (H.blk b' y hb').move (fun _ _ h => h) id (fun _ => rfl) (fun hr => by subst hr; exact (H.rsv b' hb').1)
        (fun cb' hc => ⟨hw.other cb' (fun e' => by subst e'; exact e (H.inj b' b _ _ cb' hb' hb hc (by rw [blkOf_own hx]; exact hm))), fun _ h => h⟩)
  · intro b1 b2 y1 y2 c h1 h2 h3 h4
    have key : ∀ b' y, upd h b (some x') b' = some y → blkOf g b' y = some c → ∃ z, h b' = some z ∧ blkOf g b' z = some c := by
      intro b' y hb' hc
      by_cases e : b' = b
      · subst e
        rw [upd_same] at hb'; injection hb' with hb'; subst hb'
        exact ⟨x, hb, by rw [blkOf_own hx]; rw [blkOf_own hx'] at hc; exact hc⟩
      · rw [upd_ne _ _ _ e] at hb'; exact ⟨y, hb', hc⟩
    obtain ⟨z1, h5, h6⟩ := key b1 y1 h1 h3
    obtain ⟨z2, h7, h8⟩ := key b2 y2 h2 h4
    exact H.inj b1 b2 z1 z2 c h5 h7 h6 h8
  · intro b' hb'
    obtain ⟨h1, h2⟩ := H.new b' hb'
    exact ⟨by rw [upd_ne _ _ _ (fun e => by subst e; rw [h1] at hb; cases hb)]; exact h1, h2⟩
  · intro b' c hc; rw [hw.size]; exact H.mlt b' c hc

theorem Mem.store (H : Mem E g h nx w) {b cb : Nat} {cs cs' : List V} (hb : h b = some (.cells cs)) (hm : g.m b = some cb) (arr : Array Value) (T : TypeId) {w' : World}
    (hl : cs'.length = cs.length) (ha : cs'.length ≤ arr.size) (hv : ∀ (i : Nat) x y, cs'[i]? = some x → arr[i]? = some y → RV g x y) (hw : HeapSet w w' cb arr T) :
    Mem E g (upd h b (some (.cells cs'))) nx w' := by
  obtain ⟨cb₀, a₀, T₀, hm₀, hlo, hh, hs, hr, hz⟩ := (H.cells b cs hb).ex
  rw [hm] at hm₀; injection hm₀ with hm₀; subst hm₀
  exact H.setB hb rfl rfl hm hw hz ⟨⟨cb, arr, T, hm, hlo, hw.at_, ha, hv, hz⟩⟩

/-- An object that is no row of cells turns. -/
theorem Mem.setObj (H : Mem E g h nx w) {b cb : Nat} {x x' : Blk} {o o' : Obj} (hb : h b = some x) (hm : g.m b = some cb) (ho : w.heap[cb]? = some o) (hx : ObjIs g x o) (hx' : ObjIs g x' o') {w' : World}
    (hw : ObjSet w w' cb o') : Mem E g (upd h b (some x')) nx w' := by
  have h1 : x.own = true := by cases x <;> first | rfl | exact hx.elim
  have h2 : x'.own = true := by cases x' <;> first | rfl | exact hx'.elim
  have hlo : E.w0.heap.size ≤ cb := H.blk_own hb (by rw [blkOf_own h1]; exact hm)
  refine H.setB hb h1 h2 hm hw (H.fz_obj ho hx.notCells) ?_
  have hat : ∃ cb o, g.m b = some cb ∧ E.w0.heap.size ≤ cb ∧ w'.heap[cb]? = some o ∧ ObjIs g x' o := ⟨cb, o', hm, hlo, hw.at_, hx'⟩
  cases x' <;> first | exact hat | exact hx'.elim

theorem Mem.obj (H : Mem E g h nx w) {b : Nat} {x : Blk} (hb : h b = some x) (hx : x.own = true) (hc : ∀ cs, x ≠ .cells cs) : ∃ cb o, g.m b = some cb ∧ w.heap[cb]? = some o ∧ ObjIs g x o := by
  have hB := H.blk b x hb
  have fin : (∃ cb o, g.m b = some cb ∧ E.w0.heap.size ≤ cb ∧ w.heap[cb]? = some o ∧ ObjIs g x o) → ∃ cb o, g.m b = some cb ∧ w.heap[cb]? = some o ∧ ObjIs g x o :=
    fun ⟨cb, o, h1, _, h3, h4⟩ => ⟨cb, o, h1, h3, h4⟩
  cases x with
  | cells cs => exact absurd rfl (hc cs)
  | room n => cases hx
  | rsv => cases hx
  | map es => exact fin hB
  | loop st pe tm nt ps as bo df => exact fin hB
  | dfr => exact fin hB

/-- More is frozen, of blocks that nobody knew. -/
structure FzLe (fz fz' : Nat → Nat → Option Value) (n : Nat) : Prop where
  le : ∀ b o v, fz b o = some v → fz' b o = some v
  new : ∀ b o v, fz' b o = some v → fz b o = some v ∨ n ≤ b

theorem Mem.call (H : Mem E g h nx w) {w' : World} {fz' : Nat → Nat → Option Value} (hfz : FzLe g.fz fz' w.heap.size) (hok : ∀ b o v, fz' b o = some v → w'.cell? ⟨b, o, none⟩ = some v)
    (hB : Below w.heap.size w w') : Mem E { g with fz := fz' } h nx w' := by
  have le : Gh.Le g { g with fz := fz' } := Gh.Le.fzOnly hfz.le
  have hnone : ∀ {cb o : Nat}, cb < w.heap.size → g.fz cb o = none → fz' cb o = none := fun {cb o} hlt hn => by
    cases hf : fz' cb o with
    | none => rfl
    | some v =>
      rcases hfz.new cb o v hf with h1 | h1
      · rw [hn] at h1; cases h1
      · omega
  refine ⟨⟨hB.os.trans H.keep.os, hB.tape.trans H.keep.tape, hB.output.trans H.keep.output, Nat.le_trans H.keep.size hB.size, fun k hk => ?_⟩, hok, fun b o v hf => hfz.le _ _ _ (H.fz0 b o v hf), ?_, ?_, H.inj, H.new, ?_, H.l0, H.le0.trans le, H.n0, ?_⟩
  · rw [hB.block k (by have := H.keep.size; omega)]; exact H.keep.block k hk
  · intro b o v hf
    rcases hfz.new b o v hf with h1 | h1
    · exact H.fzN b o v h1
    · exact .inr (Nat.le_trans H.keep.size h1)
  · intro b y hb
    exact (H.blk b y hb).move le.m le.rv (fun _ => rfl) (fun hr => by subst hr; exact (H.rsv b hb).1) (fun cb hc => ⟨hB.block cb (H.blk_lt hb hc), fun o ho => hnone (H.blk_lt hb hc) ho⟩)
  · intro b cb hm; exact Nat.lt_of_lt_of_le (H.mlt b cb hm) hB.size
  · exact fun i => ⟨le.rv (H.gl i).1, (H.gl i).2⟩

theorem Mem.drew (H : Mem E g h nx w) : Mem E g h nx { w with drawn := w.drawn + 1 } :=
  ⟨⟨H.keep.os, H.keep.tape, H.keep.output, H.keep.size, H.keep.block⟩, H.fz, H.fz0, H.fzN,
    fun b y hb => (H.blk b y hb).move (fun _ _ h => h) id (fun _ => rfl) (fun hr => by subst hr; exact (H.rsv b hb).1) (fun cb _ => ⟨rfl, fun _ h => h⟩), H.inj, H.new, H.mlt, H.l0, H.le0, H.n0, H.gl⟩

/-- A block of the call's own whose first cells are frozen from the first. -/
def Gh.frz (g : Gh) (b : Nat) (arr : Array Value) (k : Nat) : Gh := { g with fz := fun b' o => if b' = b ∧ o < k then arr[o]? else g.fz b' o }

theorem Gh.frz_le {b k : Nat} {arr : Array Value} (hb : ∀ o, g.fz b o = none) : Gh.Le g (g.frz b arr k) :=
  Gh.Le.fzOnly (fun b' o v hf => by
    show (if b' = b ∧ o < k then arr[o]? else g.fz b' o) = some v
    rw [if_neg (fun e => by rw [e.1, hb] at hf; cases hf)]; exact hf)
theorem Gh.frz_mono {b k : Nat} {arr : Array Value} (hb : ∀ o, g.fz b o = none) {x : V} {v : Value} (h : RV g x v) : RV (g.frz b arr k) x v := (Gh.frz_le hb).rv h

theorem Mem.fresh (H : Mem E g h nx w) (arr : Array Value) (T : TypeId) (k : Nat) : Mem E (g.frz w.heap.size arr k) h nx (w.alloc (.cells arr T)) := by
  have le : Gh.Le g (g.frz w.heap.size arr k) := Gh.frz_le H.fz_new
  have H1 := H.laid (.cells arr T)
  have hfo : ∀ {b o : Nat}, b < w.heap.size → (g.frz w.heap.size arr k).fz b o = g.fz b o := fun {b o} hb => by
    show (if b = w.heap.size ∧ o < k then arr[o]? else g.fz b o) = _
    rw [if_neg (fun e => by omega)]
  refine ⟨H1.keep, ?_, fun b o v hb => le.fz _ _ _ (H.fz0 b o v hb), ?_, ?_, H.inj, H.new, H1.mlt, H.l0, H.le0.trans le, H.n0, fun i => ⟨le.rv (H.gl i).1, (H.gl i).2⟩⟩
  · intro b o v hb
    have hb2 : (if b = w.heap.size ∧ o < k then arr[o]? else g.fz b o) = some v := hb
    clear hb
    by_cases e : b = w.heap.size ∧ o < k
    · rw [if_pos e] at hb2
      rw [e.1, World.cell?_alloc_new]; exact hb2
    · rw [if_neg e] at hb2; exact H1.fz b o v hb2
  · intro b o v hb
    have hb : (if b = w.heap.size ∧ o < k then arr[o]? else g.fz b o) = some v := hb
    by_cases e : b = w.heap.size ∧ o < k
    · exact .inr (by rw [e.1]; exact H.keep.size)
    · rw [if_neg e] at hb; exact H.fzN b o v hb
  · intro b y hb
    exact (H1.blk b y hb).move le.m le.rv (fun _ => rfl) (fun hr => by subst hr; exact (H.rsv b hb).1) (fun cb hc => ⟨rfl, fun o ho => by rw [hfo (H.blk_lt hb hc)]; exact ho⟩)

/-- Fewer abstract blocks. -/
theorem Mem.sub (H : Mem E g h nx w) {h' : Nat → Option Blk} (key : ∀ {b x}, h' b = some x → h b = some x) : Mem E g h' nx w := by
  refine ⟨H.keep, H.fz, H.fz0, H.fzN, fun b' y hb => H.blk b' y (key hb), fun b1 b2 x y c h1 h2 => H.inj b1 b2 x y c (key h1) (key h2), fun b' hb => ?_, H.mlt, H.l0, H.le0, H.n0, H.gl⟩
  obtain ⟨h1, h2⟩ := H.new b' hb
  refine ⟨?_, h2⟩
  cases hx : h' b' with
  | none => rfl
  | some x => rw [key hx] at h1; cases h1

/-- An abstract block is given up. -/
theorem Mem.drop (H : Mem E g h nx w) (b : Nat) : Mem E g (upd h b none) nx w :=
  H.sub fun {b' x} hb => by
    by_cases e : b' = b
    · subst e; rw [upd_same] at hb; cases hb
    · rw [upd_ne _ _ _ e] at hb; exact hb

/-- Numbers put by. -/
theorem Mem.reserve (H : Mem E g h nx w) (k : Nat) : Mem E g (fun b => if nx ≤ b ∧ b < nx + k then some .rsv else h b) (nx + k) w := by
  have key : ∀ {b x}, (if nx ≤ b ∧ b < nx + k then some Blk.rsv else h b) = some x → (x = .rsv ∧ nx ≤ b) ∨ h b = some x := fun {b x} hb => by
    split at hb
    · rename_i hc; injection hb with hb; exact .inl ⟨hb.symm, hc.1⟩
    · exact .inr hb
  refine ⟨H.keep, H.fz, H.fz0, H.fzN, fun b y hb => ?_, fun b1 b2 x y c h1 h2 h3 h4 => ?_, fun b hb => ?_, H.mlt, H.l0, H.le0, ⟨by have := H.n0.1; omega, H.n0.2⟩, H.gl⟩
  · rcases key hb with ⟨rfl, h⟩ | h
    · exact (H.new b h).2
    · exact H.blk b y h
  · rcases key h1 with ⟨rfl, _⟩ | h1
    · cases h3
    · rcases key h2 with ⟨rfl, _⟩ | h2
      · cases h4
      · exact H.inj b1 b2 x y c h1 h2 h3 h4
  · obtain ⟨h1, h2⟩ := H.new b (by omega)
    exact ⟨by rw [if_neg (by omega)]; exact h1, h2⟩

/-- A block of the call's own that stands for no abstract one is written where nothing is frozen, and more of it is frozen. -/
theorem Mem.extend (H : Mem E g h nx w) {cb : Nat} {arr arr' : Array Value} {T : TypeId} {w' : World} {fz' : Nat → Nat → Option Value} (hc : w.heap[cb]? = some (.cells arr T (0, 0))) (hlo : E.w0.heap.size ≤ cb)
    (hw : HeapSet w w' cb arr' T) (hfree : ∀ b x, h b = some x → blkOf g b x ≠ some cb) (hle : ∀ b o v, g.fz b o = some v → fz' b o = some v)
    (hoth : ∀ b o, b ≠ cb → fz' b o = g.fz b o) (hat : ∀ o v, fz' cb o = some v → arr'[o]? = some v) : Mem E { g with fz := fz' } h nx w' := by
  have le : Gh.Le g { g with fz := fz' } := Gh.Le.fzOnly hle
  refine ⟨⟨hw.os.trans H.keep.os, hw.tape.trans H.keep.tape, hw.output.trans H.keep.output, by rw [hw.size]; exact H.keep.size, fun k hk => ?_⟩, ?_, fun b o v hf => hle _ _ _ (H.fz0 b o v hf), ?_, ?_, H.inj, H.new, ?_, H.l0, H.le0.trans le, H.n0, ?_⟩
  · rw [hw.other k (by omega)]; exact H.keep.block k hk
  · intro b o v hf
    by_cases e : b = cb
    · subst e
      simp only [World.cell?, hw.at_]
      simpa using hat o v hf
    · have hf' : g.fz b o = some v := by rw [← hoth b o e]; exact hf
      rw [cell_of_heap (hw.other b e)]; exact H.fz b o v hf'
  · intro b o v hf
    by_cases e : b = cb
    · subst e; exact .inr hlo
    · have hf' : g.fz b o = some v := by rw [← hoth b o e]; exact hf
      exact H.fzN b o v hf'
  · intro b y hb
    exact (H.blk b y hb).move le.m le.rv (fun _ => rfl) (fun hr => by subst hr; exact (H.rsv b hb).1) (fun cb' hc' => by
      have ne : cb' ≠ cb := fun e => by subst e; exact hfree b _ hb hc'
      exact ⟨hw.other cb' ne, fun o ho => by show fz' cb' o = none; rw [hoth cb' o ne]; exact ho⟩)
  · intro b c hb; rw [hw.size]; exact H.mlt b c hb
  · exact fun i => ⟨le.rv (H.gl i).1, (H.gl i).2⟩

/-- A token that stands for nothing comes to stand for a room. -/
def Gh.setLoc (g : Gh) (b m : Nat) (q : Nat × Nat × Nat × Nat) : Gh := { g with loc := fun b' k => if b' = b ∧ k = m then some q else g.loc b' k }

theorem Gh.setLoc_le {b m : Nat} {q : Nat × Nat × Nat × Nat} (hm : 0 < m) (hb : g.loc b m = none) : Gh.Le g (g.setLoc b m q) :=
  ⟨fun _ _ h => h, fun b' n y hl => by
    show (if b' = b ∧ n = m then some q else g.loc b' n) = some y
    rw [if_neg (fun e => by rw [e.1, e.2, hb] at hl; cases hl)]; exact hl,
    fun b' hl => by
      show (if b' = b ∧ 0 = m then some q else g.loc b' 0) = none
      rw [if_neg (fun e => by omega)]; exact hl, fun _ _ _ h => h⟩
theorem Gh.setLoc_mono {b m : Nat} {q : Nat × Nat × Nat × Nat} (hm : 0 < m) (hb : g.loc b m = none) {x : V} {v : Value} (h : RV g x v) : RV (g.setLoc b m q) x v := (Gh.setLoc_le hm hb).rv h

theorem Mem.setRoom (H : Mem E g h nx w) {b m : Nat} {cb off cap sz : Nat} (hb : h b = none) (hbn : b ≤ nx) (hm : 0 < m) (hloc : ∀ k, m ≤ k → g.loc b k = none) (hcap : m ≤ cap)
    (hroom : m < cap → off = 0 ∧ E.w0.heap.size ≤ cb ∧ (∀ o, m * sz ≤ o → g.fz cb o = none) ∧ ∃ arr T, w.heap[cb]? = some (.cells arr T (0, 0)) ∧ cap * sz ≤ arr.size)
    (hfree : m < cap → ∀ b x, h b = some x → blkOf g b x ≠ some cb) : Mem E (g.setLoc b m (cb, off, cap, sz)) (upd h b (some (.room m))) (nextNo nx b) w := by
  have le : Gh.Le g (g.setLoc b m (cb, off, cap, sz)) := Gh.setLoc_le hm (hloc m (Nat.le_refl _))
  have hl' : ∀ {b' k}, b' ≠ b → (g.setLoc b m (cb, off, cap, sz)).loc b' k = g.loc b' k := fun {b' k} e => by
    show (if b' = b ∧ k = m then _ else g.loc b' k) = _; rw [if_neg (fun e' => e e'.1)]
  have hls : (g.setLoc b m (cb, off, cap, sz)).loc b m = some (cb, off, cap, sz) := if_pos ⟨rfl, rfl⟩
  have hblk : ∀ {b' x}, b' ≠ b → blkOf (g.setLoc b m (cb, off, cap, sz)) b' x = blkOf g b' x := fun {b' x} e => by
    cases x with
    | room n => simp only [blkOf, hl' e]
    | _ => rfl
  have hblks : blkOf (g.setLoc b m (cb, off, cap, sz)) b (.room m) = if m < cap then some cb else none := by simp only [blkOf, hls]
  refine ⟨H.keep, H.fz, H.fz0, H.fzN, ?_, ?_, ?_, H.mlt, ?_, H.le0.trans le, ⟨by have := H.n0.1; unfold nextNo; split <;> omega, H.n0.2⟩, fun i => ⟨le.rv (H.gl i).1, (H.gl i).2⟩⟩
  · intro b' y hb'
    by_cases e : b' = b
    · subst e
      rw [upd_same] at hb'
      injection hb' with hb'; subst hb'
      refine ⟨fun k hk => ?_, ?_⟩
      · show (if b' = b' ∧ k = m then _ else g.loc b' k) = none
        rw [if_neg (fun e => by omega)]; exact hloc k (by omega)
      · rw [hls]
        exact ⟨⟨hm, hcap⟩, fun hlt => by obtain ⟨h0, h1, h2, arr, T, h3, h4⟩ := hroom hlt; exact ⟨h0, h1, h2, arr, T, h3, h4⟩⟩
    · rw [upd_ne _ _ _ e] at hb'
      exact (H.blk b' y hb').move le.m le.rv (fun _ => hl' e) (fun hr => by subst hr; exact (H.rsv b' hb').1) (fun cb' hc => ⟨rfl, fun _ ho => ho⟩)
  · intro b1 b2 x x' c h1 h2 h3 h4
    by_cases e1 : b1 = b <;> by_cases e2 : b2 = b
    · rw [e1, e2]
    · subst e1
      rw [upd_same] at h1; injection h1 with h1; subst h1
      rw [upd_ne _ _ _ e2] at h2; rw [hblk e2] at h4
      rw [hblks] at h3; split at h3
      · rename_i hlt; injection h3 with h3; subst h3; exact absurd h4 (hfree hlt b2 x' h2)
      · cases h3
    · subst e2
      rw [upd_same] at h2; injection h2 with h2; subst h2
      rw [upd_ne _ _ _ e1] at h1; rw [hblk e1] at h3
      rw [hblks] at h4; split at h4
      · rename_i hlt; injection h4 with h4; subst h4; exact absurd h3 (hfree hlt b1 x h1)
      · cases h4
    · rw [upd_ne _ _ _ e1] at h1; rw [upd_ne _ _ _ e2] at h2
      rw [hblk e1] at h3; rw [hblk e2] at h4
      exact H.inj b1 b2 x x' c h1 h2 h3 h4
  · intro b' hb'
    have hge : nx ≤ b' ∧ b' ≠ b := by
      unfold nextNo at hb'
      split at hb'
      · rename_i e; exact ⟨by omega, by omega⟩
      · rename_i e; exact ⟨hb', by omega⟩
    obtain ⟨h1, h2, h3⟩ := H.new b' hge.1
    exact ⟨by rw [upd_ne _ _ _ hge.2]; exact h1, h2, fun n => by rw [hl' hge.2]; exact h3 n⟩
  · intro b'
    show (if b' = b ∧ 0 = m then some _ else g.loc b' 0) = none
    rw [if_neg (fun e => by omega)]; exact H.l0 b'

/-- A token for nothing yet. -/
theorem Mem.room0 (H : Mem E g h nx w) {nb : Nat} (hf : FreeNo h nx nb) : Mem E g (upd h nb (some (.room 0))) (nextNo nx nb) w := by
  obtain ⟨hn2, hn3⟩ := H.free hf
  have hk : ∀ {b x}, b ≠ nb → upd h nb (some (.room 0)) b = some x → h b = some x := fun {b x} e hb => by rwa [upd_ne _ _ _ e] at hb
  have hblk : blkOf g nb (.room 0) = none := by simp only [blkOf, hn3 0]
  refine ⟨H.keep, H.fz, H.fz0, H.fzN, ?_, ?_, ?_, H.mlt, H.l0, H.le0, ⟨by have := H.n0.1; unfold nextNo; split <;> omega, H.n0.2⟩, H.gl⟩
  · intro b y hb
    by_cases e : b = nb
    · subst e
      rw [upd_same] at hb
      injection hb with hb; subst hb
      exact ⟨fun k _ => hn3 k, by rw [hn3 0]⟩
    · exact H.blk b y (hk e hb)
  · intro b1 b2 x x' c h1 h2 h3 h4
    have key : ∀ b x, upd h nb (some (.room 0)) b = some x → blkOf g b x = some c → h b = some x := by
      intro b x hb hc
      by_cases e : b = nb
      · subst e; rw [upd_same] at hb; injection hb with hb; subst hb; rw [hblk] at hc; cases hc
      · exact hk e hb
    exact H.inj b1 b2 x x' c (key b1 x h1 h3) (key b2 x' h2 h4) h3 h4
  · intro b hb
    have hge : nx ≤ b ∧ b ≠ nb := by
      have := H.free_le hf
      unfold nextNo at hb
      split at hb <;> rename_i e <;> constructor <;> omega
    obtain ⟨h1, h2⟩ := H.new b hge.1
    exact ⟨by rw [upd_ne _ _ _ hge.2]; exact h1, h2⟩

/-- The abstract blocks below n alone. -/
def Gh.cut (g : Gh) (n : Nat) : Gh := { g with m := fun b => if b < n then g.m b else none, loc := fun b k => if b < n then g.loc b k else none }
theorem Gh.cut_m {n b : Nat} (h : b < n) : (g.cut n).m b = g.m b := if_pos h
theorem Gh.cut_loc {n b k : Nat} (h : b < n) : (g.cut n).loc b k = g.loc b k := if_pos h

theorem RV.cut {n : Nat} (hz : ∀ b, g.loc b 0 = none) {x : V} {v : Value} (h : RV g x v) (hd : DS (fun b => b < n) x) : RV (g.cut n) x v :=
  RV.on (g := g) (g' := g.cut n) (S := fun b => b < n) (fun b cb hb hm => by rw [Gh.cut_m hb]; exact hm) (fun b k q hb hl => by rw [Gh.cut_loc hb]; exact hl) hz
    (fun b => by show (if b < n then g.loc b 0 else none) = none; split; exact hz b; rfl) (fun _ _ _ h => h) h hd

/-- What is named in what stands. -/
theorem Mem.ds (H : Mem E g h nx w) {x : V} {v : Value} (hx : RV g x v) : DS (fun b => b < nx) x :=
  hx.ds (fun b cb hb => by
    by_cases hlt : b < nx
    · exact hlt
    · have := (H.new b (by omega)).2.1; rw [this] at hb; cases hb) (fun b k q hb => by
    by_cases hlt : b < nx
    · exact hlt
    · have := (H.new b (by omega)).2.2 k; rw [this] at hb; cases hb)
theorem Mem.blkDS (H : Mem E g h nx w) {b : Nat} {x : Blk} (hb : h b = some x) : BlkDS (fun k => k < nx) x := by
  have hB := H.blk b x hb
  cases x with
  | cells cs =>
    obtain ⟨cb, arr, T, h1, h2, h3, h4, h5, h6⟩ := CellsAt.ex hB
    intro x hx
    obtain ⟨i, hi⟩ := List.getElem?_of_mem hx
    have hlt := (List.getElem?_eq_some_iff.1 hi).1
    exact H.ds (h5 i x arr[i] hi (by simp [show i < arr.size by omega]))
  | map es =>
    obtain ⟨cb, o, h1, h2, h3, ar, clock, rfl, hi⟩ := hB
    intro e he
    obtain ⟨i, hi'⟩ := List.getElem?_of_mem he
    have hlt := (List.getElem?_eq_some_iff.1 hi').1
    have hlt' : i < ar.size := by rw [hi.size]; exact hlt
    exact H.ds (hi.at_ i e ar[i] hi' (by simp [hlt'])).2
  | loop st pe tm nt ps as bo df =>
    obtain ⟨cb, o, h1, h2, h3, r, rfl, hi⟩ := hB
    refine ⟨fun i => H.ds (hi.tmps i), ?_⟩
    by_cases hlt : df < nx
    · exact hlt
    · have h5 := (H.new df (by omega)).2.1; have h6 := hi.df; rw [h5] at h6; cases h6
  | _ => trivial

/-- Less is known. -/
theorem Mem.cutTo (H : Mem E g h nx w) {h1 : Nat → Option Blk} {n : Nat} (hn0 : E.c.n0 ≤ n) (hsub : ∀ b x, h1 b = some x → h b = some x ∧ b < n ∧ BlkDS (fun k => k < n) x) : Mem E (g.cut n) h1 n w := by
  have blkOf_cut : ∀ {b x}, b < n → blkOf (g.cut n) b x = blkOf g b x := fun {b x} hb => by
    cases x with
    | room k => simp only [blkOf, Gh.cut_loc hb]
    | rsv => rfl
    | _ => exact Gh.cut_m hb
  have hz := H.l0
  refine ⟨H.keep, H.fz, H.fz0, H.fzN, ?_, ?_, ?_, ?_, ?_, ?_, ⟨hn0, H.n0.2⟩, fun i => ⟨(H.gl i).1.cut hz (H.gl i).2.ds, (H.gl i).2⟩⟩
  · intro b x hb
    obtain ⟨h2, hlt, hds⟩ := hsub b x hb
    have hB := H.blk b x h2
    have hm := Gh.cut_m (g := g) hlt
    cases x with
    | cells cs =>
      obtain ⟨cb, arr, T, a1, a2, a3, a4, a5, a6⟩ := CellsAt.ex hB
      exact ⟨⟨cb, arr, T, by rw [hm]; exact a1, a2, a3, a4, fun i x y e1 e2 => (a5 i x y e1 e2).cut hz (hds x (List.mem_of_getElem? e1)), a6⟩⟩
    | room k =>
      obtain ⟨a1, a2⟩ := hB
      refine ⟨fun j hj => by rw [Gh.cut_loc hlt]; exact a1 j hj, ?_⟩
      rw [Gh.cut_loc hlt]; exact a2
    | rsv => exact ⟨by rw [hm]; exact hB.1, fun k => by rw [Gh.cut_loc hlt]; exact hB.2 k⟩
    | map es =>
      obtain ⟨cb, o, a1, a2, a3, ar, clock, rfl, hi⟩ := hB
      exact ⟨cb, _, by rw [hm]; exact a1, a2, a3, ar, clock, rfl, hi.size, fun i e x e1 e2 => ⟨(hi.at_ i e x e1 e2).1, (hi.at_ i e x e1 e2).2.cut hz (hds e (List.mem_of_getElem? e1))⟩, hi.born, hi.inc⟩
    | loop st pe tm nt ps as bo df =>
      obtain ⟨cb, o, a1, a2, a3, r, rfl, hi⟩ := hB
      exact ⟨cb, _, by rw [hm]; exact a1, a2, a3, r, rfl, hi.state, hi.pending, fun i => (hi.tmps i).cut hz (hds.1 i), hi.size, hi.ps, hi.as, hi.bo, by rw [Gh.cut_m hds.2]; exact hi.df⟩
    | dfr =>
      obtain ⟨cb, o, a1, a2, a3, a4⟩ := hB
      exact ⟨cb, o, by rw [hm]; exact a1, a2, a3, a4⟩
  · intro b b' x x' c h2 h3 h4 h5
    obtain ⟨e1, l1, _⟩ := hsub b x h2
    obtain ⟨e2, l2, _⟩ := hsub b' x' h3
    rw [blkOf_cut l1] at h4; rw [blkOf_cut l2] at h5
    exact H.inj b b' x x' c e1 e2 h4 h5
  · intro b hb
    refine ⟨?_, if_neg (by omega), fun k => if_neg (by omega)⟩
    cases hx : h1 b with
    | none => rfl
    | some x => have := (hsub b x hx).2.1; omega
  · intro b cb hb
    have hb2 : (if b < n then g.m b else none) = some cb := hb
    split at hb2
    · exact H.mlt b cb hb2
    · cases hb2
  · intro b
    show (if b < n then g.loc b 0 else none) = none
    split
    · exact hz b
    · rfl
  · have lt : ∀ b, (∃ cb, E.g0.m b = some cb) ∨ (∃ k q, E.g0.loc b k = some q) → b < n := fun b hb => by
      by_cases hlt : b < n
      · exact hlt
      · have := H.n0.2 b (by omega)
        rcases hb with ⟨cb, hb⟩ | ⟨k, q, hb⟩
        · rw [this.1] at hb; cases hb
        · rw [this.2] at hb; cases hb
    exact ⟨fun b cb hb => by rw [Gh.cut_m (lt b (.inl ⟨_, hb⟩))]; exact H.le0.m _ _ hb, fun b k q hb => by rw [Gh.cut_loc (lt b (.inr ⟨_, _, hb⟩))]; exact H.le0.loc _ _ _ hb,
      fun b _ => by show (if b < n then g.loc b 0 else none) = none; split; exact hz b; rfl, H.le0.fz⟩

/-- The same memory seen from another frame. -/
theorem Mem.env (H : Mem E g h nx w) {E' : Env} (hw : E'.w0 = E.w0) (hf : E'.fz0 = E.fz0) (hg : E'.c.gl = E.c.gl) (hle : Gh.Le E'.g0 g) (hn : E'.c.n0 ≤ nx ∧ ∀ b, E'.c.n0 ≤ b → E'.g0.m b = none ∧ ∀ n, E'.g0.loc b n = none) : Mem E' g h nx w := by
  refine ⟨⟨by rw [hw]; exact H.keep.os, by rw [hw]; exact H.keep.tape, by rw [hw]; exact H.keep.output, by rw [hw]; exact H.keep.size, fun k hk => by rw [hw] at hk ⊢; exact H.keep.block k hk⟩, H.fz,
    fun b o v hv => H.fz0 b o v (by rw [← hf]; exact hv), fun b o v hv => by rw [hf, hw]; exact H.fzN b o v hv, fun b x hb => ?_, H.inj, H.new, H.mlt, H.l0, hle, hn, fun i => by rw [hg]; exact H.gl i⟩
  have hB := H.blk b x hb
  cases x with
  | cells cs => obtain ⟨cb, arr, T, h1, h2, h3⟩ := CellsAt.ex hB; exact ⟨⟨cb, arr, T, h1, by rw [hw]; exact h2, h3⟩⟩
  | room n =>
    refine ⟨hB.1, ?_⟩
    have h2 := hB.2
    cases hl : g.loc b n with
    | none => rw [hl] at h2; exact h2
    | some q =>
      obtain ⟨cb, off, cap, sz⟩ := q
      rw [hl] at h2
      exact ⟨h2.1, fun hlt => by obtain ⟨h3, h4, h5⟩ := h2.2 hlt; exact ⟨h3, by rw [hw]; exact h4, h5⟩⟩
  | rsv => exact hB
  | map es => obtain ⟨cb, o, h1, h2, h3⟩ := hB; exact ⟨cb, o, h1, by rw [hw]; exact h2, h3⟩
  | loop => obtain ⟨cb, o, h1, h2, h3⟩ := hB; exact ⟨cb, o, h1, by rw [hw]; exact h2, h3⟩
  | dfr => obtain ⟨cb, o, h1, h2, h3⟩ := hB; exact ⟨cb, o, h1, by rw [hw]; exact h2, h3⟩

end Go.Proofs.YtkelfbakcpidjaaGreatDoor
