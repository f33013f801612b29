/- The operations that lay a block or write into one; calls of functions that own nothing of ours; a list of operations; a function's body. -/
import Derived.Test.YtkelfbakcpidjaaGreatDoorAmPure3
set_option linter.unusedVariables false
set_option linter.unusedSimpArgs false
namespace Go.Proofs.YtkelfbakcpidjaaGreatDoor
open Go.RowKit

def oneV : V → Bool
  | .lit (.agg _) | .lit (.tuple _) | .undef | .agg _ | .tup _ => false
  | _ => true

/-- The cells of a value that can be stored. -/
def cellsV : V → Option (List V)
  | .agg cs => if cs.all oneV = true then some cs else none
  | x => if oneV x = true then some [x] else none

theorem RV.one {g : Gh} {x : V} {v : Value} (h : RV g x v) (ho : oneV x = true) : v.oneCell' = true := by
  cases h with
  | lit v => cases v <;> simp_all [Value.oneCell', oneV]
  | _ => first | rfl | simp [oneV] at ho

theorem cells_one {v : Value} (h : v.oneCell' = true) : v.cells = #[v] := by
  cases v <;> simp_all [Value.cells, Value.oneCell']

theorem RV.cells {g : Gh} {x : V} {v : Value} (h : RV g x v) {cs : List V} (hc : cellsV x = some cs) :
    v.cells.size = cs.length ∧ (∀ (i : Nat) x y, cs[i]? = some x → v.cells[i]? = some y → RV g x y) ∧ ∀ y ∈ v.cells.toList, y.oneCell' = true := by
  by_cases hx : ∃ l, x = .agg l
  · obtain ⟨l, rfl⟩ := hx
    simp only [cellsV] at hc
    split at hc
    · rename_i hall
      injection hc with hc; subst hc
      cases h with
      | agg _ vs hl hv =>
        refine ⟨hl.symm, hv, fun y hy => ?_⟩
        obtain ⟨i, hi, rfl⟩ := List.getElem_of_mem hy
        have hi' : i < vs.size := by simpa [Value.cells] using hi
        have hi2 : i < l.length := by omega
        have := hv i l[i] vs[i] (by simp [hi2]) (by simp [hi'])
        simp only [Value.cells, Array.getElem_toList]
        exact this.one (by simp at hall; exact hall _ (List.getElem_mem hi2))
    · cases hc
  · have hc' : (if oneV x = true then some [x] else none) = some cs := by
      cases x <;> first | exact hc | exact absurd ⟨_, rfl⟩ hx
    split at hc'
    · rename_i ho
      injection hc' with hc'; subst hc'
      have h1 := h.one ho
      rw [cells_one h1]
      refine ⟨rfl, fun i x' y h2 h3 => ?_, fun y hy => by simp at hy; subst hy; exact h1⟩
      cases i with
      | zero => simp at h2 h3; subst h2; subst h3; exact h
      | succ i => simp at h2
    · cases hc'

def zeroL (P : Program) (t : TypeId) : Option (List V) :=
  match P.info? t with
  | some i => match i.zero with
    | some z => some (z.cells.toList.map .lit)
    | none => none
  | none => none

/-- The fence that lets everything in, in a round's frame where there is one. -/
def Fw (E : Env) : Fence := { Fence.wide with round := E.c.rl.map fun _ => E.l }
theorem room_Fw (E : Env) (n : Nat) : (Fw E).room n := fun _ h => by cases h
theorem calls_Fw {E : Env} {n : Nat} {P : Program} {f : FuncId} {args : Array Value} {w : World} {R : Ending → World → Prop} (h : Calls P f args w R) : CallsIn (Fw E) n P f args w R := by
  have h' : CallsIn Fence.wide n P f args w R := callsIn_wide.2 h
  exact ⟨trivial, fun cs hr => h'.2 cs (room_wide _)⟩

/-- Behind a step of the abstract machine. -/
def cQ (E : Env) (Q : Exit → St → Prop) : Exit → Act → World → Prop := fun e a w => ∃ g s, Rel E g s a w ∧ Q e s

def TrL (P : Program) (E : Env) (ops : Array Oper) (l : List Oper) (s : St) (Q : Exit → St → Prop) : Prop :=
  ∀ g a w, Rel E g s a w → wpListIn (Fw E) 0 P ops (cQ E Q) l a w

def St.put (s : St) (d : Option Tmp) (v : V) : St :=
  match d with
  | some i => { s with t := upd s.t i v }
  | none => s

def dstOk (E : Env) (d : Option Tmp) : Prop := ∀ i, d = some i → i < E.c.nt

variable {P : Program} {E : Env} {ops : Array Oper} {o : Oper} {l : List Oper} {s : St} {Q : Exit → St → Prop}

theorem Rel.mem' {g g' : Gh} {a : Act} {w w' : World} (H : Rel E g s a w) {h' : Nat → Option Blk} {nx' : Nat} (hm : Mem E g' h' nx' w') (le : Gh.Le g g') :
    Rel E g' { s with h := h', nx := nx' } a w' :=
  ⟨fun i => le.rv (H.tmps i), H.size, ⟨H.defers.1, fun i d x h1 h2 => by obtain ⟨k, h3, h4⟩ := H.defers.2 i d x h1 h2; exact ⟨k, le.m _ _ h3, h4⟩⟩, fun L hL => le.m _ _ (H.rl L hL), hm⟩

/-- An operation's run, and what comes of it. -/
theorem of_exec {a : Act} {w : World} {K : Exit → Act → World → Prop} (hw : Region.wanted o (yielded ops a.tmps) = true) (hd : ∀ c, o.op ≠ .defer c) {r : Result Next} (hr : (execOp a.eval o).run P w = r)
    (h : o.uponIn (Fw E) 0 P a (wpListIn (Fw E) 0 P ops K l) K r) : wpListIn (Fw E) 0 P ops K (o :: l) a w := by
  unfold wpListIn
  rw [if_pos hw]
  refine ⟨fun _ _ => trivial, ?_⟩
  rw [Oper.semAt_eq _ _ _ hd, hr]
  exact h

theorem Rel.put {g : Gh} {a : Act} {w : World} (H : Rel E g s a w) {d : Option Tmp} (hd : dstOk E d) {v : V} {cv : Value} (hv : RV g v cv) : Rel E g (s.put d v) (a.put d cv) w := by
  cases d with
  | none => exact H
  | some i =>
    have hi := hd i rfl
    refine ⟨fun j => ?_, by simp only [Act.put, Array.size_setIfInBounds]; exact H.size, H.defers, H.rl, H.mem⟩
    simp only [St.put, Act.put]
    by_cases e : j = i
    · subst e
      rw [upd_same]
      have : (a.tmps.setIfInBounds j cv).getD j undef = cv := by
        have hj : j < a.tmps.size := by rw [H.size]; exact hi
        simp [Array.getD, hj]
      rw [this]; exact hv
    · rw [upd_ne _ _ _ e]
      have : (a.tmps.setIfInBounds i cv).getD j undef = a.tmps.getD j undef := by
        by_cases hj : j < a.tmps.size
        · simp [Array.getD, hj, Array.getElem_setIfInBounds_ne hj (Ne.symm e)]
        · simp [Array.getD, hj]
      rw [this]; exact H.tmps j

/-- What an operation leaves that was not wanted. -/
abbrev skipV : V := .lit (.tuple #[])
/-- Is the operation wanted? -/
def wantV (ops : Array Oper) (s : St) (o : Oper) : Option Bool :=
  match o.guard with
  | none => some true
  | some (j, want) => match ops[j]? with
    | some oj => match oj.dst with
      | some d => match s.t d with
        | .lit (.bool b) => some (b == want)
        | .lit (.tuple _) => some false
        | _ => none
      | none => none
    | none => none

theorem wantV_spec {b : Bool} (h : wantV ops s o = some b) {g : Gh} {a : Act} {w : World} (H : Rel E g s a w) : Region.wanted o (yielded ops a.tmps) = b := by
  unfold wantV at h
  unfold Region.wanted
  cases hg : o.guard with
  | none => simp [hg] at h; simp [h]
  | some q =>
    obtain ⟨j, want⟩ := q
    simp only [hg] at h ⊢
    cases hj : ops[j]? with
    | none => simp [hj] at h
    | some oj =>
      simp only [hj] at h
      cases hd : oj.dst with
      | none => simp [hd] at h
      | some d =>
        simp only [hd] at h
        split at h
        · rename_i c hc
          injection h with h; subst h
          have hr := H.tmps d
          rw [hc] at hr
          generalize he : a.tmps.getD d undef = q at hr
          cases hr
          have hy : yielded ops a.tmps j = some c := by
            unfold yielded
            simp only [hj, hd, Option.bind_some]
            by_cases hlt : d < a.tmps.size
            · simp [Array.getD, hlt] at he
              simp [hlt, he]
            · simp [Array.getD, hlt, undef] at he
          rw [hy]
          cases c <;> cases want <;> rfl
        · rename_i c hc
          injection h with h; subst h
          have hr := H.tmps d
          rw [hc] at hr
          generalize he : a.tmps.getD d undef = q at hr
          cases hr
          have hy : yielded ops a.tmps j = none := by
            unfold yielded
            simp only [hj, hd, Option.bind_some]
            by_cases hlt : d < a.tmps.size
            · simp [Array.getD, hlt] at he
              simp [hlt, he]
            · simp [hlt]
          rw [hy]
          cases want <;> rfl
        · cases h

theorem TrL.nil (h : Q .normal s) : TrL P E ops [] s Q := fun g a w H => ⟨g, s, H, h⟩

theorem TrL.skip (hw : wantV ops s o = some false) (hd : dstOk E o.dst) (h : TrL P E ops l (s.put o.dst skipV) Q) : TrL P E ops (o :: l) s Q := by
  intro g a w H
  unfold wpListIn
  rw [if_neg (by rw [wantV_spec hw H]; simp)]
  exact ⟨fun _ _ => trivial, h g _ w (H.put hd (.lit _))⟩

theorem TrL.val (hw : wantV ops s o = some true) (hd : dstOk E o.dst) (hdf : ∀ c, o.op ≠ .defer c) {v : V} (hv : Evs P E s o v) (h : TrL P E ops l (s.put o.dst v) Q) : TrL P E ops (o :: l) s Q := by
  intro g a w H
  obtain ⟨cv, hr, hrv⟩ := hv g a w H
  exact of_exec (wantV_spec hw H) hdf hr (h g _ w (H.put hd hrv))

theorem run_zeroValue {t : TypeId} {zs : List V} (h : zeroL P t = some zs) : ∃ z, (∀ w, (zeroValue t).run P w = .ok z w) ∧ zs = z.cells.toList.map .lit := by
  unfold zeroL at h
  cases hi : P.info? t with
  | none => simp [hi] at h
  | some i =>
    simp only [hi] at h
    cases hz : i.zero with
    | none => simp [hz] at h
    | some z =>
      simp only [hz, Option.some.injEq] at h
      exact ⟨z, fun w => by simp [zeroValue, typeInfo, hi, hz, Result.andThen], h.symm⟩

theorem TrL.alloc {t : TypeId} {nb : Nat} (hf : FreeNo s.h s.nx nb) (hw : wantV ops s o = some true) (hd : dstOk E o.dst) (ho : o.op = .alloc t) {zs : List V} (hz : zeroL P t = some zs)
    (h : TrL P E ops l { s.put o.dst (.ptr nb 0) with h := upd s.h nb (some (.cells zs)), nx := nextNo s.nx nb } Q) : TrL P E ops (o :: l) s Q := by
  intro g a w H
  obtain ⟨z, hz1, hz2⟩ := run_zeroValue hz
  have hm := H.mem.alloc hf zs z.cells t (by rw [hz2]; simp) (fun i x y h1 h2 => by
    rw [hz2] at h1
    simp only [List.getElem?_map, Option.map_eq_some_iff] at h1
    obtain ⟨q, hq, rfl⟩ := h1
    have : q = y := by simpa [h2] using hq.symm
    subst this; exact .lit q)
  have hr : (execOp a.eval o).run P w = .ok (.value (.pointer (some ⟨w.heap.size, 0, none⟩))) (w.alloc (.cells z.cells t)) := by
    simp only [execOp, ho, Instr.alloc]
    simp [hz1, Result.andThen, newVar, newRow, newObj, Sem.run]
  refine of_exec (wantV_spec hw H) (by rw [ho]; intro c hc; cases hc) hr ?_
  have H2 := H.mem' (s := s) hm (Gh.new_le (H.mem.free hf).1)
  have H3 := H2.put hd (v := .ptr nb 0) (cv := .pointer (some ⟨w.heap.size, 0, none⟩)) (.ptr _ _ _ (upd_same _ _ _))
  have e : ({ s with h := upd s.h nb (some (Blk.cells zs)), nx := nextNo s.nx nb } : St).put o.dst (.ptr nb 0) = { s.put o.dst (.ptr nb 0) with h := upd s.h nb (some (Blk.cells zs)), nx := nextNo s.nx nb } := by
    cases o.dst <;> rfl
  rw [e] at H3
  exact h _ _ _ H3

theorem TrL.box {t : TypeId} {x : Operand} {nb : Nat} (hf : FreeNo s.h s.nx nb) (hw : wantV ops s o = some true) (hd : dstOk E o.dst) (ho : o.op = .box t x) {cs : List V} (hc : cellsV (s.ev E.c x) = some cs)
    (h : TrL P E ops l { s.put o.dst (.ptr nb 0) with h := upd s.h nb (some (.cells cs)), nx := nextNo s.nx nb } Q) : TrL P E ops (o :: l) s Q := by
  intro g a w H
  obtain ⟨h1, h2, _⟩ := (H.ev x).cells hc
  have hm := H.mem.alloc hf cs (a.eval x).cells t (by omega) h2
  have hr : (execOp a.eval o).run P w = .ok (.value (.pointer (some ⟨w.heap.size, 0, none⟩))) (w.alloc (.cells (a.eval x).cells t)) := by
    simp only [execOp, ho, Instr.box]
    simp [Result.andThen, newVar, newRow, newObj, Sem.run]
  refine of_exec (wantV_spec hw H) (by rw [ho]; intro c hc; cases hc) hr ?_
  have H2 := H.mem' (s := s) hm (Gh.new_le (H.mem.free hf).1)
  have H3 := H2.put hd (v := .ptr nb 0) (cv := .pointer (some ⟨w.heap.size, 0, none⟩)) (.ptr _ _ _ (upd_same _ _ _))
  have e : ({ s with h := upd s.h nb (some (Blk.cells cs)), nx := nextNo s.nx nb } : St).put o.dst (.ptr nb 0) = { s.put o.dst (.ptr nb 0) with h := upd s.h nb (some (Blk.cells cs)), nx := nextNo s.nx nb } := by
    cases o.dst <;> rfl
  rw [e] at H3
  exact h _ _ _ H3

/-- What a store leaves. -/
def storeV (P : Program) (s : St) (t : TypeId) (p x : V) : Option (Nat × List V) :=
  match ty P t with
  | none => none
  | some (_, sz) => match p, cellsV x with
    | .ptr b o, some vs => match s.h b with
      | some (.cells cs) => if vs.length = sz ∧ o + sz ≤ cs.length then some (b, cs.take o ++ vs ++ cs.drop (o + sz)) else none
      | _ => none
    | _, _ => none

theorem TrL.store {t : TypeId} {p x : Operand} (hw : wantV ops s o = some true) (hd : o.dst = none) (ho : o.op = .store t p x) {b : Nat} {cs' : List V}
    (hs : storeV P s t (s.ev E.c p) (s.ev E.c x) = some (b, cs')) (h : TrL P E ops l { s with h := upd s.h b (some (.cells cs')) } Q) : TrL P E ops (o :: l) s Q := by
  intro g a w H
  have hp := H.ev p
  have hx := H.ev x
  unfold storeV at hs
  cases hty : ty P t with
  | none => simp [hty] at hs
  | some q =>
    obtain ⟨ag, sz⟩ := q
    simp only [hty] at hs
    generalize s.ev E.c p = vp at hs hp
    split at hs
    · rename_i b' o' vs hcv
      cases hb : s.h b' with
      | none => simp [hb] at hs
      | some blk =>
        cases blk with
        | room n => simp [hb] at hs
        | rsv => simp [hb] at hs
        | map es => simp [hb] at hs
        | loop => simp [hb] at hs
        | dfr => simp [hb] at hs
        | cells cs =>
          simp only [hb] at hs
          split at hs
          · rename_i hle
            obtain ⟨hl1, hl2⟩ := hle
            simp only [Option.some.injEq, Prod.mk.injEq] at hs
            obtain ⟨rfl, rfl⟩ := hs
            generalize hep : a.eval p = cp at hp
            cases hp with
            | ptr _ _ cb hm =>
              obtain ⟨cb', arr, T, hm', hlo, hh, hsz, hr, hz⟩ := (H.mem.cells b' cs hb).ex
              rw [hm] at hm'; injection hm' with hm'; subst hm'
              obtain ⟨c1, c2, c3⟩ := hx.cells hcv
              have hrun := run_storeCells_at (P := P) cb o' T (a.eval x).cells.toList 0 arr w hh (by rw [Array.length_toList, c1]; omega) c3
              rw [Nat.add_zero, Array.length_toList, c1, hl1] at hrun
              generalize hnew : (arr.toList.take o' ++ (a.eval x).cells.toList ++ arr.toList.drop (o' + sz)).toArray = new at hrun
              have hexec : (execOp a.eval o).run P w = .ok .skip (w.setRow cb new) := by
                simp only [execOp, ho, hep, Instr.storeAt, Instr.sureAddr]
                simp only [Sem.run_bind, Sem.run_pure, Result.andThen_ok, storeVar, run_sizeOf hty]
                rw [if_neg (by rw [c1, hl1]; simp)]
                simp only [Sem.run_bind, Sem.run_pure, Result.andThen_ok, hrun]
              refine of_exec (wantV_spec hw H) (by rw [ho]; intro c hc; cases hc) hexec ?_
              have hset : HeapSet w (w.setRow cb new) cb new T := ⟨rfl, rfl, rfl, setRow_size _ _ _, setRow_heap w cb arr new T (0, 0) hh, fun k hk => setRow_other w cb k new hk⟩
              have hsz2 : (cs.take o' ++ vs ++ cs.drop (o' + sz)).length ≤ new.size := by
                rw [← hnew]; simp [c1, hl1]; omega
              have hm2 := H.mem.store hb hm new T (cs' := cs.take o' ++ vs ++ cs.drop (o' + sz)) (by simp [hl1]; omega) hsz2 (fun i u y h1 h2 => by
                rw [← hnew] at h2
                simp only [List.getElem?_toArray] at h2
                by_cases i1 : i < o'
                · rw [List.append_assoc, List.getElem?_append_left (by simp; omega)] at h1 h2
                  rw [List.getElem?_take, if_pos i1] at h1 h2
                  exact hr i u y h1 (by simpa using h2)
                · by_cases i2 : i < o' + sz
                  · rw [List.append_assoc, List.getElem?_append_right (by simp; omega), List.getElem?_append_left (by simp; omega)] at h1
                    rw [List.append_assoc, List.getElem?_append_right (by simp; omega), List.getElem?_append_left (by simp [c1]; omega)] at h2
                    have e1 : (cs.take o').length = o' := by simp; omega
                    have e2 : (arr.toList.take o').length = o' := by simp; omega
                    rw [e1] at h1; rw [e2] at h2
                    exact c2 (i - o') u y h1 (by simpa using h2)
                  · rw [List.getElem?_append_right (by simp [hl1]; omega)] at h1
                    rw [List.getElem?_append_right (by simp [c1, hl1]; omega)] at h2
                    have e1 : (cs.take o' ++ vs).length = o' + sz := by simp [hl1]; omega
                    have e2 : (arr.toList.take o' ++ (a.eval x).cells.toList).length = o' + sz := by simp [c1, hl1]; omega
                    rw [e1, List.getElem?_drop] at h1; rw [e2, List.getElem?_drop] at h2
                    exact hr _ u y h1 (by simpa using h2)) hset
              have H2 := H.mem' (s := s) hm2 (Gh.Le.refl g)
              show wpListIn (Fw E) 0 P ops (cQ E Q) l (a.put o.dst undef) _
              rw [hd]
              exact h _ _ _ H2
          · cases hs
    · cases hs

end Go.Proofs.YtkelfbakcpidjaaGreatDoor
