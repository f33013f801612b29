/- A function's contract; lists of operations run on abstract states: what they come to, by reckoning alone. -/
import Derived.Test.YtkelfbakcpidjaaGreatDoorAmAppend
import Derived.Test.YtkelfbakcpidjaaGreatDoorAmCut
import Derived.RangeFuncNested
set_option linter.unusedVariables false
set_option linter.unusedSimpArgs false
namespace Go.Proofs.YtkelfbakcpidjaaGreatDoor
open Go.RowKit

def FzOk (fz : Nat → Nat → Option Value) (w : World) : Prop := ∀ b o v, fz b o = some v → w.cell? ⟨b, o, none⟩ = some v
def RVs (g : Gh) (xs : List V) (vs : Array Value) : Prop := xs.length = vs.size ∧ ∀ (i : Nat) x y, xs[i]? = some x → vs[i]? = some y → RV g x y
def GlOk (fz : Nat → Nat → Option Value) (gl : Nat → V) : Prop := ∀ i, RV (gd fz) (gl i) (.pointer (some ⟨i, 0, none⟩)) ∧ D (gl i)

/-- What a call leaves that writes into nothing that was there. -/
def FnPost (fz : Nat → Nat → Option Value) (w : World) (r : V) (e : Ending) (w' : World) : Prop :=
  ∃ v fz', e = .returned v ∧ RV (gd fz') r v ∧ FzLe fz fz' w.heap.size ∧ FzOk fz' w' ∧ Below w.heap.size w w'

/-- Called with values that are what xs say, the function returns what r says, and writes into nothing that was there. -/
structure FnP (P : Program) (gl : Nat → V) (f : FuncId) (xs : List V) (r : V) : Prop where
  enter : ∀ args w, (callFunc f args).run P w = .ok (.enter f args) w
  data : D r
  run : ∀ fz w vs, FzOk fz w → GlOk fz gl → RVs (gd fz) xs vs → Calls P f vs w (FnPost fz w r)

/-- It returns something of which R holds; and what that is hangs on nothing else. -/
def FnR (P : Program) (gl : Nat → V) (f : FuncId) (xs : List V) (R : V → Prop) : Prop := ∃ r, R r ∧ FnP P gl f xs r
theorem FnR.mono {P : Program} {gl : Nat → V} {f : FuncId} {xs : List V} {R R' : V → Prop} (h : FnR P gl f xs R) (hr : ∀ r, D r → R r → R' r) : FnR P gl f xs R' := by
  obtain ⟨r, h1, h2⟩ := h; exact ⟨r, hr r h2.data h1, h2⟩
theorem FnR.one {P : Program} {gl : Nat → V} {f : FuncId} {xs : List V} {r : V} (h : FnR P gl f xs (fun x => x = r)) : FnP P gl f xs r := by
  obtain ⟨_, rfl, h⟩ := h; exact h

/-- The function returns a slice over a new row of cells, which nobody else knows. -/
structure FnM (P : Program) (gl : Nat → V) (f : FuncId) (xs : List V) (cs : List V) (n : Nat) : Prop where
  enter : ∀ args w, (callFunc f args).run P w = .ok (.enter f args) w
  data : ∀ x, x ∈ cs → D x
  run : ∀ fz w vs, FzOk fz w → GlOk fz gl → RVs (gd fz) xs vs → Calls P f vs w (fun e w' => ∃ blk arr T cap fz', e = .returned (.slice (some ⟨blk, 0, none⟩) n cap) ∧ w.heap.size ≤ blk ∧
    w'.heap[blk]? = some (.cells arr T (0, 0)) ∧ cs.length ≤ arr.size ∧ n ≤ cap ∧ (∀ (i : Nat) x y, cs[i]? = some x → arr[i]? = some y → RV (gd fz') x y) ∧ FzLe fz fz' w.heap.size ∧ FzOk fz' w' ∧
    (∀ o, fz' blk o = none) ∧ Below w.heap.size w w')

/-- The function works on the abstract memory of its caller. -/
structure FnH (P : Program) (gl : Nat → V) (f : FuncId) (xs : List V) (h : Nat → Option Blk) (nx : Nat) (r : V) (h' : Nat → Option Blk) (nx' : Nat) : Prop where
  enter : ∀ args w, (callFunc f args).run P w = .ok (.enter f args) w
  run : ∀ E g w vs, E.c.gl = gl → Mem E g h nx w → RVs g xs vs → Calls P f vs w (fun e w' => ∃ v g', e = .returned v ∧ Gh.Le g g' ∧ Mem E g' h' nx' w' ∧ RV g' r v)

theorem enter_of {P : Program} {f : FuncId} {fn : Func} (hf : P.funcs[f]? = some fn) (hb : fn.body.isNone = false) (hn : (fn.name == "runtime.NumGoroutine") = false)
    (args : Array Value) (w : World) : (callFunc f args).run P w = .ok (.enter f args) w := by
  simp only [callFunc, Sem.run_bind, run_program, Result.andThen_ok, hf]
  rw [if_neg (by rw [hn]; simp), if_neg (by rw [hb]; simp)]
  rfl

/-- The function that a value is, and what it has captured. -/
def calleeV : V → Option (FuncId × List V)
  | .clo (.func f) [] cap => some (f, cap)
  | _ => none

variable {P : Program} {E : Env}

theorem RV.gdata {g : Gh} {x : V} {v : Value} (h : RV g x v) (hd : D x) : RV (gd g.fz) x v := RV.data (g := g) (g' := gd g.fz) (fun _ _ _ h => h) h hd
theorem RV.undata {fz : Nat → Nat → Option Value} {g : Gh} (hf : ∀ b o v, fz b o = some v → g.fz b o = some v) {x : V} {v : Value} (h : RV (gd fz) x v) (hd : D x) : RV g x v := RV.data (g := gd fz) (g' := g) hf h hd

theorem Mem.glOk {g : Gh} {h : Nat → Option Blk} {nx : Nat} {w : World} (H : Mem E g h nx w) : GlOk g.fz E.c.gl := fun i => ⟨(H.gl i).1.gdata (H.gl i).2, (H.gl i).2⟩

variable {ops : Array Oper} {o : Oper} {l : List Oper} {s : St} {Q : Exit → St → Prop}

/-- The values of a call, in the machine and here. -/
theorem call_vals {c : Call} {cf : Operand} {f : FuncId} {cap : List V} (hf : calleeV (s.ev E.c cf) = some (f, cap)) {g : Gh} {a : Act} {w : World} (H : Rel E g s a w) :
    ∃ vc : Array Value, RVs g (c.args.toList.map (s.ev E.c) ++ cap) (c.args.map a.eval ++ vc) ∧ RVs g (c.args.toList.map (fun x => strip (s.ev E.c x)) ++ cap.map strip) (c.args.map a.eval ++ vc) ∧
      (∀ args, (Deferred.ofValue (a.eval cf) args : Sem Deferred) = pure { target := .fn (.func f) vc, args }) := by
  have hcf := H.ev cf
  unfold calleeV at hf
  generalize a.eval cf = q at hcf
  split at hf
  · rename_i f' cap' hq
    simp only [Option.some.injEq, Prod.mk.injEq] at hf
    obtain ⟨rfl, rfl⟩ := hf
    rw [hq] at hcf
    cases hcf with
    | clo _ _ _ va vb hla hlb ha hb =>
      have : va = #[] := by apply Array.eq_empty_of_size_eq_zero; simpa using hla.symm
      subst this
      have key : RVs g (c.args.toList.map (s.ev E.c) ++ cap') (c.args.map a.eval ++ vb) := by
        refine ⟨by simp [hlb], fun i x y h1 h2 => ?_⟩
        by_cases hi : i < c.args.size
        · rw [List.getElem?_append_left (by simpa using hi)] at h1
          rw [Array.getElem?_append_left (by simpa using hi)] at h2
          simp only [List.getElem?_map, Option.map_eq_some_iff] at h1
          obtain ⟨q, hq, rfl⟩ := h1
          simp only [Array.getElem?_map, Option.map_eq_some_iff] at h2
          obtain ⟨q', hq', rfl⟩ := h2
          have : q = q' := by simpa [hq'] using hq.symm
          subst this
          exact H.ev q
        · rw [List.getElem?_append_right (by simp; omega)] at h1
          rw [Array.getElem?_append_right (by simp; omega)] at h2
          simp only [List.length_map, Array.length_toList] at h1
          exact hb _ x y h1 (by simpa using h2)
      refine ⟨vb, key, ⟨by simpa using key.1, fun i x y h1 h2 => ?_⟩, fun args => by simp [Deferred.ofValue]⟩
      have e : c.args.toList.map (fun x => strip (s.ev E.c x)) ++ cap'.map strip = (c.args.toList.map (s.ev E.c) ++ cap').map strip := by simp [Function.comp_def]
      rw [e, List.getElem?_map, Option.map_eq_some_iff] at h1
      obtain ⟨z, hz, rfl⟩ := h1
      exact (key.2 i z y hz h2).strip
  · cases hf

/-- A call that owns nothing of ours. -/
theorem TrL.call {c : Call} {cf : Operand} {f : FuncId} {cap : List V} {r : V} (hw : wantV ops s o = some true) (hd : dstOk E o.dst)
    (ho : o.op = .call c) (hc : c.callee = .value cf) (hf : calleeV (s.ev E.c cf) = some (f, cap))
    (hD : ∀ x, x ∈ c.args.toList.map (fun x => strip (s.ev E.c x)) ++ cap.map strip → D x) (hF : FnP P E.c.gl f (c.args.toList.map (fun x => strip (s.ev E.c x)) ++ cap.map strip) r)
    (h : TrL P E ops l (s.put o.dst r) Q) : TrL P E ops (o :: l) s Q := by
  intro g a w H
  obtain ⟨vc, _, hvs, hdef⟩ := call_vals (c := c) hf H
  have hr : (execOp a.eval o).run P w = .ok (.enter f (c.args.map a.eval ++ vc)) w := by
    simp only [execOp, ho, resolve, hc]
    simp only [Sem.run_bind, hdef, Sem.run_pure, Result.andThen_ok, invoke]
    exact hF.enter _ _
  refine of_exec (wantV_spec hw H) (by rw [ho]; intro c hc; cases hc) hr ⟨fun h => (by cases h), calls_Fw ?_⟩
  have hargs : RVs (gd g.fz) (c.args.toList.map (fun x => strip (s.ev E.c x)) ++ cap.map strip) (c.args.map a.eval ++ vc) :=
    ⟨hvs.1, fun i x y h1 h2 => (hvs.2 i x y h1 h2).gdata (hD x (List.mem_of_getElem? h1))⟩
  refine (hF.run g.fz w _ H.mem.fz H.mem.glOk hargs).mono ?_
  rintro e w' ⟨v, fz', rfl, hrv, hle, hok, hB⟩
  have hm := H.mem.call hle hok hB
  have H2 := H.mem' (s := s) hm (Gh.Le.fzOnly hle.le)
  exact h _ _ _ (H2.put hd (hrv.undata (fun _ _ _ h => h) hF.data))

/-- A call that brings a new row of cells. -/
theorem TrL.callM {c : Call} {cf : Operand} {f : FuncId} {cap cs : List V} {n sz nb : Nat} (hfr : FreeNo s.h s.nx nb) (hw : wantV ops s o = some true) (hd : dstOk E o.dst)
    (ho : o.op = .call c) (hc : c.callee = .value cf) (hf : calleeV (s.ev E.c cf) = some (f, cap))
    (hD : ∀ x, x ∈ c.args.toList.map (fun x => strip (s.ev E.c x)) ++ cap.map strip → D x) (hF : FnM P E.c.gl f (c.args.toList.map (fun x => strip (s.ev E.c x)) ++ cap.map strip) cs n)
    (h : TrL P E ops l { s.put o.dst (.hs nb 0 n n sz) with h := upd s.h nb (some (.cells cs)), nx := nextNo s.nx nb } Q) : TrL P E ops (o :: l) s Q := by
  intro g a w H
  obtain ⟨vc, _, hvs, hdef⟩ := call_vals (c := c) hf H
  have hr : (execOp a.eval o).run P w = .ok (.enter f (c.args.map a.eval ++ vc)) w := by
    simp only [execOp, ho, resolve, hc]
    simp only [Sem.run_bind, hdef, Sem.run_pure, Result.andThen_ok, invoke]
    exact hF.enter _ _
  refine of_exec (wantV_spec hw H) (by rw [ho]; intro c hc; cases hc) hr ⟨fun h => (by cases h), calls_Fw ?_⟩
  have hargs : RVs (gd g.fz) (c.args.toList.map (fun x => strip (s.ev E.c x)) ++ cap.map strip) (c.args.map a.eval ++ vc) :=
    ⟨hvs.1, fun i x y h1 h2 => (hvs.2 i x y h1 h2).gdata (hD x (List.mem_of_getElem? h1))⟩
  refine (hF.run g.fz w _ H.mem.fz H.mem.glOk hargs).mono ?_
  rintro e w' ⟨blk, arr, T, cap', fz', rfl, hblk, hheap, hsz, hcap, hv, hle, hok, hz, hB⟩
  have hm := (H.mem.call hle hok hB).adopt (cs := cs) hfr hheap (fun b cb hb => by have := H.mem.mlt b cb hb; omega) (fun b x cb hb hc => by
      have := H.mem.blk_lt (x := x) hb (by cases x <;> exact hc); omega) hz (Nat.le_trans H.mem.keep.size hblk) hsz (fun i x y h1 h2 => (hv i x y h1 h2).undata (fun _ _ _ h => h) (hF.data x (List.mem_of_getElem? h1)))
  have H2 := H.mem' (s := s) hm ((Gh.Le.fzOnly hle.le).trans (Gh.new_le (g := { g with fz := fz' }) (H.mem.free hfr).1))
  have H3 := H2.put hd (v := .hs nb 0 n n sz) (cv := .slice (some ⟨blk, 0, none⟩) n cap') (.hs _ _ _ _ _ _ _ (upd_same _ _ _) hcap)
  have e : ({ s with h := upd s.h nb (some (Blk.cells cs)), nx := nextNo s.nx nb } : St).put o.dst (.hs nb 0 n n sz) = { s.put o.dst (.hs nb 0 n n sz) with h := upd s.h nb (some (Blk.cells cs)), nx := nextNo s.nx nb } := by
    cases o.dst <;> rfl
  rw [e] at H3
  exact h _ _ _ H3

/-- A call that works on the abstract memory. -/
theorem TrL.callH {c : Call} {cf : Operand} {f : FuncId} {cap : List V} {r : V} {h' : Nat → Option Blk} {nx' : Nat} (hw : wantV ops s o = some true) (hd : dstOk E o.dst)
    (ho : o.op = .call c) (hc : c.callee = .value cf) (hf : calleeV (s.ev E.c cf) = some (f, cap)) (hF : FnH P E.c.gl f (c.args.toList.map (s.ev E.c) ++ cap) s.h s.nx r h' nx')
    (h : TrL P E ops l { s.put o.dst r with h := h', nx := nx' } Q) : TrL P E ops (o :: l) s Q := by
  intro g a w H
  obtain ⟨vc, hvs, _, hdef⟩ := call_vals (c := c) hf H
  have hr : (execOp a.eval o).run P w = .ok (.enter f (c.args.map a.eval ++ vc)) w := by
    simp only [execOp, ho, resolve, hc]
    simp only [Sem.run_bind, hdef, Sem.run_pure, Result.andThen_ok, invoke]
    exact hF.enter _ _
  refine of_exec (wantV_spec hw H) (by rw [ho]; intro c hc; cases hc) hr ⟨fun h => (by cases h), calls_Fw ?_⟩
  refine (hF.run E g w _ rfl H.mem hvs).mono ?_
  rintro e w' ⟨v, g', rfl, hle, hm, hrv⟩
  have H3 := (H.mem' (s := s) hm hle).put hd hrv
  have e : ({ s with h := h', nx := nx' } : St).put o.dst r = { s.put o.dst r with h := h', nx := nx' } := by cases o.dst <;> rfl
  rw [e] at H3
  exact h _ _ _ H3

/-- Just this exit, at just this state. -/
def exactQ (e : Exit) (s : St) : Exit → St → Prop := fun e' s' => e' = e ∧ s' = s

/-- Code on an abstract state. -/
def TrC (P : Program) (C : Ctx) (c : Code) (s : St) (Q : Exit → St → Prop) : Prop := ∀ E g a w, E.c = C → Rel E g s a w → c.wpIn (Fw E) 0 P (cQ E Q) a w

/-- What a round leaves behind: the jump that is pending. -/
def jumpOf : Exit → Option (Option Code)
  | .normal => some none
  | .ret => some (some .ret)
  | .exit id => some (some (.exit id))
  | _ => none

def putAll (tm : Nat → V) : List Tmp → List V → Nat → V
  | p :: ps, x :: xs => putAll (upd tm p x) ps xs
  | _, _ => tm

/-- A round of a range over a function, at a call of yield. -/
structure RoundW (P : Program) (C : Ctx) (L : Nat) (xs : List V) (s : St) (b : Bool) (h' : Nat → Option Blk) (nx' : Nat) : Prop where
  ex : ∃ pe tm nt ps as bo df s1 e s2 j, s.h L = some (.loop .ready pe tm nt ps as bo df) ∧ ps.size = xs.length ∧ (∀ p, p ∈ ps.toList → p < nt) ∧
    TrC P ⟨C.gl, some L, nt, s.nx, s.h⟩ as ⟨putAll tm ps.toList xs, s.h, s.nx, []⟩ (exactQ .normal s1) ∧ s1.h L = some (.loop .ready pe tm nt ps as bo df) ∧
    TrC P ⟨C.gl, some L, nt, s.nx, s.h⟩ bo { s1 with h := upd s1.h L (some (.loop .busy pe tm nt ps as bo df)) } (exactQ e s2) ∧ s2.h L = some (.loop .busy pe tm nt ps as bo df) ∧
    jumpOf e = some j ∧ b = j.isNone ∧ h' = upd s2.h L (some (.loop (if j.isNone = true then .ready else .done) j tm nt ps as bo df)) ∧ nx' = s2.nx

theorem putAll_rv {g : Gh} {nt : Nat} : ∀ (ps : List Tmp) (xs : List V) (vs : List Value) (tm : Nat → V) (tmps : Array Value), xs.length = vs.length → (∀ p, p ∈ ps → p < nt) → tmps.size = nt →
    (∀ (i : Nat) x y, xs[i]? = some x → vs[i]? = some y → RV g x y) → (∀ i, RV g (tm i) (tmps.getD i undef)) →
    (((ps.zip vs).foldl (fun t (p : Tmp × Value) => t.setIfInBounds p.1 p.2) tmps).size = nt ∧ ∀ i, RV g (putAll tm ps xs i) (((ps.zip vs).foldl (fun t (p : Tmp × Value) => t.setIfInBounds p.1 p.2) tmps).getD i undef)) := by
  intro ps
  induction ps with
  | nil => intro xs vs tm tmps _ _ hs _ ht; exact ⟨hs, fun i => by cases xs <;> exact ht i⟩
  | cons p ps ih =>
    intro xs vs tm tmps hl hp hs hv ht
    cases xs with
    | nil =>
      cases vs with
      | nil => exact ⟨hs, ht⟩
      | cons _ _ => cases hl
    | cons x xs =>
      cases vs with
      | nil => cases hl
      | cons v vs =>
        have hpl := hp p (by simp)
        refine ih xs vs (upd tm p x) (tmps.setIfInBounds p v) (by simpa using hl) (fun q hq => hp q (by simp [hq])) (by simpa using hs) (fun i a b h1 h2 => hv (i + 1) a b (by simpa using h1) (by simpa using h2)) (fun i => ?_)
        by_cases e : i = p
        · subst e
          rw [upd_same]
          have : (tmps.setIfInBounds i v).getD i undef = v := by
            have hlt : i < tmps.size := by rw [hs]; exact hpl
            simp [Array.getD, hlt]
          rw [this]; exact hv 0 x v rfl rfl
        · rw [upd_ne _ _ _ e]
          have : (tmps.setIfInBounds p v).getD i undef = tmps.getD i undef := by
            by_cases hj : i < tmps.size
            · simp [Array.getD, hj, Array.getElem_setIfInBounds_ne hj (Ne.symm e)]
            · simp [Array.getD, hj]
          rw [this]; exact ht i

theorem TrL.yield {c : Call} {cf : Operand} {L : Nat} {b : Bool} {h' : Nat → Option Blk} {nx' : Nat} (hw : wantV ops s o = some true) (hd : dstOk E o.dst)
    (ho : o.op = .call c) (hc : c.callee = .value cf) (hf : s.ev E.c cf = .yld L) (hR : RoundW P E.c L (c.args.toList.map (s.ev E.c)) s b h' nx')
    (h : TrL P E ops l { s.put o.dst (.lit (.bool b)) with h := h', nx := nx' } Q) : TrL P E ops (o :: l) s Q := by
  intro g a w H
  obtain ⟨pe, tm, nt, ps, as, bo, df, s1, e, s2, j, hL, hps, hpl, hA, hL1, hB, hL2, hj, rfl, rfl, rfl⟩ := hR.ex
  have hcf := H.ev cf
  rw [hf] at hcf
  generalize hq : a.eval cf = q at hcf
  cases hcf with
  | yld _ k hk =>
    obtain ⟨cb, ob, hcb, hob, rec, rfl, hrec⟩ := H.mem.obj hL rfl (fun cs e => by cases e)
    rw [hk] at hcb; injection hcb with hcb; subst hcb
    have hsz : (c.args.map a.eval).size = rec.params.size := by rw [hrec.ps, hps]; simp
    have hr : (execOp a.eval o).run P w = .ok (.round k rec.fn ((rec.params.zip (c.args.map a.eval)).foldl (fun tmps (t, a) => tmps.setIfInBounds t a) rec.tmps) rec.assign rec.body) w := by
      have := run_yield (P := P) hob hsz
      simp only [execOp, ho, resolve, hc]
      simp only [Sem.run_bind, Result.andThen_ok, hq, Deferred.ofValue, Sem.run_pure, invoke]
      simpa [Deferred.ofValue, Result.andThen, invoke] using this
    refine of_exec (wantV_spec hw H) (by rw [ho]; intro c hc; cases hc) hr ⟨fun h => (by cases h), roundIn_of_wpIn trivial ?_⟩
    let E' : Env := { w0 := E.w0, fz0 := E.fz0, c := ⟨E.c.gl, some L, nt, s.nx, s.h⟩, l := k, g0 := g, hds := fun b x hb => H.mem.blkDS hb }
    have hnew : ∀ b, s.nx ≤ b → g.m b = none ∧ ∀ n, g.loc b n = none := fun b hb => (H.mem.new b hb).2
    have hp := putAll_rv (g := g) (nt := nt) rec.params.toList (c.args.toList.map (s.ev E.c)) (c.args.map a.eval).toList tm rec.tmps (by simp) (by rw [hrec.ps]; exact hpl) hrec.size
      (fun i x y h1 h2 => by
        simp only [List.getElem?_map, Option.map_eq_some_iff] at h1
        obtain ⟨z, hz, rfl⟩ := h1
        have hz' : c.args[i]? = some z := by simpa using hz
        have : a.eval z = y := by simpa [hz'] using h2
        rw [← this]; exact H.ev z) hrec.tmps
    have hfold : (rec.params.zip (c.args.map a.eval)).foldl (fun tmps (p : Tmp × Value) => tmps.setIfInBounds p.1 p.2) rec.tmps = (rec.params.toList.zip (c.args.map a.eval).toList).foldl (fun t (p : Tmp × Value) => t.setIfInBounds p.1 p.2) rec.tmps := by
      rw [← Array.foldl_toList, Array.toList_zip]
    have H1 : Rel E' g ⟨putAll tm ps.toList (c.args.toList.map (s.ev E.c)), s.h, s.nx, []⟩
        { tmps := (rec.params.zip (c.args.map a.eval)).foldl (fun tmps (p : Tmp × Value) => tmps.setIfInBounds p.1 p.2) rec.tmps, defers := [] } w := by
      rw [hfold]
      refine ⟨fun i => by rw [← hrec.ps]; exact hp.2 i, hp.1, ⟨rfl, fun i d x h => by simp at h⟩, fun M hM => ?_, H.mem.env rfl rfl rfl (Gh.Le.refl g) ⟨Nat.le_refl _, hnew⟩⟩
      have : some L = some M := hM
      injection this with this; subst this; exact hk
    rw [hrec.as, hrec.bo]
    refine wpIn_mono (hA E' g _ w rfl H1) ?_
    rintro e1 a1 w1 ⟨g1, s1', H2, he1, hs1⟩
    subst he1; subst hs1
    obtain ⟨cb1, ob1, hcb1, hob1, rec1, rfl, hrec1⟩ := H2.mem.obj hL1 rfl (fun cs e => by cases e)
    have hle1 : Gh.Le g g1 := H2.mem.le0
    have hk1 := hle1.m _ _ hk
    rw [hk1] at hcb1; injection hcb1 with hcb1; subst hcb1
    refine ⟨_, run_beginRound hob1 hrec1.state, ?_⟩
    have hm2 := H2.mem.setObj hL1 hk1 hob1 (x' := .loop .busy pe tm nt ps as bo df) ⟨rec1, rfl, hrec1⟩ ⟨{ rec1 with state := .busy }, rfl, ⟨rfl, hrec1.pending, hrec1.tmps, hrec1.size, hrec1.ps, hrec1.as, hrec1.bo, hrec1.df⟩⟩ (putObj_set hob1)
    refine wpIn_mono (hB E' g1 _ _ rfl (H2.mem' hm2 (Gh.Le.refl g1))) ?_
    rintro e2 a2 w2 ⟨g2, s2', H3, he2, hs2⟩
    subst he2; subst hs2
    obtain ⟨cb2, ob2, hcb2, hob2, rec2, rfl, hrec2⟩ := H3.mem.obj hL2 rfl (fun cs e => by cases e)
    have hle2 : Gh.Le g g2 := H3.mem.le0
    have hk2 := hle2.m _ _ hk
    rw [hk2] at hcb2; injection hcb2 with hcb2; subst hcb2
    have fin : ∀ j, jumpOf e2 = some j → ∃ v w', (Instr.endRound k j).run P w2 = .ok v w' ∧ v = .bool j.isNone ∧ w' = w2.putObj k (.loop { rec2 with state := if j.isNone then .ready else .done, pending := j }) := fun j _ => ⟨_, _, run_endRound j hob2, rfl, rfl⟩
    have goal : ∀ v w', v = .bool j.isNone → w' = w2.putObj k (.loop { rec2 with state := if j.isNone then .ready else .done, pending := j }) → wpListIn (Fw E) 0 P ops (cQ E Q) l (a.put o.dst v) w' := by
      rintro _ _ rfl rfl
      have hm3 := H3.mem.setObj hL2 hk2 hob2 (x' := .loop (if j.isNone = true then .ready else .done) j tm nt ps as bo df) ⟨rec2, rfl, hrec2⟩
        ⟨{ rec2 with state := if j.isNone then .ready else .done, pending := j }, rfl, ⟨rfl, rfl, hrec2.tmps, hrec2.size, hrec2.ps, hrec2.as, hrec2.bo, hrec2.df⟩⟩ (putObj_set hob2)
      have hn0 := H.mem.n0
      have hnx : s.nx ≤ s2'.nx := H3.mem.n0.1
      have hm4 := hm3.env (E' := E) rfl rfl rfl (H.mem.le0.trans hle2) ⟨Nat.le_trans hn0.1 hnx, hn0.2⟩
      have H4 := (H.mem' (s := s) hm4 hle2).put hd (v := .lit (.bool j.isNone)) (.lit _)
      have e : ∀ (h' : Nat → Option Blk), ({ s with h := h', nx := s2'.nx } : St).put o.dst (.lit (.bool j.isNone)) = { s.put o.dst (.lit (.bool j.isNone)) with h := h', nx := s2'.nx } := fun h' => by cases o.dst <;> rfl
      rw [e] at H4
      exact h _ _ _ H4
    cases e2 <;> simp only [jumpOf] at hj <;> first
      | (injection hj with hj; subst hj; obtain ⟨v, w', h1, h2, h3⟩ := fin _ rfl; exact ⟨v, w', h1, goal v w' h2 h3⟩)
      | cases hj

def builtinV (P : Program) (C : Ctx) (s : St) (b : Builtin) (args : List Operand) (tys : List TypeId) : Option V :=
  match b, args, tys with
  | .len, [x], [t] => lenV P t (s.ev C x)
  | _, _, _ => none

theorem arr1 {α : Type} {a : Array α} {x : α} (h : a.toList = [x]) : a = #[x] := by cases a; simp_all

theorem builtinV_spec {c : Call} {b : Builtin} {v : V} (ho : o.op = .call c) (hc : c.callee = .builtin b) (h : builtinV P E.c s b c.args.toList c.argTypes.toList = some v) : Evs P E s o v := by
  obtain ⟨cal, args, tys⟩ := c
  simp only at hc h
  subst hc
  unfold builtinV at h
  split at h
  · rename_i x t ha ht
    have e1 := arr1 ha
    have e2 := arr1 ht
    subst e1; subst e2
    exact evs_len ho h
  · cases h

theorem evs_makeFunc {fn : Fn} {first cap : Array Operand} (ho : o.op = .makeFunc fn first cap) : Evs P E s o (.clo fn (first.toList.map (s.ev E.c)) (cap.toList.map (s.ev E.c))) := by
  intro g a w H
  refine ⟨.func fn (first.map a.eval) (cap.map a.eval), by simp [execOp, ho, Instr.makeFunc], .clo _ _ _ _ _ (by simp) (by simp) ?_ ?_⟩
  · intro i x y h1 h2
    simp only [List.getElem?_map, Array.getElem?_map, Option.map_eq_some_iff, Array.getElem?_toList] at h1 h2
    obtain ⟨q, hq, rfl⟩ := h1
    obtain ⟨q', hq', rfl⟩ := h2
    rw [hq] at hq'; injection hq' with hq'; subst hq'
    exact H.ev q
  · intro i x y h1 h2
    simp only [List.getElem?_map, Array.getElem?_map, Option.map_eq_some_iff, Array.getElem?_toList] at h1 h2
    obtain ⟨q, hq, rfl⟩ := h1
    obtain ⟨q', hq', rfl⟩ := h2
    rw [hq] at hq'; injection hq' with hq'; subst hq'
    exact H.ev q

/-- The operations that come to a value. -/
def opV (P : Program) (C : Ctx) (s : St) (op : Op) : Option V :=
  match op with
  | .move x | .assign x => some (s.ev C x)
  | .pick c x y => match s.ev C c with
    | .lit (.bool b) => some (if b = true then s.ev C x else s.ev C y)
    | _ => none
  | .load t x => loadV P s t (s.ev C x)
  | .fieldAddr t x k => fieldAddrV P t k (s.ev C x)
  | .indexAddr t x i => indexAddrV P t (s.ev C x) (s.ev C i)
  | .index t x i => indexV P t (s.ev C x) (s.ev C i)
  | .binOp b t x y _ => binV P b t (s.ev C x) (s.ev C y)
  | .unOp u _ x => match s.ev C x with
    | .lit p => (unL u p).map .lit
    | _ => none
  | .extract x k => match s.ev C x with
    | .tup cs => cs[k]?
    | _ => none
  | .build t parts => buildV P C s t parts.toList
  | .slice t x lo hi mx => cutV P C s t (s.ev C x) lo hi mx
  | .makeFunc fn first cap => some (.clo fn (first.toList.map (s.ev C)) (cap.toList.map (s.ev C)))
  | .call c => match c.callee with
    | .builtin b => builtinV P C s b c.args.toList c.argTypes.toList
    | _ => none
  | _ => none

theorem opV_spec {v : V} (h : opV P E.c s o.op = some v) : Evs P E s o v := by
  unfold opV at h
  split at h
  · rename_i x ho; injection h with h; subst h; exact evs_move (.inl ho)
  · rename_i x ho; injection h with h; subst h; exact evs_move (.inr ho)
  · rename_i c x y ho
    split at h
    · rename_i b hb; injection h with h; subst h; exact evs_pick ho hb
    · cases h
  · rename_i ho; exact evs_load ho h
  · rename_i ho; exact evs_fieldAddr ho h
  · rename_i ho; exact evs_indexAddr ho h
  · rename_i ho; exact evs_index ho h
  · rename_i ho; exact evs_binOp ho h
  · rename_i u t x ho
    split at h
    · rename_i p hp
      simp only [Option.map_eq_some_iff] at h
      obtain ⟨r, hr, rfl⟩ := h
      exact evs_unOp ho hp hr
    · cases h
  · rename_i x k ho
    split at h
    · rename_i cs hp; exact evs_extract ho hp h
    · cases h
  · rename_i ho; exact evs_build ho h
  · rename_i ho; exact evs_slice ho h
  · rename_i ho; injection h with h; subst h; exact evs_makeFunc ho
  · rename_i c ho
    split at h
    · rename_i b hb; exact builtinV_spec ho hb h
    · cases h
  · cases h

theorem opV_def {C : Ctx} {v : V} (h : opV P C s o.op = some v) : ∀ c, o.op ≠ .defer c := by
  intro c e; rw [e] at h; cases h

/-- The value under a guard. -/
def guardV (ops : Array Oper) (s : St) (j : Nat) (want : Bool) : Option Bool :=
  match ops[j]? with
  | some oj => match oj.dst with
    | some d => match s.t d with
      | .lit (.bool b) => some b
      | .lit (.tuple _) => some (!want)
      | _ => none
    | none => none
  | none => none

/-- Where a value is at hand. -/
def bindO {α : Type} (x : Option α) (k : α → Prop) : Prop := match x with | some v => k v | none => False
theorem bindO_some {α : Type} (v : α) (k : α → Prop) : bindO (some v) k = k v := (rfl)
/-- A part that the reckoning is to work out by itself: the law below is no mere unfolding. -/
def hid {α : Sort _} (x : α) : α := x
theorem hid_eq {α : Sort _} (x : α) : hid x = x := (rfl)
@[congr] theorem bindO_congr {α : Type} {x y : Option α} {k : α → Prop} (h : hid x = y) : bindO x k = bindO y k := by rw [← h, hid_eq]
/-- Where a guard may not be decided yet. -/
def GuardW (b w : Bool) (A B : Prop) : Prop := (b = w → A) ∧ (b ≠ w → B)
@[congr] theorem GuardW_congr {b b' w : Bool} {A B : Prop} (h : hid b = b') : GuardW b w A B = GuardW b' w A B := by rw [← h, hid_eq]
theorem GuardW_tt (A B : Prop) : GuardW true true A B = A := by simp [GuardW]
theorem GuardW_ff (A B : Prop) : GuardW false false A B = A := by simp [GuardW]
theorem GuardW_tf (A B : Prop) : GuardW true false A B = B := by simp [GuardW]
theorem GuardW_ft (A B : Prop) : GuardW false true A B = B := by simp [GuardW]

/-- Where an operation stands in a region that draws its order: the region's first number, the operation's own. -/
abbrev Dr := Option (Nat × Nat)
def nextD : Dr → Dr
  | none => none
  | some (b, k) => some (b, k + 1)
theorem nextD_none : nextD none = none := (rfl)
theorem nextD_some (b k : Nat) : nextD (some (b, k)) = some (b, k + 1) := (rfl)
def noOf (dr : Dr) (s : St) : Nat := match dr with | none => s.nx | some (_, k) => k

/-- A new block. -/
def St.newAt (dr : Dr) (s : St) (d : Option Tmp) (v : Nat → V) (cs : List V) : St :=
  { s.put d (v (noOf dr s)) with h := upd s.h (noOf dr s) (some (.cells cs)), nx := match dr with | none => s.nx + 1 | some _ => s.nx }
def St.appAt (dr : Dr) (s : St) (d : Option Tmp) (tok : Option Nat) (rows ys : List (List V)) : St :=
  { s.put d (.sl (.own (tok.getD (noOf dr s))) (rows ++ ys)) with h := upd s.h (tok.getD (noOf dr s)) (some (.room (rows.length + ys.length))), nx := match dr with | none => nextNo s.nx (tok.getD s.nx) | some _ => s.nx }

/-- A call. -/
def CallW (dr : Dr) (P : Program) (C : Ctx) (d : Option Tmp) (cf : Operand) (args : Array Operand) (s : St) (K : St → Prop) : Prop :=
  (∃ f cap r, calleeV (s.ev C cf) = some (f, cap) ∧ (∀ x, x ∈ args.toList.map (fun x => strip (s.ev C x)) ++ cap.map strip → D x) ∧
    FnP P C.gl f (args.toList.map (fun x => strip (s.ev C x)) ++ cap.map strip) r ∧ K (s.put d r)) ∨
  (∃ f cap cs n sz, calleeV (s.ev C cf) = some (f, cap) ∧ (∀ x, x ∈ args.toList.map (fun x => strip (s.ev C x)) ++ cap.map strip → D x) ∧
    FnM P C.gl f (args.toList.map (fun x => strip (s.ev C x)) ++ cap.map strip) cs n ∧ K (s.newAt dr d (fun b => .hs b 0 n n sz) cs)) ∨
  (dr = none ∧ ∃ f cap r h' nx', calleeV (s.ev C cf) = some (f, cap) ∧ FnH P C.gl f (args.toList.map (s.ev C) ++ cap) s.h s.nx r h' nx' ∧ K { s.put d r with h := h', nx := nx' }) ∨
  (dr = none ∧ ∃ L b h' nx', s.ev C cf = .yld L ∧ RoundW P C L (args.toList.map (s.ev C)) s b h' nx' ∧ K { s.put d (.lit (.bool b)) with h := h', nx := nx' })
@[congr] theorem CallW_congr {C : Ctx} {dr : Dr} {d : Option Tmp} {cf : Operand} {args : Array Operand} {s s' : St} {K : St → Prop} (h : hid s = s') :
    CallW dr P C d cf args s K = CallW dr P C d cf args s' K := by rw [← h, hid_eq]

variable {C : Ctx}
/-- A call met by its contract. -/
theorem CallW.one {dr : Dr} {d : Option Tmp} {cf : Operand} {args : Array Operand} {K : St → Prop} {f : FuncId} {cap xs : List V} {r : V} (hF : FnP P C.gl f xs r)
    (hf : calleeV (s.ev C cf) = some (f, cap)) (hx : args.toList.map (fun x => strip (s.ev C x)) ++ cap.map strip = xs) (hD : ∀ x, x ∈ xs → D x)
    (h : K (s.put d r)) : CallW dr P C d cf args s K :=
  .inl ⟨f, cap, r, hf, by rw [hx]; exact hD, by rw [hx]; exact hF, h⟩
theorem CallW.oneR {dr : Dr} {d : Option Tmp} {cf : Operand} {args : Array Operand} {K : St → Prop} {f : FuncId} {cap xs : List V} {R : V → Prop} (hF : FnR P C.gl f xs R)
    (hf : calleeV (s.ev C cf) = some (f, cap)) (hx : args.toList.map (fun x => strip (s.ev C x)) ++ cap.map strip = xs) (hD : ∀ x, x ∈ xs → D x)
    (h : ∀ r, R r → D r → K (s.put d r)) : CallW dr P C d cf args s K := by
  obtain ⟨r, hR, hF⟩ := hF
  exact CallW.one hF hf hx hD (h r hR hF.data)
/-- A call of a function by its name. -/
theorem CallW.fn {dr : Dr} {d : Option Tmp} {args : Array Operand} {K : St → Prop} {f : FuncId} {xs : List V} {r : V} (hF : FnP P C.gl f xs r)
    (hx : args.toList.map (fun x => strip (s.ev C x)) = xs) (hD : ∀ x, x ∈ xs → D x) (h : K (s.put d r)) : CallW dr P C d (.func f) args s K :=
  CallW.one (cap := []) hF rfl (by simpa using hx) hD h
theorem CallW.fnR {dr : Dr} {d : Option Tmp} {args : Array Operand} {K : St → Prop} {f : FuncId} {xs : List V} {R : V → Prop} (hF : FnR P C.gl f xs R)
    (hx : args.toList.map (fun x => strip (s.ev C x)) = xs) (hD : ∀ x, x ∈ xs → D x) (h : ∀ r, R r → D r → K (s.put d r)) : CallW dr P C d (.func f) args s K :=
  CallW.oneR (cap := []) hF rfl (by simpa using hx) hD h
/-- A call that brings a new row of cells. -/
theorem CallW.fnM {dr : Dr} {d : Option Tmp} {args : Array Operand} {K : St → Prop} {f : FuncId} {xs cs : List V} {n sz : Nat} (hF : FnM P C.gl f xs cs n)
    (hx : args.toList.map (fun x => strip (s.ev C x)) = xs) (hD : ∀ x, x ∈ xs → D x) (h : K (s.newAt dr d (fun b => .hs b 0 n n sz) cs)) : CallW dr P C d (.func f) args s K :=
  .inr (.inl ⟨f, [], cs, n, sz, rfl, by simpa [hx] using hD, by simpa [hx] using hF, h⟩)
/-- A call that works on the memory. -/
theorem CallW.heap {d : Option Tmp} {cf : Operand} {args : Array Operand} {K : St → Prop} {f : FuncId} {cap xs : List V} {r : V} {h' : Nat → Option Blk} {nx' : Nat} (hf : calleeV (s.ev C cf) = some (f, cap))
    (hF : FnH P C.gl f xs s.h s.nx r h' nx') (hx : args.toList.map (s.ev C) ++ cap = xs) (h : K { s.put d r with h := h', nx := nx' }) : CallW none P C d cf args s K :=
  .inr (.inr (.inl ⟨rfl, f, cap, r, h', nx', hf, by rw [hx]; exact hF, h⟩))
theorem CallW.fnH {d : Option Tmp} {args : Array Operand} {K : St → Prop} {f : FuncId} {xs : List V} {r : V} {h' : Nat → Option Blk} {nx' : Nat} (hF : FnH P C.gl f xs s.h s.nx r h' nx')
    (hx : args.toList.map (s.ev C) = xs) (h : K { s.put d r with h := h', nx := nx' }) : CallW none P C d (.func f) args s K :=
  CallW.heap (cap := []) rfl hF (by simpa using hx) h
/-- A call of yield. -/
theorem CallW.yield {d : Option Tmp} {cf : Operand} {args : Array Operand} {K : St → Prop} {L : Nat} {xs : List V} {b : Bool} {h' : Nat → Option Blk} {nx' : Nat} (hf : s.ev C cf = .yld L)
    (hR : RoundW P C L xs s b h' nx') (hx : args.toList.map (s.ev C) = xs) (h : K { s.put d (.lit (.bool b)) with h := h', nx := nx' }) : CallW none P C d cf args s K :=
  .inr (.inr (.inr ⟨rfl, L, b, h', nx', hf, by rw [hx]; exact hR, h⟩))

/-- An append. -/
def AppW (dr : Dr) (P : Program) (t : TypeId) (d : Option Tmp) (x y : V) (s : St) (K : St → Prop) : Prop :=
  (∃ tok rows ys, baseV s x = some (tok, rows) ∧ srcV y = some ys ∧ AppOk P t rows ys ∧ K (s.appAt dr d tok rows ys)) ∨
  (dr = none ∧ ∃ rows ys sz, baseV s x = some (none, rows) ∧ srcV y = some ys ∧ AppOk P t rows ys ∧ 0 < ys.length ∧ eltS P t = some sz ∧
    K (s.newAt none d (fun b => .hs b 0 (rows.length + ys.length) (rows.length + ys.length) sz) (rows.flatten ++ ys.flatten)))
@[congr] theorem AppW_congr {dr : Dr} {t : TypeId} {d : Option Tmp} {x y x' y' : V} {s s' : St} {K : St → Prop} (h1 : hid x = x') (h2 : hid y = y') (h : hid s = s') : AppW dr P t d x y s K = AppW dr P t d x' y' s' K := by rw [← h1, ← h2, ← h, hid_eq, hid_eq, hid_eq]

/-- Where the order is drawn, a load is of a block that stands. -/
def ldOk (dr : Dr) (v : V) : Prop := match dr, v with
  | some (base, _), .ptr b _ => b < base
  | _, _ => True

/-- An operation, carried out on an abstract state. -/
def stepG (dr : Dr) (P : Program) (C : Ctx) (d : Option Tmp) (op : Op) (s : St) (K : St → Prop) : Prop :=
  match op with
  | .alloc t => bindO (zeroL P t) fun zs => K (s.newAt dr d (fun b => .ptr b 0) zs)
  | .box t x => bindO (cellsV (s.ev C x)) fun cs => K (s.newAt dr d (fun b => .ptr b 0) cs)
  | .store t p x => d = none ∧ bindO (storeV P s t (s.ev C p) (s.ev C x)) fun q => K { s with h := upd s.h q.1 (some (.cells q.2)) }
  | .buildSlice t n parts => bindO (buildSliceV P C s t n parts.toList) fun rows => K (s.put d (.sl .exact rows))
  | .load t x => ldOk dr (s.ev C x) ∧ bindO (loadV P s t (s.ev C x)) fun v => K (s.put d v)
  | .call c => match c.callee with
    | .value cf => CallW dr P C d cf c.args s K
    | .builtin .append => match c.args.toList, c.argTypes.toList with
      | [x, y], [t, u] => t = u ∧ AppW dr P t d (s.ev C x) (s.ev C y) s K
      | _, _ => False
    | _ => bindO (opV P C s (.call c)) fun v => K (s.put d v)
  | op => bindO (opV P C s op) fun v => K (s.put d v)

def stepW (dr : Dr) (P : Program) (C : Ctx) (ops : Array Oper) (o : Oper) (s : St) (K : St → Prop) : Prop :=
  match o.guard with
  | none => stepG dr P C o.dst o.op s K
  | some (j, want) => bindO (guardV ops s j want) fun b => GuardW b want (stepG dr P C o.dst o.op s K) (K (s.put o.dst skipV))

/-- A list of operations, carried out on an abstract state. -/
def WL (dr : Dr) (P : Program) (C : Ctx) (ops : Array Oper) : List Oper → St → (Exit → St → Prop) → Prop
  | [], s, Q => Q .normal s
  | o :: l, s, Q => stepW dr P C ops o s fun s' => WL (nextD dr) P C ops l s' Q
@[congr] theorem WL_congr {dr dr' : Dr} {ops : Array Oper} {l : List Oper} {s s' : St} {Q : Exit → St → Prop} (hd : hid dr = dr') (h : hid s = s') : WL dr P C ops l s Q = WL dr' P C ops l s' Q := by rw [← h, ← hd, hid_eq, hid_eq]

section
variable {dr : Dr} {d : Option Tmp} {t : TypeId} {p : String} {af : Array Edge} {T : TypeId}
theorem WL_nil : WL dr P C ops [] s Q = Q .normal s := (rfl)
theorem WL_guard {op : Op} {j : Nat} {w : Bool} : WL dr P C ops ({ dst := d, op := op, type := T, pos := p, after := af, guard := some (j, w) } :: l) s Q =
    bindO (guardV ops s j w) fun b => GuardW b w (WL dr P C ops ({ dst := d, op := op, type := T, pos := p, after := af, guard := none } :: l) s Q) (WL (nextD dr) P C ops l (s.put d skipV) Q) := (rfl)
theorem WL_alloc : WL dr P C ops ({ dst := d, op := .alloc t, type := T, pos := p, after := af, guard := none } :: l) s Q = bindO (zeroL P t) fun zs => WL (nextD dr) P C ops l (s.newAt dr d (fun b => .ptr b 0) zs) Q := (rfl)
theorem WL_box {x : Operand} : WL dr P C ops ({ dst := d, op := .box t x, type := T, pos := p, after := af, guard := none } :: l) s Q = bindO (cellsV (s.ev C x)) fun cs => WL (nextD dr) P C ops l (s.newAt dr d (fun b => .ptr b 0) cs) Q := (rfl)
theorem WL_store {x y : Operand} : WL dr P C ops ({ dst := none, op := .store t x y, type := T, pos := p, after := af, guard := none } :: l) s Q =
    bindO (storeV P s t (s.ev C x) (s.ev C y)) fun q => WL (nextD dr) P C ops l { s with h := upd s.h q.1 (some (.cells q.2)) } Q := by simp [WL, stepW, stepG]
theorem WL_move {x : Operand} : WL dr P C ops ({ dst := d, op := .move x, type := T, pos := p, after := af, guard := none } :: l) s Q = WL (nextD dr) P C ops l (s.put d (s.ev C x)) Q := (rfl)
theorem WL_assign {x : Operand} : WL dr P C ops ({ dst := d, op := .assign x, type := T, pos := p, after := af, guard := none } :: l) s Q = WL (nextD dr) P C ops l (s.put d (s.ev C x)) Q := (rfl)
theorem WL_load {x : Operand} : WL none P C ops ({ dst := d, op := .load t x, type := T, pos := p, after := af, guard := none } :: l) s Q = bindO (loadV P s t (s.ev C x)) fun v => WL none P C ops l (s.put d v) Q := by
  simp [WL, stepW, stepG, ldOk, nextD]
def LdD (P : Program) (base : Nat) (s : St) (t : TypeId) (v : V) (K : V → Prop) : Prop := (match v with | .ptr b _ => b < base | _ => True) ∧ bindO (loadV P s t v) K
@[congr] theorem LdD_congr {base : Nat} {s s' : St} {t : TypeId} {v v' : V} {K : V → Prop} (h : hid s = s') (hv : hid v = v') : LdD P base s t v K = LdD P base s' t v' K := by rw [← h, ← hv, hid_eq, hid_eq]
theorem LdD_ptr {base b k : Nat} {K : V → Prop} : LdD P base s t (.ptr b k) K = (b < base ∧ bindO (loadV P s t (.ptr b k)) K) := (rfl)
theorem LdD_ept {base : Nat} {row : List V} {k : Nat} {K : V → Prop} : LdD P base s t (.ept row k) K = bindO (loadV P s t (.ept row k)) K := by simp [LdD]
theorem WL_loadD {x : Operand} {base k : Nat} : WL (some (base, k)) P C ops ({ dst := d, op := .load t x, type := T, pos := p, after := af, guard := none } :: l) s Q = LdD P base s t (s.ev C x) fun v => WL (some (base, k + 1)) P C ops l (s.put d v) Q := by
  simp only [WL, stepW, stepG, ldOk, LdD, nextD]
  cases s.ev C x <;> rfl
theorem WL_fieldAddr {x : Operand} {k : Nat} : WL dr P C ops ({ dst := d, op := .fieldAddr t x k, type := T, pos := p, after := af, guard := none } :: l) s Q =
    bindO (fieldAddrV P t k (s.ev C x)) fun v => WL (nextD dr) P C ops l (s.put d v) Q := (rfl)
theorem WL_indexAddr {x i : Operand} : WL dr P C ops ({ dst := d, op := .indexAddr t x i, type := T, pos := p, after := af, guard := none } :: l) s Q =
    bindO (indexAddrV P t (s.ev C x) (s.ev C i)) fun v => WL (nextD dr) P C ops l (s.put d v) Q := (rfl)
theorem WL_index {x i : Operand} : WL dr P C ops ({ dst := d, op := .index t x i, type := T, pos := p, after := af, guard := none } :: l) s Q =
    bindO (indexV P t (s.ev C x) (s.ev C i)) fun v => WL (nextD dr) P C ops l (s.put d v) Q := (rfl)
theorem WL_binOp {b : BinOp} {x y : Operand} {u : TypeId} : WL dr P C ops ({ dst := d, op := .binOp b t x y u, type := T, pos := p, after := af, guard := none } :: l) s Q =
    bindO (binV P b t (s.ev C x) (s.ev C y)) fun v => WL (nextD dr) P C ops l (s.put d v) Q := (rfl)
theorem WL_extract {x : Operand} {k : Nat} : WL dr P C ops ({ dst := d, op := .extract x k, type := T, pos := p, after := af, guard := none } :: l) s Q =
    bindO (opV P C s (.extract x k)) fun v => WL (nextD dr) P C ops l (s.put d v) Q := (rfl)
theorem WL_unOp {u : UnOp} {x : Operand} : WL dr P C ops ({ dst := d, op := .unOp u t x, type := T, pos := p, after := af, guard := none } :: l) s Q =
    bindO (opV P C s (.unOp u t x)) fun v => WL (nextD dr) P C ops l (s.put d v) Q := (rfl)
theorem WL_pick {x y z : Operand} : WL dr P C ops ({ dst := d, op := .pick x y z, type := T, pos := p, after := af, guard := none } :: l) s Q =
    bindO (opV P C s (.pick x y z)) fun v => WL (nextD dr) P C ops l (s.put d v) Q := (rfl)
theorem WL_build {ps : Array (Nat × Operand)} : WL dr P C ops ({ dst := d, op := .build t ps, type := T, pos := p, after := af, guard := none } :: l) s Q =
    bindO (buildV P C s t ps.toList) fun v => WL (nextD dr) P C ops l (s.put d v) Q := (rfl)
theorem WL_buildSlice {n : Nat} {ps : Array (Nat × Operand)} : WL dr P C ops ({ dst := d, op := .buildSlice t n ps, type := T, pos := p, after := af, guard := none } :: l) s Q =
    bindO (buildSliceV P C s t n ps.toList) fun rows => WL (nextD dr) P C ops l (s.put d (.sl .exact rows)) Q := (rfl)
theorem WL_slice {x : Operand} {lo hi mx : Option Operand} : WL dr P C ops ({ dst := d, op := .slice t x lo hi mx, type := T, pos := p, after := af, guard := none } :: l) s Q =
    bindO (cutV P C s t (s.ev C x) lo hi mx) fun v => WL (nextD dr) P C ops l (s.put d v) Q := (rfl)
theorem WL_makeFunc {fn : Fn} {xs ys : Array Operand} : WL dr P C ops ({ dst := d, op := .makeFunc fn xs ys, type := T, pos := p, after := af, guard := none } :: l) s Q =
    WL (nextD dr) P C ops l (s.put d (.clo fn (xs.toList.map (s.ev C)) (ys.toList.map (s.ev C)))) Q := (rfl)
theorem WL_len {x : Operand} : WL dr P C ops ({ dst := d, op := .call { callee := .builtin .len, args := #[x], argTypes := #[t] }, type := T, pos := p, after := af, guard := none } :: l) s Q =
    bindO (lenV P t (s.ev C x)) fun v => WL (nextD dr) P C ops l (s.put d v) Q := (rfl)
theorem WL_append {x y : Operand} : WL dr P C ops ({ dst := d, op := .call { callee := .builtin .append, args := #[x, y], argTypes := #[t, t] }, type := T, pos := p, after := af, guard := none } :: l) s Q =
    AppW dr P t d (s.ev C x) (s.ev C y) s fun s' => WL (nextD dr) P C ops l s' Q := by simp [WL, stepW, stepG]
theorem WL_call {cf : Operand} {a : Array Operand} {tys : Array TypeId} : WL dr P C ops ({ dst := d, op := .call { callee := .value cf, args := a, argTypes := tys }, type := T, pos := p, after := af, guard := none } :: l) s Q =
    CallW dr P C d cf a s fun s' => WL (nextD dr) P C ops l s' Q := (rfl)
end

def dstB (nt : Nat) (d : Option Tmp) : Bool := match d with | some i => decide (i < nt) | none => true

theorem oper_eta {o : Oper} {q : Option (Nat × Bool)} (h : o.guard = q) : o = { dst := o.dst, op := o.op, type := o.type, pos := o.pos, after := o.after, guard := q } := by cases o; cases h; rfl

theorem arr2 {α : Type} {a : Array α} {x y : α} (h : a.toList = [x, y]) : a = #[x, y] := by cases a; simp_all

theorem guardV_want {o : Oper} {j : Nat} {want b : Bool} (hg : o.guard = some (j, want)) (hb : guardV ops s j want = some b) : wantV ops s o = some (b == want) := by
  unfold guardV at hb
  unfold wantV
  simp only [hg]
  cases hj : ops[j]? with
  | none => simp [hj] at hb
  | some oj =>
    simp only [hj] at hb ⊢
    cases hdj : oj.dst with
    | none => simp [hdj] at hb
    | some d =>
      simp only [hdj] at hb ⊢
      split at hb
      · rename_i c hc; injection hb with hb; subst hb; simp only [hc]
      · rename_i c hc; injection hb with hb; subst hb; simp only [hc]; cases want <;> rfl
      · cases hb

theorem stepW.sound {o : Oper} (hd : dstB E.c.nt o.dst = true) (h : stepW none P E.c ops o s fun s' => TrL P E ops l s' Q) : TrL P E ops (o :: l) s Q := by
  have hd0 : dstOk E o.dst := fun i hi => by rw [hi] at hd; simpa [dstB] using hd
  have main : ∀ (hw : wantV ops s o = some true), (stepG none P E.c o.dst o.op s fun s' => TrL P E ops l s' Q) → TrL P E ops (o :: l) s Q := by
    have hfr : FreeNo s.h s.nx s.nx := .inl rfl
    intro hw h
    unfold stepG at h
    have opc : ∀ op, o.op = op → bindO (opV P E.c s op) (fun v => TrL P E ops l (s.put o.dst v) Q) → TrL P E ops (o :: l) s Q := by
      intro op ho hh
      subst ho
      cases hv : opV P E.c s o.op with
      | none => rw [hv] at hh; exact hh.elim
      | some v => rw [hv] at hh; exact TrL.val hw hd0 (opV_def hv) (opV_spec hv) hh
    split at h
    · rename_i t ho
      cases hz : zeroL P t with
      | none => rw [hz] at h; exact h.elim
      | some zs => rw [hz] at h; exact TrL.alloc hfr hw hd0 ho hz (by rw [nextNo_same]; exact h)
    · rename_i t x ho
      cases hz : cellsV (s.ev E.c x) with
      | none => rw [hz] at h; exact h.elim
      | some cs => rw [hz] at h; exact TrL.box hfr hw hd0 ho hz (by rw [nextNo_same]; exact h)
    · rename_i t p x ho
      obtain ⟨hdst, h⟩ := h
      cases hs : storeV P s t (s.ev E.c p) (s.ev E.c x) with
      | none => rw [hs] at h; exact h.elim
      | some q => rw [hs] at h; exact TrL.store (b := q.1) (cs' := q.2) hw hdst ho hs h
    · rename_i t n parts ho
      cases hs : buildSliceV P E.c s t n parts.toList with
      | none => rw [hs] at h; exact h.elim
      | some q => rw [hs] at h; exact TrL.buildSlice hw hd0 ho hs h
    · rename_i t x ho
      obtain ⟨_, h⟩ := h
      cases hs : loadV P s t (s.ev E.c x) with
      | none => rw [hs] at h; exact h.elim
      | some q => rw [hs] at h; exact TrL.val hw hd0 (by rw [ho]; intro c hc; cases hc) (evs_load ho hs) h
    · rename_i c ho
      split at h
      · rename_i cf hc
        rcases h with ⟨f, cap, r, h1, h2, h3, h4⟩ | ⟨f, cap, cs, n, sz, h1, h2, h3, h4⟩ | ⟨_, f, cap, r, h', nx', h1, h2, h3⟩ | ⟨_, L, b, h', nx', h1, h2, h3⟩
        · exact TrL.call hw hd0 ho hc h1 h2 h3 h4
        · exact TrL.callM hfr hw hd0 ho hc h1 h2 h3 (by rw [nextNo_same]; exact h4)
        · exact TrL.callH hw hd0 ho hc h1 h2 h3
        · exact TrL.yield hw hd0 ho hc h1 h2 h3
      · rename_i hc
        split at h
        · rename_i x y t u ha ht
          have hop : t = u → o.op = .call { callee := .builtin .append, args := #[x, y], argTypes := #[t, t] } := by
            intro e; subst e
            rw [ho]
            obtain ⟨cal, args, tys⟩ := c
            simp only at hc ha ht
            rw [hc, arr2 ha, arr2 ht]
          obtain ⟨rfl, ⟨tok, rows, ys, h1, h2, h3, h4⟩ | ⟨_, rows, ys, sz, h1, h2, h3, h4, h5, h6⟩⟩ := h
          · exact TrL.append hfr (t := t) (x := x) (y := y) hw hd0 (hop rfl) h1 h2 h3 h4
          · exact TrL.appendM hfr (t := t) (x := x) (y := y) hw hd0 (hop rfl) h1 h2 h3 h4 h5 (by rw [nextNo_same]; exact h6)
        · exact h.elim
      · exact opc _ ho h
    · exact opc _ rfl h
  unfold stepW at h
  cases hg : o.guard with
  | none => rw [hg] at h; exact main (by simp [wantV, hg]) h
  | some q =>
    obtain ⟨j, want⟩ := q
    rw [hg] at h
    simp only at h
    cases hb : guardV ops s j want with
    | none => rw [hb] at h; exact h.elim
    | some b =>
      rw [hb, bindO_some] at h
      have hw := guardV_want hg hb
      by_cases he : b = want
      · exact main (by rw [hw, he]; cases want <;> rfl) (h.1 he)
      · exact TrL.skip (by rw [hw]; cases b <;> cases want <;> first | rfl | exact absurd rfl he) hd0 (h.2 he)

theorem stepG.mono {dr : Dr} {d : Option Tmp} {op : Op} {K K' : St → Prop} (hk : ∀ s, K s → K' s) (h : stepG dr P C d op s K) : stepG dr P C d op s K' := by
  have bo : ∀ {α : Type} (x : Option α) (k k' : α → Prop), (∀ v, k v → k' v) → bindO x k → bindO x k' := fun x k k' hh h => by
    cases x with
    | none => exact h
    | some v => exact hh v h
  unfold stepG at *
  split <;> simp only at h
  · exact bo _ _ _ (fun _ => hk _) h
  · exact bo _ _ _ (fun _ => hk _) h
  · exact ⟨h.1, bo _ _ _ (fun _ => hk _) h.2⟩
  · exact bo _ _ _ (fun _ => hk _) h
  · exact ⟨h.1, bo _ _ _ (fun _ => hk _) h.2⟩
  · split <;> rename_i hc <;> simp only [hc] at h
    · rcases h with ⟨f, cap, r, h1, h2, h3, h4⟩ | ⟨f, cap, cs, n, sz, h1, h2, h3, h4⟩ | ⟨h0, f, cap, r, h', nx', h1, h2, h3⟩ | ⟨h0, L, b, h', nx', h1, h2, h3⟩
      · exact .inl ⟨f, cap, r, h1, h2, h3, hk _ h4⟩
      · exact .inr (.inl ⟨f, cap, cs, n, sz, h1, h2, h3, hk _ h4⟩)
      · exact .inr (.inr (.inl ⟨h0, f, cap, r, h', nx', h1, h2, hk _ h3⟩))
      · exact .inr (.inr (.inr ⟨h0, L, b, h', nx', h1, h2, hk _ h3⟩))
    · split at h
      · obtain ⟨h0, ⟨tok, rows, ys, h1, h2, h3, h4⟩ | ⟨hd, rows, ys, sz, h1, h2, h3, h4, h5, h6⟩⟩ := h
        · exact ⟨h0, .inl ⟨tok, rows, ys, h1, h2, h3, hk _ h4⟩⟩
        · exact ⟨h0, .inr ⟨hd, rows, ys, sz, h1, h2, h3, h4, h5, hk _ h6⟩⟩
      · exact h.elim
    · exact bo _ _ _ (fun _ => hk _) h
  · exact bo _ _ _ (fun _ => hk _) h

theorem WL.sound : ∀ (l : List Oper) (s : St), (∀ o, o ∈ l → dstB E.c.nt o.dst = true) → WL none P E.c ops l s Q → TrL P E ops l s Q := by
  intro l
  induction l with
  | nil => exact fun s _ h => TrL.nil h
  | cons o l ih =>
    intro s hd h
    refine stepW.sound (hd o (by simp)) ?_
    unfold WL at h
    unfold stepW at h ⊢
    have ih' := fun s => ih s (fun o ho => hd o (by simp [ho]))
    split
    · rename_i hg; simp only [hg] at h; exact h.mono ih'
    · rename_i j want hg
      simp only [hg] at h
      cases hb : guardV ops s j want with
      | none => rw [hb] at h; exact h
      | some b => rw [hb] at h; exact ⟨fun e => (h.1 e).mono ih', fun e => ih' _ (h.2 e)⟩

end Go.Proofs.YtkelfbakcpidjaaGreatDoor
