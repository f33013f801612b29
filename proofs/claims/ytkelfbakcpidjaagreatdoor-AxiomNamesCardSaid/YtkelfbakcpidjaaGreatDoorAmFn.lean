/- A function's contract out of its body, carried out on abstract values. -/
import Derived.Test.YtkelfbakcpidjaaGreatDoorAmFin
set_option linter.unusedVariables false
set_option linter.unusedSimpArgs false
namespace Go.Proofs.YtkelfbakcpidjaaGreatDoor
open Go.RowKit

variable {P : Program} {E : Env}

def resOne (P : Program) (s : St) : ResultVar → Option V
  | .tmp t => some (s.t t)
  | .cell a t => loadV P s t (s.t a)

def resV (P : Program) (s : St) : List ResultVar → Option V
  | [r] => resOne P s r
  | [r1, r2] => match resOne P s r1, resOne P s r2 with
    | some a, some b => some (.tup [a, b])
    | _, _ => none
  | [r1, r2, r3] => match resOne P s r1, resOne P s r2, resOne P s r3 with
    | some a, some b, some c => some (.tup [a, b, c])
    | _, _, _ => none
  | [] => some (.tup [])
  | _ => none

theorem run_loadV {s : St} {g : Gh} {a : Act} {w : World} (H : Rel E g s a w) {t : TypeId} {x v : V} {cx : Value} (hx : RV g x cx) (h : loadV P s t x = some v) :
    ∃ ad cv, cx = .pointer (some ad) ∧ (loadVar t ad).run P w = .ok cv w ∧ RV g v cv := by
  unfold loadV at h
  cases hq : ty P t with
  | none => simp [hq] at h
  | some q =>
    simp only [hq] at h
    cases x with
    | ptr b o' =>
      simp only [] at h
      cases hb : s.h b with
      | none => simp [hb] at h
      | some blk =>
        cases blk with
        | room n => simp [hb] at h
        | rsv => simp [hb] at h
        | map es => simp [hb] at h
        | loop => simp [hb] at h
        | dfr => simp [hb] at h
        | cells cs =>
          simp only [hb] at h
          obtain ⟨cb, f, hm, hc, hv⟩ := H.mem.cells_cell hb
          cases hx with
          | ptr _ _ cb' hm' =>
            rw [hm] at hm'; injection hm' with hm'; subst hm'
            have := run_loadVar_at (g := g) hq hc hv h
            rw [Nat.zero_add] at this
            obtain ⟨cv, h1, h2⟩ := this
            exact ⟨_, cv, rfl, h1, h2⟩
    | ept row o' =>
      simp only [] at h
      cases hx with
      | ept _ _ blk off f hc hv =>
        obtain ⟨cv, h1, h2⟩ := run_loadVar_at (P := P) (w := w) hq (fun j hj => H.mem.fz _ _ _ (hc j hj)) hv h
        exact ⟨_, cv, rfl, h1, h2⟩
    | _ => simp at h

def resSem (tmps : Array Value) : ResultVar → Sem Value
  | .tmp t => pure (tmps.getD t undef)
  | .cell i t => do loadVar t (← asAddr (tmps.getD i undef))
theorem results_eq (fn : Func) (tmps : Array Value) : results fn tmps = (do let vs ← fn.results.mapM (resSem tmps); pure (if h : vs.size = 1 then vs[0] else .tuple vs)) := rfl

theorem run_resOne {s : St} {g : Gh} {a : Act} {w : World} (H : Rel E g s a w) {r : ResultVar} {v : V} (h : resOne P s r = some v) :
    ∃ cv, (resSem a.tmps r).run P w = .ok cv w ∧ RV g v cv := by
  cases r with
  | tmp t =>
    simp only [resOne, Option.some.injEq] at h; subst h
    exact ⟨_, rfl, H.tmps t⟩
  | cell i t =>
    obtain ⟨ad, cv, e, hr, hv⟩ := run_loadV H (H.tmps i) h
    refine ⟨cv, ?_, hv⟩
    simp only [resSem, e, asAddr, Sem.run_bind, Sem.run_pure, Result.andThen_ok, hr]

theorem run_resV {s : St} {g : Gh} {a : Act} {w : World} (H : Rel E g s a w) {fn : Func} {rs : List ResultVar} (hrs : fn.results = rs.toArray) {v : V} (h : resV P s rs = some v) :
    ∃ cv, (results fn a.tmps).run P w = .ok cv w ∧ RV g v cv := by
  unfold resV at h
  split at h
  · rename_i r
    obtain ⟨cv, h1, h2⟩ := run_resOne H h
    refine ⟨cv, ?_, h2⟩
    rw [results_eq, hrs]; simp [h1]
  · rename_i r1 r2
    split at h
    · rename_i x y hx hy
      injection h with h; subst h
      obtain ⟨c1, h1, h2⟩ := run_resOne H hx
      obtain ⟨c2, h3, h4⟩ := run_resOne H hy
      refine ⟨.tuple #[c1, c2], ?_, .tup _ _ rfl (fun i x y e1 e2 => ?_)⟩
      · rw [results_eq, hrs]; simp [h1, h3]
      · match i with
        | 0 => simp at e1 e2; subst e1; subst e2; exact h2
        | 1 => simp at e1 e2; subst e1; subst e2; exact h4
        | i + 2 => simp at e1
    · cases h
  · rename_i r1 r2 r3
    split at h
    · rename_i x y z hx hy hz
      injection h with h; subst h
      obtain ⟨c1, h1, h2⟩ := run_resOne H hx
      obtain ⟨c2, h3, h4⟩ := run_resOne H hy
      obtain ⟨c3, h5, h6⟩ := run_resOne H hz
      refine ⟨.tuple #[c1, c2, c3], ?_, .tup _ _ rfl (fun i x y e1 e2 => ?_)⟩
      · rw [results_eq, hrs]; simp [h1, h3, h5]
      · match i with
        | 0 => simp at e1 e2; subst e1; subst e2; exact h2
        | 1 => simp at e1 e2; subst e1; subst e2; exact h4
        | 2 => simp at e1 e2; subst e1; subst e2; exact h6
        | i + 3 => simp at e1
    · cases h
  · injection h with h; subst h
    exact ⟨.tuple #[], by simp [results, hrs], .tup _ _ rfl (fun i x y e1 e2 => by simp at e1)⟩
  · cases h

/-- The state at a call's begin. -/
def updL (f : Nat → V) (k : Nat) : List V → Nat → V
  | [] => f
  | x :: xs => updL (upd f k x) (k + 1) xs
theorem updL_nil (f : Nat → V) (k : Nat) : updL f k [] = f := (rfl)
theorem updL_cons (f : Nat → V) (k : Nat) (x : V) (xs : List V) : updL f k (x :: xs) = updL (upd f k x) (k + 1) xs := (rfl)
theorem updL_at (xs : List V) : ∀ (f : Nat → V) (k i : Nat), updL f k xs i = if k ≤ i ∧ i < k + xs.length then (xs[i - k]?).getD .undef else f i := by
  induction xs with
  | nil => intro f k i; rw [updL_nil, if_neg (by simp)]
  | cons x xs ih =>
    intro f k i
    rw [updL_cons, ih]
    by_cases h1 : i = k
    · subst h1; rw [if_neg (by omega), if_pos (by simp), upd_same]; simp
    · by_cases h2 : k ≤ i ∧ i < k + (xs.length + 1)
      · rw [if_pos (by omega), if_pos (by simpa using h2)]
        have : i - k = (i - (k + 1)) + 1 := by omega
        rw [this, List.getElem?_cons_succ]
      · rw [if_neg (by omega), if_neg (by simpa using h2), upd_ne _ _ _ h1]

theorem init_rel {g : Gh} {w : World} {xs : List V} {vs : Array Value} (hvs : RVs g xs vs) {nt : Nat} (hxs : xs.length ≤ nt) {h : Nat → Option Blk} {nx : Nat} (hc : E.c.nt = nt) (hrl : E.c.rl = none)
    (hm : Mem E g h nx w) : Rel E g ⟨updL (fun _ => .undef) 0 xs, h, nx, []⟩ { tmps := vs ++ Array.replicate (nt - vs.size) undef, defers := [] } w := by
  have hsz : vs.size ≤ nt := by rw [← hvs.1]; exact hxs
  refine ⟨fun i => ?_, by rw [hc]; simp; omega, ⟨rfl, fun i d x h => by simp at h⟩, fun L hL => (by rw [hrl] at hL; cases hL), hm⟩
  simp only [updL_at, Nat.zero_le, true_and, Nat.zero_add, Nat.sub_zero]
  by_cases hi : i < xs.length
  · have hi' : i < vs.size := by rw [← hvs.1]; exact hi
    have e : (vs ++ Array.replicate (nt - vs.size) undef).getD i undef = vs[i] := by
      simp only [Array.getD]; rw [dif_pos (by simp; omega)]; simp [hi']
    rw [e, if_pos hi]
    simp only [List.getElem?_eq_getElem hi, Option.getD_some]
    exact hvs.2 i _ _ (List.getElem?_eq_getElem hi) (by simp [hi'])
  · rw [if_neg hi]
    exact .undef _

/-- A block that nobody knows turns. -/
theorem Mem.setFree {g : Gh} {h : Nat → Option Blk} {nx : Nat} {w : World} (H : Mem E g h nx w) {cb : Nat} {o : Obj} {w' : World} (hlo : E.w0.heap.size ≤ cb) (hw : ObjSet w w' cb o)
    (hfree : ∀ b x, h b = some x → blkOf g b x ≠ some cb) (hz : ∀ k, g.fz cb k = none) : Mem E g h nx w' := by
  refine ⟨⟨hw.os.trans H.keep.os, hw.tape.trans H.keep.tape, hw.output.trans H.keep.output, by rw [hw.size]; exact H.keep.size, fun k hk => ?_⟩, ?_, H.fz0, H.fzN, ?_, H.inj, H.new, ?_, H.l0, H.le0, H.n0, H.gl⟩
  · rw [hw.other k (by omega)]; exact H.keep.block k hk
  · intro b o v hf
    have e : b ≠ cb := fun e => by subst e; rw [hz o] at hf; cases hf
    rw [cell_of_heap (hw.other b e)]; exact H.fz b o v hf
  · intro b x hb
    exact (H.blk b x hb).move (fun _ _ h => h) id (fun _ => rfl) (fun hr => by subst hr; exact (H.rsv b hb).1) (fun c hc => ⟨hw.other c (fun e => by subst e; exact hfree b x hb hc), fun _ h => h⟩)
  · intro b c hc; rw [hw.size]; exact H.mlt b c hc

/-- The blocks for deferred calls stand, none twice. -/
def dsOk (s : St) : Prop := s.ds.Nodup ∧ ∀ d, d ∈ s.ds → s.h d = some .dfr

/-- The marks are taken up, one by one. -/
theorem leaves_marks {g : Gh} {nx : Nat} {fn : Func} {tmps : Array Value} {R : Ending → World → Prop} : ∀ (ds : List Nat) (l : List Deferred) (h : Nat → Option Blk) (w : World), Mem E g h nx w → ds.Nodup → (∀ d, d ∈ ds → h d = some .dfr) →
    (l.length = ds.length ∧ ∀ (i : Nat) d x, ds[i]? = some d → l[i]? = some x → ∃ k, g.m d = some k ∧ x.target = .collected k) →
    (∀ w', Mem E g (fun b => if b ∈ ds then none else h b) nx w' → LeavesInM (Fw E) 0 P fn tmps R [] .returning w') → LeavesInM (Fw E) 0 P fn tmps R l .returning w := by
  intro ds
  induction ds with
  | nil =>
    intro l h w H _ _ hl hk
    have : l = [] := List.length_eq_zero_iff.1 hl.1
    subst this
    exact hk w (by simpa using H)
  | cons d ds ih =>
    intro l h w H hn hd hl hk
    cases l with
    | nil => cases hl.1
    | cons x l =>
      obtain ⟨k, hk1, hk2⟩ := hl.2 0 d x rfl rfl
      rw [List.nodup_cons] at hn
      have hdd := hd d (by simp)
      obtain ⟨cb, o, hcb, ho, hdf⟩ := H.obj hdd rfl (fun cs e => by cases e)
      rw [hk1] at hcb; injection hcb with hcb; subst hcb
      have ho' : o = .deferred (some []) := hdf
      subst ho'
      have H2 := (H.drop d).setFree (H.blk_own hdd hk1) (putObj_set (o' := .deferred none) ho) (fun b y hb hc => by
        by_cases e : b = d
        · subst e; rw [upd_same] at hb; cases hb
        · rw [upd_ne _ _ _ e] at hb; exact e (H.inj b d _ _ k hb hdd hc hk1)) (H.fz_obj ho (fun c T f e => by cases e))
      refine ⟨by simp, .inl ⟨k, _, hk2, run_takeDeferred ho, ?_⟩⟩
      refine ih l _ _ H2 hn.2 (fun d' hd' => ?_) ⟨by simpa using hl.1, fun i d' x' h1 h2 => hl.2 (i + 1) d' x' (by simpa using h1) (by simpa using h2)⟩ (fun w' Hw => hk w' ?_)
      · rw [upd_ne _ _ _ (fun e => by subst e; exact hn.1 hd')]; exact hd d' (by simp [hd'])
      · have : (fun b => if b ∈ d :: ds then none else h b) = fun b => if b ∈ ds then none else upd h d none b := by
          funext b
          by_cases e : b = d
          · subst e; simp [upd_same]
          · simp [e, upd_ne _ _ _ e]
        rw [this]; exact Hw

theorem gone_mask {s : St} (hd : dsOk s) {h1 : Nat → Option Blk} (b : Nat) (cs : List V) (hg : goneV s.h h1 b = some cs) : goneV (fun b => if b ∈ s.ds then none else s.h b) h1 b = some cs := by
  unfold goneV at *
  by_cases hb : b ∈ s.ds
  · rw [hd.2 b hb] at hg; split at hg <;> first | (rename_i h2; cases h2; done) | (cases hg; done)
  · simp only [if_neg hb]; exact hg

/-- What is owed at a function's end. -/
def retQ (P : Program) (rs : List ResultVar) (R : V → Prop) : Exit → St → Prop
  | .normal, s | .ret, s => (∃ r, resV P s rs = some r ∧ D (finV s.h (fun _ => none) r) ∧ R (finV s.h (fun _ => none) r)) ∧ dsOk s
  | _, _ => False

theorem resV_sub {s : St} {h : Nat → Option Blk} (hs : ∀ {b cs}, s.h b = some (.cells cs) → h b = some (.cells cs)) {rs : List ResultVar} {v : V} (hv : resV P s rs = some v) : resV P { s with h := h } rs = some v := by
  have one : ∀ r v, resOne P s r = some v → resOne P { s with h := h } r = some v := by
    intro r v hv
    cases r with
    | tmp t => exact hv
    | cell i t => exact loadV_keep (s' := { s with h := h }) (fun b o _ cs hc => hs hc) hv
  unfold resV at hv ⊢
  split at hv
  · exact one _ _ hv
  · split at hv
    · rename_i h1 h2; rw [one _ _ h1, one _ _ h2]; exact hv
    · cases hv
  · split at hv
    · rename_i h1 h2 h3; rw [one _ _ h1, one _ _ h2, one _ _ h3]; exact hv
    · cases hv
  · exact hv
  · cases hv

/-- A function's end. -/
theorem leave_of {s : St} {g : Gh} {a : Act} {w : World} (H : Rel E g s a w) (hd : dsOk s) {fn : Func} {rs : List ResultVar} (hrs : fn.results = rs.toArray) {v : V} (hv : resV P s rs = some v) {R : Ending → World → Prop}
    (hR : ∀ cv w', Mem E g (fun b => if b ∈ s.ds then none else s.h b) s.nx w' → RV g v cv → R (.returned cv) w') : LeavesInM (Fw E) 0 P fn a.tmps R a.defers .returning w := by
  refine leaves_marks s.ds a.defers s.h w H.mem hd.1 hd.2 H.defers fun w' Hw => ?_
  have hm2 := H.mem
  have hsub : ∀ {b cs}, s.h b = some (.cells cs) → (fun b => if b ∈ s.ds then none else s.h b) b = some (.cells cs) := fun {b cs} hb => by
    show (if b ∈ s.ds then none else s.h b) = _
    rw [if_neg (fun e => by rw [hd.2 b e] at hb; cases hb)]; exact hb
  have H2 : Rel E g { s with h := fun b => if b ∈ s.ds then none else s.h b } a w' := ⟨H.tmps, H.size, H.defers, H.rl, Hw⟩
  obtain ⟨cv, hr, hrv⟩ := run_resV H2 hrs (resV_sub (fun {b cs} hb => hsub hb) hv)
  exact ⟨cv, hr, hR cv w' Hw hrv⟩

theorem FnR.intro (hm : P.follows .mixedOrders = true) {gl : Nat → V} {f : FuncId} {fn : Func} {c : Code} {xs : List V} {R : V → Prop} (hf : P.funcs[f]? = some fn) (hb : fn.body = some c)
    (hn : (fn.name == "runtime.NumGoroutine") = false) {nt : Nat} (hnt : fn.ntmps = nt) (hxs : xs.length ≤ nt) {rs : List ResultVar} (hrs : fn.results = rs.toArray) (hk : codeOk nt c = true)
    (h : WC P ⟨gl, none, nt, 0, fun _ => none⟩ c ⟨updL (fun _ => .undef) 0 xs, fun _ => none, 0, []⟩ (retQ P rs R)) : FnR P gl f xs R := by
  obtain ⟨e, s', hQ, hW⟩ := WC.exact _ _ _ h
  have main : ∀ r0, resV P s' rs = some r0 → D (finV s'.h (fun _ => none) r0) → dsOk s' → (e = .normal ∨ e = .ret) → FnP P gl f xs (finV s'.h (fun _ => none) r0) := by
    intro r0 hr0 hD hds he
    refine ⟨enter_of hf (by rw [hb]; rfl) hn, hD, fun fz w vs hfz hgl hvs => ?_⟩
    let E : Env := { w0 := w, fz0 := fz, c := ⟨gl, none, nt, 0, fun _ => none⟩, l := 0, g0 := gd fz, hds := fun b x h => by cases h }
    have H0 : Mem E (gd fz) (fun _ => none) 0 w :=
      ⟨⟨rfl, rfl, rfl, Nat.le_refl _, fun _ _ => rfl⟩, hfz, fun _ _ _ h => h, fun _ _ _ h => .inl h, fun b x hb => (by cases hb), fun b b' x x' cb hb => (by cases hb), fun b _ => ⟨rfl, rfl, fun _ => rfl⟩, fun b cb hb => (by cases hb),
        fun b => rfl, Gh.Le.refl _, ⟨Nat.le_refl _, fun b _ => ⟨rfl, fun _ => rfl⟩⟩, hgl⟩
    have H := init_rel (E := E) hvs hxs (h := fun _ => none) (nx := 0) rfl rfl H0
    have key : CallsIn Fence.wide 0 P f vs w (FnPost fz w (finV s'.h (fun _ => none) r0)) := ?_
    exact callsIn_wide.1 key
    refine callsIn_of_wp_marks hf hb trivial ?_
    rw [hnt]
    refine wpIn_mono (WC.sound (E := E) hm c _ _ hk hW (gd fz) _ w H) ?_
    rintro e1 a1 w1 ⟨g1, s1, H1, he1, hs1⟩
    subst he1; subst hs1
    have fin : LeavesInM (Fw E) 0 P fn a1.tmps (FnPost fz w (finV s1.h (fun _ => none) r0)) a1.defers .returning w1 := by
      refine leave_of H1 hds hrs hr0 fun cv w2 Hm hrv => ?_
      have hno : ∀ {b : Nat} {x : Blk}, (fun _ => none : Nat → Option Blk) b = some x → (fun b => if b ∈ s1.ds then none else s1.h b) b = some x := fun h => by cases h
      have H3 := Hm.frzBut (h1 := fun _ => none) hno
      have hrv2 : RV (g1.frzBut (fun _ => none) w.heap.size w2) (finV s1.h (fun _ => none) r0) cv := by
        exact RV.fin0 Hm hno (gone_mask hds) hrv
      refine ⟨cv, (g1.frzBut (fun _ => none) w.heap.size w2).fz, rfl, hrv2.gdata hD, ⟨H3.fz0, fun b o v hf => H3.fzN b o v hf⟩, H3.fz, ⟨H3.keep.os, H3.keep.tape, H3.keep.output, H3.keep.size, H3.keep.block⟩⟩
    cases e1 with
    | normal => exact fin
    | ret => exact fin
    | _ => rcases he with h | h <;> cases h
  cases e with
  | normal => obtain ⟨⟨r, h1, h2, h3⟩, h4⟩ := hQ; exact ⟨_, h3, main r h1 h2 h4 (.inl rfl)⟩
  | ret => obtain ⟨⟨r, h1, h2, h3⟩, h4⟩ := hQ; exact ⟨_, h3, main r h1 h2 h4 (.inr rfl)⟩
  | _ => exact hQ.elim

/-- What is kept of the abstract memory. -/
def kept (s : St) (h' : Nat → Option Blk) : Nat → Option Blk := fun b => match h' b with | some _ => s.h b | none => none

/-- What is owed at the end of a function that works on its caller's memory. -/
def retH (P : Program) (rs : List ResultVar) (h : Nat → Option Blk) (r : V) (h' : Nat → Option Blk) (nx' : Nat) : Exit → St → Prop
  | .normal, s | .ret, s => dsOk s ∧ (∃ v, resV P s rs = some v ∧ finV s.h (kept s h') v = r) ∧ DS (fun b => b < nx') r ∧
      ∀ b x', h' b = some x' → b < nx' ∧ b ∉ s.ds ∧ ∃ x, s.h b = some x ∧ (x' = x ∨ x' = finB s.h (kept s h') x) ∧ (BlkDS (fun k => k < nx') x' ∨ OldB h b x')
  | _, _ => False

theorem FnH.intro (hm : P.follows .mixedOrders = true) {gl : Nat → V} {f : FuncId} {fn : Func} {c : Code} {xs : List V} (hf : P.funcs[f]? = some fn) (hb : fn.body = some c)
    (hn : (fn.name == "runtime.NumGoroutine") = false) {nt : Nat} (hnt : fn.ntmps = nt) (hxs : xs.length ≤ nt) {rs : List ResultVar} (hrs : fn.results = rs.toArray) (hk : codeOk nt c = true)
    {h : Nat → Option Blk} {nx : Nat} {r : V} {h' : Nat → Option Blk} {nx' : Nat} (hnx : nx ≤ nx')
    (hW : (∀ b, nx ≤ b → h b = none) → WC P ⟨gl, none, nt, nx, h⟩ c ⟨updL (fun _ => .undef) 0 xs, h, nx, []⟩ (retH P rs h r h' nx')) : FnH P gl f xs h nx r h' nx' := by
  refine ⟨enter_of hf (by rw [hb]; rfl) hn, fun E g w vs hgl H hvs => ?_⟩
  subst hgl
  let E' : Env := { w0 := E.w0, fz0 := E.fz0, c := ⟨E.c.gl, none, nt, nx, h⟩, l := 0, g0 := g, hds := fun b x hb => H.blkDS hb }
  have H0 : Mem E' g h nx w := H.env rfl rfl rfl (Gh.Le.refl g) ⟨Nat.le_refl _, fun b hb => (H.new b hb).2⟩
  have HR := init_rel (E := E') hvs hxs (h := h) (nx := nx) rfl rfl H0
  have key : CallsIn Fence.wide 0 P f vs w (fun e w' => ∃ v g', e = .returned v ∧ Gh.Le g g' ∧ Mem E g' h' nx' w' ∧ RV g' r v) := ?_
  exact callsIn_wide.1 key
  refine callsIn_of_wp_marks hf hb trivial ?_
  rw [hnt]
  refine wpIn_mono (WC.sound (E := E') hm c _ _ hk (hW fun b hb => (H.new b hb).1) g _ w HR) ?_
  rintro e1 a1 w1 ⟨g1, s1, H1, hq⟩
  have fin : (dsOk s1 ∧ (∃ v, resV P s1 rs = some v ∧ finV s1.h (kept s1 h') v = r) ∧ DS (fun b => b < nx') r ∧
      ∀ b x', h' b = some x' → b < nx' ∧ b ∉ s1.ds ∧ ∃ x, s1.h b = some x ∧ (x' = x ∨ x' = finB s1.h (kept s1 h') x) ∧ (BlkDS (fun k => k < nx') x' ∨ OldB h b x')) →
      LeavesInM (Fw E') 0 P fn a1.tmps (fun e w' => ∃ v g', e = .returned v ∧ Gh.Le g g' ∧ Mem E g' h' nx' w' ∧ RV g' r v) a1.defers .returning w1 := by
    rintro ⟨hds, ⟨v, hv, hfin⟩, hdr, hkeep⟩
    refine leave_of H1 hds hrs hv fun cv w2 Hm hrv => ?_
    have hsub : ∀ {b x}, kept s1 h' b = some x → (fun b => if b ∈ s1.ds then none else s1.h b) b = some x := by
      intro b x hx
      unfold kept at hx
      split at hx
      · rename_i y hy
        obtain ⟨_, hbd, z, hz, hzz, _⟩ := hkeep b y hy
        show (if b ∈ s1.ds then none else s1.h b) = _
        rw [if_neg hbd]; exact hx
      · cases hx
    classical
    have H3 := Hm.finB (h1 := kept s1 h') (h0 := s1.h) hsub (gone_mask hds) (fun b => !decide (h' b = kept s1 h' b))
    have hnewh : finH s1.h (kept s1 h') (fun b => !decide (h' b = kept s1 h' b)) = h' := by
      funext b
      cases hb' : h' b with
      | none => exact finH_none (by simp only [kept, hb'])
      | some x' =>
        obtain ⟨_, _, x, hx, hxx, _⟩ := hkeep b x' hb'
        have hkx : kept s1 h' b = some x := by simp only [kept, hb', hx]
        rw [finH_some hkx, hkx, hb']
        by_cases e : x' = x
        · subst e; simp
        · have hne : ¬ (some x' = some x) := fun h => e (by injection h)
          rw [decide_eq_false hne, ← hxx.resolve_left e]; rfl
    rw [hnewh] at H3
    have hmono : ∀ k, k < nx → k < nx' := fun k hk => Nat.lt_of_lt_of_le hk hnx
    have H4 := H3.cutTo (h1 := h') (n := nx') hnx (fun b x' hb' => by
      obtain ⟨hlt, _, x, hx, _, hd⟩ := hkeep b x' hb'
      refine ⟨hb', hlt, hd.elim id fun h0 => ?_⟩
      obtain ⟨x0, h4, h5⟩ := h0
      exact h5 _ ((H.blkDS h4).mono hmono))
    have hrv2 := RV.fin0 (h0 := s1.h) (h1 := kept s1 h') Hm hsub (gone_mask hds) hrv
    rw [hfin] at hrv2
    refine ⟨cv, _, rfl, H4.le0, H4.env rfl rfl rfl (H.le0.trans H4.le0) ⟨Nat.le_trans H.n0.1 hnx, H.n0.2⟩, hrv2.cut H3.l0 hdr⟩
  cases e1 with
  | normal => exact fin hq
  | ret => exact fin hq
  | _ => exact hq.elim

end Go.Proofs.YtkelfbakcpidjaaGreatDoor
