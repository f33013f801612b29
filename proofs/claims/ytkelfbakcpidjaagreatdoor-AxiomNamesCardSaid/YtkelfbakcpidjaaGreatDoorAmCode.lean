/- Code run on abstract states. -/
import Derived.Test.YtkelfbakcpidjaaGreatDoorAmDraw
import Derived.Sort.LoopGhostIn
set_option linter.unusedVariables false
set_option linter.unusedSimpArgs false
namespace Go.Proofs.YtkelfbakcpidjaaGreatDoor
open Go.RowKit
variable {P : Program} {E : Env} {C : Ctx} {ops : Array Oper} {o : Oper} {l : List Oper} {s : St} {Q : Exit → St → Prop}

/-- Code on an abstract state, in a frame. -/
def Tr (P : Program) (E : Env) (c : Code) (s : St) (Q : Exit → St → Prop) : Prop := ∀ g a w, Rel E g s a w → c.wpIn (Fw E) 0 P (cQ E Q) a w

theorem Tr.skip (h : Q .normal s) : Tr P E .skip s Q := fun g a w H => wpIn_skip ⟨g, s, H, h⟩
theorem Tr.exit {id : Nat} (h : Q (.exit id) s) : Tr P E (.exit id) s Q := fun g a w H => wpIn_exit ⟨g, s, H, h⟩
theorem Tr.ret (h : Q .ret s) : Tr P E .ret s Q := fun g a w H => wpIn_ret ⟨g, s, H, h⟩
theorem Tr.mono {c : Code} {Q' : Exit → St → Prop} (h : Tr P E c s Q) (hq : ∀ e s, Q e s → Q' e s) : Tr P E c s Q' :=
  fun g a w H => wpIn_mono (h g a w H) fun e a w ⟨g, s, H, q⟩ => ⟨g, s, H, hq e s q⟩

/-- What follows a normal end. -/
def thenQ (P : Program) (E : Env) (b : Code) (Q : Exit → St → Prop) : Exit → St → Prop
  | .normal, s => Tr P E b s Q
  | e, s => Q e s
theorem Tr.seq {a b : Code} (h : Tr P E a s (thenQ P E b Q)) : Tr P E (.seq a b) s Q := fun g act w H => wpIn_seq (wpIn_mono (h g act w H) fun e a' w' ⟨g', s', H', q⟩ => by
  cases e with
  | normal => exact q g' a' w' H'
  | _ => exact ⟨g', s', H', q⟩)
def blockQ (id : Nat) (Q : Exit → St → Prop) : Exit → St → Prop
  | .exit id', s => if id' = id then Q .normal s else Q (.exit id') s
  | e, s => Q e s
theorem Tr.block {id : Nat} {c : Code} (h : Tr P E c s (blockQ id Q)) : Tr P E (.block id c) s Q := fun g a w H => wpIn_block (wpIn_mono (h g a w H) fun e a' w' ⟨g', s', H', q⟩ => by
  cases e with
  | exit id' =>
    simp only [Exit.inBlock, blockQ] at q ⊢
    split
    · rename_i e; rw [if_pos e] at q; exact ⟨g', s', H', q⟩
    · rename_i e; rw [if_neg e] at q; exact ⟨g', s', H', q⟩
  | _ => exact ⟨g', s', H', q⟩)
theorem Tr.cond {x : Operand} {a b : Code} {t : Bool} (hx : s.ev E.c x = .lit (.bool t)) (h1 : t = true → Tr P E a s Q) (h2 : t = false → Tr P E b s Q) : Tr P E (.cond x a b) s Q := by
  intro g act w H
  have hr := H.ev x
  rw [hx] at hr
  generalize he : act.eval x = q at hr
  cases hr
  exact wpIn_cond_split he (fun e => h1 e g act w H) (fun e => h2 e g act w H)
theorem Tr.region {id : Nat} {l : List Oper} (h : TrL P E l.toArray l s Q) : Tr P E (.region id l.toArray false) s Q := fun g a w H => wpIn_region_lit (h g a w H)

/-- Of an abstract state less is known. -/
structure St.Cut (C : Ctx) (s s1 : St) : Prop where
  n0 : C.n0 ≤ s1.nx
  h : ∀ b x, s1.h b = some x → s.h b = some x ∧ b < s1.nx ∧ (BlkDS (fun k => k < s1.nx) x ∨ OldB C.h0 b x)
  t : ∀ i, s1.t i = .undef ∨ ((s1.t i = s.t i ∨ s1.t i = strip (s.t i)) ∧ DS (fun k => k < s1.nx) (s1.t i))
  ds : s1.ds = s.ds ∧ ∀ d, d ∈ s.ds → d < s1.nx
  rl : ∀ L, C.rl = some L → L < s1.nx

theorem Rel.cut {g : Gh} {a : Act} {w : World} (H : Rel E g s a w) {s1 : St} (hc : St.Cut E.c s s1) : Rel E (g.cut s1.nx) s1 a w := by
  have hz := H.mem.l0
  refine ⟨fun i => ?_, H.size, ⟨by rw [hc.ds.1]; exact H.defers.1, fun i d x h1 h2 => ?_⟩, fun L hL => ?_, H.mem.cutTo hc.n0 fun b x hb => ?_⟩
  · rcases hc.t i with h | ⟨h | h, hd⟩
    · rw [h]; exact .undef _
    · rw [h] at hd ⊢; exact (H.tmps i).cut hz hd
    · rw [h] at hd ⊢; exact (H.tmps i).strip.cut hz hd
  · rw [hc.ds.1] at h1
    obtain ⟨k, h3, h4⟩ := H.defers.2 i d x h1 h2
    exact ⟨k, by rw [Gh.cut_m (hc.ds.2 d (List.mem_of_getElem? h1))]; exact h3, h4⟩
  · rw [Gh.cut_m (hc.rl L hL)]; exact H.rl L hL
  · obtain ⟨h1, h2, h3⟩ := hc.h b x hb
    refine ⟨h1, h2, h3.elim id fun h => ?_⟩
    obtain ⟨x0, h4, h5⟩ := h
    exact h5 _ ((E.hds b x0 h4).mono fun k hk => Nat.lt_of_lt_of_le hk hc.n0)

/-- A loop: I n holds at each round's head; every round lowers n. -/
structure Next (C : Ctx) (I : Nat → St → Prop) (n : Nat) (s : St) : Prop where
  ex : ∃ n' s1, n' < n ∧ (s1 = s ∨ St.Cut C s s1) ∧ I n' s1
def loopQ (C : Ctx) (I : Nat → St → Prop) (n : Nat) (Q : Exit → St → Prop) : Exit → St → Prop
  | .normal, s => Next C I n s
  | e, s => Q e s
theorem Next.same {I : Nat → St → Prop} {n : Nat} (n' : Nat) (h : n' < n) (h2 : I n' s) : Next C I n s := ⟨n', s, h, .inl rfl, h2⟩
theorem Next.cut {I : Nat → St → Prop} {n : Nat} (n' : Nat) (s1 : St) (h : n' < n) (hc : St.Cut C s s1) (h2 : I n' s1) : Next C I n s := ⟨n', s1, h, .inr hc, h2⟩
theorem Tr.loop {c : Code} (I : Nat → St → Prop) (n0 : Nat) (h0 : I n0 s) (round : ∀ n s, I n s → Tr P E c s (loopQ E.c I n Q)) : Tr P E (.loop c) s Q := by
  intro g a w H
  refine wpIn_loop_ghost (fun n a w => ∃ g s, Rel E g s a w ∧ I n s) n0 ⟨g, s, H, h0⟩ ?_
  rintro n a w ⟨g, s, H, hI⟩
  refine wpIn_mono (round n s hI g a w H) fun e a' w' ⟨g', s', H', q⟩ => ?_
  cases e with
  | normal =>
    obtain ⟨n', s1, h1, h2, h3⟩ := q.ex
    rcases h2 with rfl | h2
    · exact ⟨n', h1, g', _, H', h3⟩
    · exact ⟨n', h1, _, s1, H'.cut h2, h3⟩
  | _ => exact ⟨g', s', H', q⟩

/-- The jump that is pending behind a range over a function. -/
def afterW (pe : Option Code) (s : St) (Q : Exit → St → Prop) : Prop :=
  match pe with
  | none => Q .normal s
  | some .ret => Q .ret s
  | some (.exit id) => Q (.exit id) s
  | _ => False

/-- A range over a function. -/
structure RangeW (P : Program) (C : Ctx) (x : Operand) (ps : Array Tmp) (as bo : Code) (s : St) (Q : Exit → St → Prop) : Prop where
  ex : (C.rl = none ∧ ∃ f cap r h' nx' st pe, calleeV (s.ev C x) = some (f, cap) ∧
      FnH P C.gl f (.yld (s.nx + 1) :: cap) (upd (upd s.h s.nx (some .dfr)) (s.nx + 1) (some (.loop .ready none s.t C.nt ps as bo s.nx))) (s.nx + 2) r h' nx' ∧
      h' (s.nx + 1) = some (.loop st pe s.t C.nt ps as bo s.nx) ∧ st ≠ .busy ∧ afterW pe ⟨s.t, upd h' (s.nx + 1) none, nx', s.nx :: s.ds⟩ Q) ∨
    (∃ L0, C.rl = some L0 ∧ ∃ st0 pe0 tm0 nt0 ps0 as0 bo0 df0, s.h L0 = some (.loop st0 pe0 tm0 nt0 ps0 as0 bo0 df0) ∧ ∃ f cap r h' nx' st pe, calleeV (s.ev C x) = some (f, cap) ∧
      FnH P C.gl f (.yld s.nx :: cap) (upd s.h s.nx (some (.loop .ready none s.t C.nt ps as bo df0))) (s.nx + 1) r h' nx' ∧
      h' s.nx = some (.loop st pe s.t C.nt ps as bo df0) ∧ st ≠ .busy ∧ afterW pe ⟨s.t, upd h' s.nx none, nx', s.ds⟩ Q)

theorem after_some {c : Code} {s : St} (h : afterW (some c) s Q) {g : Gh} {a : Act} {w : World} (H : Rel E g s a w) : c.wpIn (Fw E) 0 P (cQ E Q) a w := by
  cases c with
  | ret => exact wpIn_ret ⟨g, s, H, h⟩
  | exit id => exact wpIn_exit ⟨g, s, H, h⟩
  | _ => exact h.elim

/-- The value of a call of a function value. -/
theorem call_clo {x : Operand} {f : FuncId} {cap : List V} (hf : calleeV (s.ev E.c x) = some (f, cap)) {g : Gh} {a : Act} {w : World} (H : Rel E g s a w) :
    ∃ vc, a.eval x = .func (.func f) #[] vc ∧ RVs g cap vc := by
  have hcf := H.ev x
  unfold calleeV at hf
  generalize a.eval x = q at hcf ⊢
  split at hf
  · rename_i f' cap' hq
    simp only [Option.some.injEq, Prod.mk.injEq] at hf
    obtain ⟨rfl, rfl⟩ := hf
    rw [hq] at hcf
    cases hcf with
    | clo _ _ _ va vb hla hlb ha hb =>
      have : va = #[] := by apply Array.eq_empty_of_size_eq_zero; simpa using hla.symm
      subst this
      exact ⟨vb, rfl, hlb, hb⟩
  · cases hf

theorem run_enterLoop_inner {P : Program} {w : World} (fn : FuncId) (tmps : Array Value) (ps : Array Tmp) (assign body : Code) {l : Nat} {r : Loop} (h : w.heap[l]? = some (.loop r)) :
    (Instr.enterLoop fn tmps ps assign body (some l)).run P w =
      .ok (w.heap.size, []) (w.alloc (.loop { state := .ready, pending := none, fn, tmps, params := ps, assign, body, defers := r.defers })) := by
  unfold Instr.enterLoop
  simp only [Sem.run_bind, run_getLoop h, run_newObj_alloc, Result.andThen, Sem.run_pure]

theorem Tr.rangeFunc {x : Operand} {ps : Array Tmp} {as bo : Code} (h : RangeW P E.c x ps as bo s Q) : Tr P E (.rangeFunc x ps as bo) s Q := by
  intro g a w H
  refine wpIn_rangeFunc fun fn _ => ?_
  rcases h.ex with ⟨hrl, f, cap, r, h', nx', st, pe, hf, hF, hL, hst, hQ⟩ | ⟨L0, hrl, st0, pe0, tm0, nt0, ps0, as0, bo0, df0, hL0, f, cap, r, h', nx', st, pe, hf, hF, hL, hst, hQ⟩
  · obtain ⟨vc, hev, hvc⟩ := call_clo hf H
    have hro : (Fw E).round = none := by show E.c.rl.map _ = none; rw [hrl]; rfl
    have hm1 := H.mem.allocObj (nb := s.nx) (.inl rfl) (x := .dfr) (o := .deferred (some [])) rfl
    rw [nextNo_same] at hm1
    have le1 : Gh.Le g (g.new s.nx w.heap.size) := Gh.new_le H.mem.nx_m
    have hsz1 : (w.alloc (.deferred (some []))).heap.size = w.heap.size + 1 := World.size_alloc _ _
    have hm2 := hm1.allocObj (nb := s.nx + 1) (.inl rfl) (x := .loop .ready none s.t E.c.nt ps as bo s.nx)
      (o := .loop { state := .ready, pending := none, fn, tmps := a.tmps, params := ps, assign := as, body := bo, defers := w.heap.size })
      ⟨_, rfl, rfl, rfl, fun i => le1.rv (H.tmps i), H.size, rfl, rfl, rfl, upd_same _ _ _⟩
    rw [nextNo_same, hsz1] at hm2
    have le2 := le1.trans (Gh.new_le (g := g.new s.nx w.heap.size) (b := s.nx + 1) (cb := w.heap.size + 1) hm1.nx_m)
    obtain ⟨W1, hW1⟩ : ∃ W1, (w.alloc (.deferred (some []))).alloc (.loop { state := .ready, pending := none, fn, tmps := a.tmps, params := ps, assign := as, body := bo, defers := w.heap.size }) = W1 := ⟨_, rfl⟩
    rw [hW1] at hm2
    refine ⟨w.heap.size + 1, [{ target := .collected w.heap.size, args := #[] }], W1, { target := .fn (.func f) vc, args := #[.func (.yield (w.heap.size + 1)) #[] #[]] }, W1, f,
      #[.func (.yield (w.heap.size + 1)) #[] #[]] ++ vc, W1, by rw [hro, ← hW1]; exact run_enterLoop_outer _ _ _ _ _, ?_, fun _ _ => trivial, ?_, fun h => (by cases h), calls_Fw ?_⟩
    · simp only [resolve, hev]
      simp [Deferred.ofValue, Act.eval]
    · simp only [invoke]; exact hF.enter _ _
    · have hvs : RVs ((g.new s.nx w.heap.size).new (s.nx + 1) (w.heap.size + 1)) (.yld (s.nx + 1) :: cap) (#[.func (.yield (w.heap.size + 1)) #[] #[]] ++ vc) := by
        refine ⟨by simp [hvc.1]; omega, fun i x y h1 h2 => ?_⟩
        cases i with
        | zero =>
          rw [Array.getElem?_append_left (by simp)] at h2
          simp at h1 h2; subst h1; subst h2
          exact .yld _ _ (upd_same _ _ _)
        | succ i =>
          rw [List.getElem?_cons_succ] at h1
          rw [Array.getElem?_append_right (by simp)] at h2
          exact le2.rv (hvc.2 i x y h1 (by simpa using h2))
      refine (hF.run E _ _ _ rfl hm2 hvs).mono ?_
      rintro e w3 ⟨v, g3, rfl, le3, hm3, _⟩
      obtain ⟨cb, ob, hcb, hob, rec, rfl, hrec⟩ := hm3.obj hL rfl (fun cs e => by cases e)
      have hcb' := le3.m (s.nx + 1) (w.heap.size + 1) (upd_same _ _ _)
      rw [hcb] at hcb'; injection hcb' with hcb'; subst hcb'
      refine ⟨_, _, run_endLoop hob (by rw [hrec.state]; exact hst), ?_⟩
      have hm4 := (hm3.setObj hL hcb hob (x' := .loop .exhausted pe s.t E.c.nt ps as bo s.nx) ⟨rec, rfl, hrec⟩
        ⟨{ rec with state := .exhausted }, rfl, ⟨rfl, hrec.pending, hrec.tmps, hrec.size, hrec.ps, hrec.as, hrec.bo, hrec.df⟩⟩ (putObj_set hob)).drop (s.nx + 1)
      rw [upd_upd] at hm4
      have le := le2.trans le3
      have hdf : g3.m s.nx = some w.heap.size := le3.m _ _ (by
        show upd (upd g.m s.nx _) (s.nx + 1) _ s.nx = _
        rw [upd_ne _ _ _ (by omega), upd_same])
      have H5 : Rel E g3 ⟨s.t, upd h' (s.nx + 1) none, nx', s.nx :: s.ds⟩ { a with defers := [{ target := .collected w.heap.size, args := #[] }] ++ a.defers } (w3.putObj (w.heap.size + 1) (.loop { rec with state := .exhausted })) := by
        refine ⟨fun i => le.rv (H.tmps i), H.size, ⟨show a.defers.length + 1 = s.ds.length + 1 by rw [H.defers.1], fun i d x h1 h2 => ?_⟩, fun L hL => (by rw [hrl] at hL; cases hL), hm4⟩
        cases i with
        | zero => simp at h1 h2; subst h1; subst h2; exact ⟨_, hdf, rfl⟩
        | succ i =>
          obtain ⟨k, h3, h4⟩ := H.defers.2 i d x (by simpa using h1) (by simpa using h2)
          exact ⟨k, le.m _ _ h3, h4⟩
      generalize w3.putObj (w.heap.size + 1) (.loop { rec with state := .exhausted }) = W4 at H5 ⊢
      cases hpe : rec.pending with
      | none => rw [hrec.pending] at hpe; subst hpe; exact ⟨g3, _, H5, hQ⟩
      | some c => rw [hrec.pending] at hpe; subst hpe; exact after_some hQ H5
  · obtain ⟨vc, hev, hvc⟩ := call_clo hf H
    have hro : (Fw E).round = some E.l := by show E.c.rl.map _ = _; rw [hrl]; rfl
    obtain ⟨cb0, ob0, hcb0, hob0, rec0, rfl, hrec0⟩ := H.mem.obj hL0 rfl (fun cs e => by cases e)
    rw [H.rl L0 hrl] at hcb0; injection hcb0 with hcb0; subst hcb0
    have hm2 := H.mem.allocObj (nb := s.nx) (.inl rfl) (x := .loop .ready none s.t E.c.nt ps as bo df0)
      (o := .loop { state := .ready, pending := none, fn, tmps := a.tmps, params := ps, assign := as, body := bo, defers := rec0.defers })
      ⟨_, rfl, rfl, rfl, fun i => H.tmps i, H.size, rfl, rfl, rfl, hrec0.df⟩
    rw [nextNo_same] at hm2
    have le2 : Gh.Le g (g.new s.nx w.heap.size) := Gh.new_le H.mem.nx_m
    obtain ⟨W1, hW1⟩ : ∃ W1, w.alloc (.loop { state := .ready, pending := none, fn, tmps := a.tmps, params := ps, assign := as, body := bo, defers := rec0.defers }) = W1 := ⟨_, rfl⟩
    rw [hW1] at hm2
    refine ⟨w.heap.size, [], W1, { target := .fn (.func f) vc, args := #[.func (.yield w.heap.size) #[] #[]] }, W1, f,
      #[.func (.yield w.heap.size) #[] #[]] ++ vc, W1, by rw [hro, ← hW1]; exact run_enterLoop_inner _ _ _ _ _ hob0, ?_, fun _ _ => trivial, ?_, fun h => (by cases h), calls_Fw ?_⟩
    · simp only [resolve, hev]
      simp [Deferred.ofValue, Act.eval]
    · simp only [invoke]; exact hF.enter _ _
    · have hvs : RVs (g.new s.nx w.heap.size) (.yld s.nx :: cap) (#[.func (.yield w.heap.size) #[] #[]] ++ vc) := by
        refine ⟨by simp [hvc.1]; omega, fun i x y h1 h2 => ?_⟩
        cases i with
        | zero =>
          rw [Array.getElem?_append_left (by simp)] at h2
          simp at h1 h2; subst h1; subst h2
          exact .yld _ _ (upd_same _ _ _)
        | succ i =>
          rw [List.getElem?_cons_succ] at h1
          rw [Array.getElem?_append_right (by simp)] at h2
          exact le2.rv (hvc.2 i x y h1 (by simpa using h2))
      refine (hF.run E _ _ _ rfl hm2 hvs).mono ?_
      rintro e w3 ⟨v, g3, rfl, le3, hm3, _⟩
      obtain ⟨cb, ob, hcb, hob, rec, rfl, hrec⟩ := hm3.obj hL rfl (fun cs e => by cases e)
      have hcb' := le3.m s.nx w.heap.size (upd_same _ _ _)
      rw [hcb] at hcb'; injection hcb' with hcb'; subst hcb'
      refine ⟨_, _, run_endLoop hob (by rw [hrec.state]; exact hst), ?_⟩
      have hm4 := (hm3.setObj hL hcb hob (x' := .loop .exhausted pe s.t E.c.nt ps as bo df0) ⟨rec, rfl, hrec⟩
        ⟨{ rec with state := .exhausted }, rfl, ⟨rfl, hrec.pending, hrec.tmps, hrec.size, hrec.ps, hrec.as, hrec.bo, hrec.df⟩⟩ (putObj_set hob)).drop s.nx
      rw [upd_upd] at hm4
      have le := le2.trans le3
      have H5 : Rel E g3 ⟨s.t, upd h' s.nx none, nx', s.ds⟩ { a with defers := [] ++ a.defers } (w3.putObj w.heap.size (.loop { rec with state := .exhausted })) := by
        refine ⟨fun i => le.rv (H.tmps i), H.size, ⟨H.defers.1, fun i d x h1 h2 => ?_⟩, fun L hL => le.m _ _ (H.rl L hL), hm4⟩
        obtain ⟨k, h3, h4⟩ := H.defers.2 i d x h1 (by simpa using h2)
        exact ⟨k, le.m _ _ h3, h4⟩
      generalize w3.putObj w.heap.size (.loop { rec with state := .exhausted }) = W4 at H5 ⊢
      cases hpe : rec.pending with
      | none => rw [hrec.pending] at hpe; subst hpe; exact ⟨g3, _, H5, hQ⟩
      | some c => rw [hrec.pending] at hpe; subst hpe; exact after_some hQ H5

/-- Code, carried out on an abstract state as far as it can be reckoned. -/
def WC (P : Program) (C : Ctx) : Code → St → (Exit → St → Prop) → Prop
  | .skip, s, Q => Q .normal s
  | .region _ ops false, s, Q => WL none P C ops ops.toList s Q
  | .region _ ops true, s, Q => WL (some (s.nx, s.nx)) P C ops ops.toList { s with nx := s.nx + ops.toList.length } Q
  | .seq a b, s, Q => WC P C a s fun e s' => match e with
    | .normal => WC P C b s' Q
    | e => Q e s'
  | .cond x a b, s, Q => ∃ t, s.ev C x = .lit (.bool t) ∧ (t = true → WC P C a s Q) ∧ (t = false → WC P C b s Q)
  | .block id c, s, Q => WC P C c s (blockQ id Q)
  | .exit id, s, Q => Q (.exit id) s
  | .ret, s, Q => Q .ret s
  | .loop c, s, Q => ∃ (I : Nat → St → Prop) (n0 : Nat), I n0 s ∧ ∀ n s, I n s → WC P C c s (loopQ C I n Q)
  | .rangeFunc x ps as bo, s, Q => RangeW P C x ps as bo s Q
  | _, _, _ => False
@[congr] theorem WC_congr {c : Code} {s s' : St} {Q : Exit → St → Prop} (h : hid s = s') : WC P C c s Q = WC P C c s' Q := by rw [← h, hid_eq]

/-- A test that is not decided yet. -/
def CondW (P : Program) (C : Ctx) (v : V) (a b : Code) (s : St) (Q : Exit → St → Prop) : Prop := ∃ t, v = .lit (.bool t) ∧ (t = true → WC P C a s Q) ∧ (t = false → WC P C b s Q)
@[congr] theorem CondW_congr {v v' : V} {a b : Code} {s s' : St} {Q : Exit → St → Prop} (hv : hid v = v') (h : hid s = s') : CondW P C v a b s Q = CondW P C v' a b s' Q := by rw [← hv, ← h, hid_eq, hid_eq]
theorem CondW_true {a b : Code} : CondW P C (.lit (.bool true)) a b s Q = WC P C a s Q := by simp [CondW]
theorem CondW_false {a b : Code} : CondW P C (.lit (.bool false)) a b s Q = WC P C b s Q := by simp [CondW]
theorem CondW.split {a b : Code} {t : Bool} (h1 : t = true → WC P C a s Q) (h2 : t = false → WC P C b s Q) : CondW P C (.lit (.bool t)) a b s Q := ⟨t, rfl, h1, h2⟩
/-- A loop, not gone round yet. -/
def LoopW (P : Program) (C : Ctx) (c : Code) (s : St) (Q : Exit → St → Prop) : Prop := ∃ (I : Nat → St → Prop) (n0 : Nat), I n0 s ∧ ∀ n s, I n s → WC P C c s (loopQ C I n Q)
@[congr] theorem LoopW_congr {c : Code} {s s' : St} {Q : Exit → St → Prop} (h : hid s = s') : LoopW P C c s Q = LoopW P C c s' Q := by rw [← h, hid_eq]
@[congr] theorem RangeW_congr {x : Operand} {ps : Array Tmp} {as bo : Code} {s s' : St} {Q : Exit → St → Prop} (h : hid s = s') : RangeW P C x ps as bo s Q = RangeW P C x ps as bo s' Q := by rw [← h, hid_eq]
/-- What comes behind the first of two. -/
def seqQ (P : Program) (C : Ctx) (b : Code) (Q : Exit → St → Prop) : Exit → St → Prop := fun e s' => match e with
    | .normal => WC P C b s' Q
    | e => Q e s'
theorem seqQ_normal {b : Code} : seqQ P C b Q .normal s = WC P C b s Q := (rfl)
theorem seqQ_ret {b : Code} : seqQ P C b Q .ret s = Q .ret s := (rfl)
theorem seqQ_exit {b : Code} {id : Nat} : seqQ P C b Q (.exit id) s = Q (.exit id) s := (rfl)
theorem blockQ_normal {id : Nat} : blockQ id Q .normal s = Q .normal s := (rfl)
theorem blockQ_ret {id : Nat} : blockQ id Q .ret s = Q .ret s := (rfl)
theorem blockQ_exit {id id' : Nat} : blockQ id Q (.exit id') s = if id' = id then Q .normal s else Q (.exit id') s := (rfl)
theorem loopQ_ret {I : Nat → St → Prop} {n : Nat} : loopQ C I n Q .ret s = Q .ret s := (rfl)
theorem loopQ_exit {I : Nat → St → Prop} {n id : Nat} : loopQ C I n Q (.exit id) s = Q (.exit id) s := (rfl)
theorem loopQ_normal {I : Nat → St → Prop} {n : Nat} : loopQ C I n Q .normal s = Next C I n s := (rfl)
theorem WC_skip : WC P C .skip s Q = Q .normal s := (rfl)
theorem WC_region {id : Nat} {l : List Oper} : WC P C (.region id l.toArray false) s Q = WL none P C l.toArray l s Q := (rfl)
theorem WC_draw {id : Nat} {l : List Oper} {t : Nat → V} {h : Nat → Option Blk} {nx : Nat} {ds : List Nat} : WC P C (.region id l.toArray true) ⟨t, h, nx, ds⟩ Q = WL (some (nx, nx)) P C l.toArray l ⟨t, h, nx + l.length, ds⟩ Q := (rfl)
theorem WC_seq {a b : Code} : WC P C (.seq a b) s Q = WC P C a s (seqQ P C b Q) := (rfl)
theorem WC_cond {x : Operand} {a b : Code} : WC P C (.cond x a b) s Q = CondW P C (s.ev C x) a b s Q := (rfl)
theorem WC_block {id : Nat} {c : Code} : WC P C (.block id c) s Q = WC P C c s (blockQ id Q) := (rfl)
theorem WC_exit {id : Nat} : WC P C (.exit id) s Q = Q (.exit id) s := (rfl)
theorem WC_ret : WC P C .ret s Q = Q .ret s := (rfl)
theorem WC_loop {c : Code} : WC P C (.loop c) s Q = LoopW P C c s Q := (rfl)
theorem WC_rangeFunc {x : Operand} {ps : Array Tmp} {as bo : Code} : WC P C (.rangeFunc x ps as bo) s Q = RangeW P C x ps as bo s Q := (rfl)

def codeOk (nt : Nat) : Code → Bool
  | .region _ ops false => ops.toList.all fun o => dstB nt o.dst
  | .region _ ops true => (ops.toList.all fun o => dstB nt o.dst) && drawOk ops
  | .seq a b => codeOk nt a && codeOk nt b
  | .cond _ a b => codeOk nt a && codeOk nt b
  | .block _ c => codeOk nt c
  | .loop c => codeOk nt c
  | _ => true

theorem WC.sound (hm : P.follows .mixedOrders = true) : ∀ (c : Code) (s : St) (Q : Exit → St → Prop), codeOk E.c.nt c = true → WC P E.c c s Q → Tr P E c s Q := by
  intro c
  induction c with
  | skip => exact fun s Q _ h => Tr.skip h
  | region id ops d =>
    intro s Q hk h
    cases d with
    | true =>
      obtain ⟨ops⟩ := ops
      simp only [codeOk, Bool.and_eq_true, List.all_eq_true] at hk
      exact fun g a w H => region_draw hm hk.2 hk.1 h H
    | false =>
      obtain ⟨ops⟩ := ops
      simp only [codeOk, List.all_eq_true] at hk
      exact Tr.region (WL.sound _ _ hk h)
  | seq a b iha ihb =>
    intro s Q hk h
    simp only [codeOk, Bool.and_eq_true] at hk
    refine Tr.seq ((iha s _ hk.1 h).mono fun e s' q => ?_)
    cases e with
    | normal => exact ihb _ _ hk.2 q
    | _ => exact q
  | cond x a b iha ihb =>
    intro s Q hk h
    simp only [codeOk, Bool.and_eq_true] at hk
    obtain ⟨t, h1, h2, h3⟩ := h
    exact Tr.cond h1 (fun e => iha _ _ hk.1 (h2 e)) (fun e => ihb _ _ hk.2 (h3 e))
  | block id c ih => exact fun s Q hk h => Tr.block (ih _ _ hk h)
  | loop c ih =>
    intro s Q hk h
    obtain ⟨I, n0, h0, h1⟩ := h
    exact Tr.loop I n0 h0 fun n s hI => ih _ _ hk (h1 n s hI)
  | exit id => exact fun s Q _ h => Tr.exit h
  | ret => exact fun s Q _ h => Tr.ret h
  | rangeFunc x ps as bo => exact fun s Q _ h => Tr.rangeFunc h
  | _ => exact fun s Q _ h => h.elim

theorem TrC.of_WC (hm : P.follows .mixedOrders = true) {c : Code} (hk : codeOk C.nt c = true) (h : WC P C c s Q) : TrC P C c s Q := by
  intro E g a w hE H
  subst hE
  exact WC.sound hm c s Q hk h g a w H

/-- A loop, gone round. -/
theorem LoopW.intro {c : Code} (I : Nat → St → Prop) (n0 : Nat) (h0 : I n0 s) (round : ∀ n s, I n s → WC P C c s (loopQ C I n Q)) : LoopW P C c s Q := ⟨I, n0, h0, round⟩

/-! ### What is carried out comes to one end -/
theorem stepG.exact {dr : Dr} {d : Option Tmp} {op : Op} {K : St → Prop} (h : stepG dr P C d op s K) : ∃ s', K s' ∧ stepG dr P C d op s (fun x => x = s') := by
  have bo : ∀ {α : Type} (x : Option α) (f : α → St), bindO x (fun v => K (f v)) → ∃ s', K s' ∧ bindO x (fun v => f v = s') := fun x f h => by
    cases x with
    | none => exact h.elim
    | some v => exact ⟨f v, h, rfl⟩
  unfold stepG at h ⊢
  split <;> simp only at h
  · exact bo _ (fun zs => s.newAt dr d (fun b => .ptr b 0) zs) h
  · exact bo _ (fun cs => s.newAt dr d (fun b => .ptr b 0) cs) h
  · obtain ⟨s', h1, h2⟩ := bo _ (fun (q : Nat × List V) => ({ s with h := upd s.h q.1 (some (.cells q.2)) } : St)) h.2; exact ⟨s', h1, h.1, h2⟩
  · exact bo _ (fun rows => s.put d (.sl .exact rows)) h
  · obtain ⟨s', h1, h2⟩ := bo _ (fun v => s.put d v) h.2; exact ⟨s', h1, h.1, h2⟩
  · split <;> rename_i hc <;> simp only [hc] at h
    · rcases h with ⟨f, cap, r, h1, h2, h3, h4⟩ | ⟨f, cap, cs, n, sz, h1, h2, h3, h4⟩ | ⟨h0, f, cap, r, h', nx', h1, h2, h3⟩ | ⟨h0, L, b, h', nx', h1, h2, h3⟩
      · exact ⟨_, h4, .inl ⟨f, cap, r, h1, h2, h3, rfl⟩⟩
      · exact ⟨_, h4, .inr (.inl ⟨f, cap, cs, n, sz, h1, h2, h3, rfl⟩)⟩
      · exact ⟨_, h3, .inr (.inr (.inl ⟨h0, f, cap, r, h', nx', h1, h2, rfl⟩))⟩
      · exact ⟨_, h3, .inr (.inr (.inr ⟨h0, L, b, h', nx', h1, h2, rfl⟩))⟩
    · split at h
      · obtain ⟨h0, ⟨tok, rows, ys, h1, h2, h3, h4⟩ | ⟨hd, rows, ys, sz, h1, h2, h3, h4, h5, h6⟩⟩ := h
        · exact ⟨_, h4, h0, .inl ⟨tok, rows, ys, h1, h2, h3, rfl⟩⟩
        · exact ⟨_, h6, h0, .inr ⟨hd, rows, ys, sz, h1, h2, h3, h4, h5, rfl⟩⟩
      · exact h.elim
    · exact bo _ (fun v => s.put d v) h
  · exact bo _ (fun v => s.put d v) h

theorem WL.exact : ∀ (l : List Oper) (dr : Dr) (s : St), WL dr P C ops l s Q → ∃ s', Q .normal s' ∧ WL dr P C ops l s (exactQ .normal s') := by
  intro l
  induction l with
  | nil => exact fun dr s h => ⟨s, h, rfl, rfl⟩
  | cons o l ih =>
    intro dr s h
    unfold WL at h ⊢
    unfold stepW at h ⊢
    split
    · rename_i hg
      simp only [hg] at h
      obtain ⟨s1, h1, h2⟩ := h.exact
      obtain ⟨s', h3, h4⟩ := ih _ s1 h1
      exact ⟨s', h3, h2.mono fun x e => by subst e; exact h4⟩
    · rename_i j want hg
      simp only [hg] at h
      cases hb : guardV ops s j want with
      | none => rw [hb] at h; exact h.elim
      | some b =>
        rw [hb, bindO_some] at h
        by_cases e : b = want
        · obtain ⟨s1, h1, h2⟩ := (h.1 e).exact
          obtain ⟨s', h3, h4⟩ := ih _ s1 h1
          exact ⟨s', h3, fun _ => h2.mono fun x e => by subst e; exact h4, fun h => absurd e h⟩
        · obtain ⟨s', h3, h4⟩ := ih _ _ (h.2 e)
          exact ⟨s', h3, fun h => absurd h e, fun _ => h4⟩

theorem WL.mono {Q' : Exit → St → Prop} (hq : ∀ e s, Q e s → Q' e s) : ∀ (l : List Oper) (dr : Dr) (s : St), WL dr P C ops l s Q → WL dr P C ops l s Q' := by
  intro l
  induction l with
  | nil => exact fun dr s h => hq _ _ h
  | cons o l ih =>
    intro dr s h
    unfold WL at h ⊢
    unfold stepW at h ⊢
    split
    · rename_i hg; simp only [hg] at h; exact h.mono fun x hx => ih _ _ hx
    · rename_i j want hg
      simp only [hg] at h
      cases hb : guardV ops s j want with
      | none => rw [hb] at h; exact h.elim
      | some b => rw [hb] at h; exact ⟨fun e => (h.1 e).mono fun x hx => ih _ _ hx, fun e => ih _ _ (h.2 e)⟩

theorem afterW.mono {pe : Option Code} {Q' : Exit → St → Prop} (hq : ∀ e s, Q e s → Q' e s) (h : afterW pe s Q) : afterW pe s Q' := by
  cases pe with
  | none => exact hq _ _ h
  | some c => cases c <;> first | exact hq _ _ h | exact h

theorem WC.mono : ∀ (c : Code) (s : St) (Q Q' : Exit → St → Prop), (∀ e s, Q e s → Q' e s) → WC P C c s Q → WC P C c s Q' := by
  intro c
  induction c with
  | skip => exact fun s Q Q' hq h => hq _ _ h
  | region id ops d => intro s Q Q' hq h; cases d <;> exact WL.mono hq _ _ _ h
  | seq a b iha ihb =>
    intro s Q Q' hq h
    refine iha s _ _ (fun e s' h => ?_) h
    cases e with
    | normal => exact ihb _ _ _ hq h
    | _ => exact hq _ _ h
  | cond x a b iha ihb => intro s Q Q' hq h; obtain ⟨t, h1, h2, h3⟩ := h; exact ⟨t, h1, fun e => iha _ _ _ hq (h2 e), fun e => ihb _ _ _ hq (h3 e)⟩
  | block id c ih =>
    intro s Q Q' hq h
    refine ih s _ _ (fun e s' h => ?_) h
    cases e with
    | exit id' =>
      simp only [blockQ] at h ⊢
      split
      · rename_i e; rw [if_pos e] at h; exact hq _ _ h
      · rename_i e; rw [if_neg e] at h; exact hq _ _ h
    | _ => exact hq _ _ h
  | loop c ih =>
    intro s Q Q' hq h
    obtain ⟨I, n0, h0, h1⟩ := h
    refine ⟨I, n0, h0, fun n s hI => ih s _ _ (fun e s' h => ?_) (h1 n s hI)⟩
    cases e with
    | normal => exact h
    | _ => exact hq _ _ h
  | exit id => exact fun s Q Q' hq h => hq _ _ h
  | ret => exact fun s Q Q' hq h => hq _ _ h
  | rangeFunc x ps as bo =>
    intro s Q Q' hq h
    rcases h.ex with ⟨hrl, f, cap, r, h', nx', st, pe, hf, hF, hL, hst, hQ⟩ | ⟨L0, hrl, st0, pe0, tm0, nt0, ps0, as0, bo0, df0, hL0, f, cap, r, h', nx', st, pe, hf, hF, hL, hst, hQ⟩
    · exact ⟨.inl ⟨hrl, f, cap, r, h', nx', st, pe, hf, hF, hL, hst, hQ.mono hq⟩⟩
    · exact ⟨.inr ⟨L0, hrl, st0, pe0, tm0, nt0, ps0, as0, bo0, df0, hL0, f, cap, r, h', nx', st, pe, hf, hF, hL, hst, hQ.mono hq⟩⟩
  | _ => exact fun s Q Q' hq h => h

theorem afterW.exact {pe : Option Code} (h : afterW pe s Q) : ∃ e s', Q e s' ∧ afterW pe s (exactQ e s') := by
  unfold afterW at *
  split at h
  · exact ⟨_, _, h, rfl, rfl⟩
  · exact ⟨_, _, h, rfl, rfl⟩
  · exact ⟨_, _, h, rfl, rfl⟩
  · exact h.elim

theorem exact_mono {e : Exit} {s' : St} {Q : Exit → St → Prop} (h : Q e s') : ∀ e1 s1, exactQ e s' e1 s1 → Q e1 s1 := by
  rintro e1 s1 ⟨rfl, rfl⟩; exact h

theorem WC.exact : ∀ (c : Code) (s : St) (Q : Exit → St → Prop), WC P C c s Q → ∃ e s', Q e s' ∧ WC P C c s (exactQ e s') := by
  intro c
  induction c with
  | skip => exact fun s Q h => ⟨_, _, h, rfl, rfl⟩
  | region id ops d => intro s Q h; cases d <;> (obtain ⟨s', h1, h2⟩ := WL.exact _ _ _ h; exact ⟨_, s', h1, h2⟩)
  | seq a b iha ihb =>
    intro s Q h
    obtain ⟨e, s1, h1, h2⟩ := iha s _ h
    cases e with
    | normal =>
      obtain ⟨e2, s2, h3, h4⟩ := ihb s1 _ h1
      exact ⟨e2, s2, h3, WC.mono a s _ _ (exact_mono (Q := fun e s' => match e with | .normal => WC P C b s' (exactQ e2 s2) | e => exactQ e2 s2 e s') h4) h2⟩
    | exit id =>
      refine ⟨_, s1, h1, WC.mono a s _ _ ?_ h2⟩
      rintro e1 x1 ⟨rfl, rfl⟩
      exact (⟨rfl, rfl⟩ : _ ∧ _)
    | goto id =>
      refine ⟨_, s1, h1, WC.mono a s _ _ ?_ h2⟩
      rintro e1 x1 ⟨rfl, rfl⟩
      exact (⟨rfl, rfl⟩ : _ ∧ _)
    | ret =>
      refine ⟨_, s1, h1, WC.mono a s _ _ ?_ h2⟩
      rintro e1 x1 ⟨rfl, rfl⟩
      exact (⟨rfl, rfl⟩ : _ ∧ _)
    | panic ch =>
      refine ⟨_, s1, h1, WC.mono a s _ _ ?_ h2⟩
      rintro e1 x1 ⟨rfl, rfl⟩
      exact (⟨rfl, rfl⟩ : _ ∧ _)
    | outgrown =>
      refine ⟨_, s1, h1, WC.mono a s _ _ ?_ h2⟩
      rintro e1 x1 ⟨rfl, rfl⟩
      exact (⟨rfl, rfl⟩ : _ ∧ _)
  | cond x a b iha ihb =>
    intro s Q h
    obtain ⟨t, h1, h2, h3⟩ := h
    cases t with
    | true => obtain ⟨e, s', h4, h5⟩ := iha s Q (h2 rfl); exact ⟨e, s', h4, true, h1, fun _ => h5, fun h => by cases h⟩
    | false => obtain ⟨e, s', h4, h5⟩ := ihb s Q (h3 rfl); exact ⟨e, s', h4, false, h1, fun h => (by cases h), fun _ => h5⟩
  | block id c ih =>
    intro s Q h
    obtain ⟨e, s1, h1, h2⟩ := ih s _ h
    have fin : ∀ e', Q e' s1 → blockQ id (exactQ e' s1) e s1 → ∃ e s', Q e s' ∧ WC P C (.block id c) s (exactQ e s') := fun e' h3 h4 => ⟨e', s1, h3, WC.mono c s _ _ (exact_mono h4) h2⟩
    cases e with
    | exit id' =>
      simp only [blockQ] at h1
      split at h1
      · rename_i hid; exact fin .normal h1 (by simp only [blockQ]; rw [if_pos hid]; exact ⟨rfl, rfl⟩)
      · rename_i hid; exact fin (.exit id') h1 (by simp only [blockQ]; rw [if_neg hid]; exact ⟨rfl, rfl⟩)
    | _ => exact fin _ h1 ⟨rfl, rfl⟩
  | loop c ih =>
    intro s Q h
    obtain ⟨I, n0, h0, h1⟩ := h
    have key : ∀ n s, I n s → ∃ e s', Q e s' ∧ LoopW P C c s (exactQ e s') := by
      intro n
      induction n using Nat.strongRecOn with
      | _ n ihn =>
        intro s hI
        obtain ⟨e, s1, h2, h3⟩ := ih s _ (h1 n s hI)
        have out : (∀ I' n', loopQ C I' n' (exactQ e s1) e s1) → Q e s1 → ∃ e s', Q e s' ∧ LoopW P C c s (exactQ e s') := fun hne hQ =>
          ⟨e, s1, hQ, fun n x => x = s, 0, rfl, fun n x hx => by subst hx; exact WC.mono c _ _ _ (exact_mono (hne _ _)) h3⟩
        cases e with
        | normal =>
          obtain ⟨n', s2, hlt, hle, hI2⟩ := h2.ex
          obtain ⟨e, s', hQ, I2, m, hm0, hm⟩ := ihn n' hlt s2 hI2
          refine ⟨e, s', hQ, fun k x => I2 k x ∨ (k = m + 1 ∧ x = s), m + 1, .inr ⟨rfl, rfl⟩, fun k x hx => ?_⟩
          rcases hx with hx | ⟨rfl, rfl⟩
          · refine WC.mono c x _ _ (fun e1 x1 hh => ?_) (hm k x hx)
            cases e1 with
            | normal => obtain ⟨k', s3, a1, a2, a3⟩ := hh.ex; exact ⟨k', s3, a1, a2, .inl a3⟩
            | _ => exact hh
          · refine WC.mono c _ _ _ ?_ h3
            rintro e1 x1 ⟨rfl, rfl⟩
            show Next C _ _ _
            exact ⟨m, s2, by omega, hle, .inl hm0⟩
        | _ => exact out (fun _ _ => ⟨rfl, rfl⟩) h2
    exact key n0 s h0
  | exit id => exact fun s Q h => ⟨_, _, h, rfl, rfl⟩
  | ret => exact fun s Q h => ⟨_, _, h, rfl, rfl⟩
  | rangeFunc x ps as bo =>
    intro s Q h
    rcases h.ex with ⟨hrl, f, cap, r, h', nx', st, pe, hf, hF, hL, hst, hQ⟩ | ⟨L0, hrl, st0, pe0, tm0, nt0, ps0, as0, bo0, df0, hL0, f, cap, r, h', nx', st, pe, hf, hF, hL, hst, hQ⟩
    · obtain ⟨e, s', h1, h2⟩ := hQ.exact
      exact ⟨e, s', h1, (⟨.inl ⟨hrl, f, cap, r, h', nx', st, pe, hf, hF, hL, hst, h2⟩⟩ : RangeW P C x ps as bo s _)⟩
    · obtain ⟨e, s', h1, h2⟩ := hQ.exact
      exact ⟨e, s', h1, (⟨.inr ⟨L0, hrl, st0, pe0, tm0, nt0, ps0, as0, bo0, df0, hL0, f, cap, r, h', nx', st, pe, hf, hF, hL, hst, h2⟩⟩ : RangeW P C x ps as bo s _)⟩
  | _ => exact fun s Q h => h.elim

/-- A call of yield, carried out. -/
theorem CallW.round (hm : P.follows .mixedOrders = true) {d : Option Tmp} {cf : Operand} {args : Array Operand} {K : St → Prop} {L : Nat} {xs : List V} {pe : Option Code} {tm : Nat → V} {nt : Nat} {ps : Array Tmp} {as bo : Code} {df : Nat}
    (hf : s.ev C cf = .yld L) (hx : args.toList.map (s.ev C) = xs) (hL : s.h L = some (.loop .ready pe tm nt ps as bo df)) (hps : ps.size = xs.length) (hpl : (ps.toList.all fun p => Nat.blt p nt) = true)
    (hk1 : codeOk nt as = true) (hk2 : codeOk nt bo = true)
    (hW : WC P ⟨C.gl, some L, nt, s.nx, s.h⟩ as ⟨putAll tm ps.toList xs, s.h, s.nx, []⟩ fun e1 s1 => e1 = .normal ∧ s1.h L = some (.loop .ready pe tm nt ps as bo df) ∧
      WC P ⟨C.gl, some L, nt, s.nx, s.h⟩ bo { s1 with h := upd s1.h L (some (.loop .busy pe tm nt ps as bo df)) } fun e s2 => s2.h L = some (.loop .busy pe tm nt ps as bo df) ∧
        ∃ j, jumpOf e = some j ∧ K { s.put d (.lit (.bool j.isNone)) with h := upd s2.h L (some (.loop (if j.isNone = true then .ready else .done) j tm nt ps as bo df)), nx := s2.nx }) : CallW none P C d cf args s K := by
  obtain ⟨e1, s1, ⟨rfl, hL1, h2⟩, h3⟩ := WC.exact _ _ _ hW
  obtain ⟨e2, s2, ⟨hL2, j, hj, hK⟩, h5⟩ := WC.exact _ _ _ h2
  refine CallW.yield hf (xs := xs) ⟨pe, tm, nt, ps, as, bo, df, s1, e2, s2, j, hL, hps, fun p hp => ?_, TrC.of_WC hm hk1 h3, hL1, TrC.of_WC hm hk2 h5, hL2, hj, rfl, rfl, rfl⟩ hx hK
  rw [List.all_eq_true] at hpl
  exact Nat.le_of_ble_eq_true (hpl p hp)

/-- A loop, a round at a time. -/
def againQ (P : Program) (C : Ctx) (c : Code) (Q : Exit → St → Prop) : Exit → St → Prop
  | .normal, s => LoopW P C c s Q
  | e, s => Q e s
theorem againQ_normal {c : Code} : againQ P C c Q .normal s = LoopW P C c s Q := (rfl)
theorem againQ_ret {c : Code} : againQ P C c Q .ret s = Q .ret s := (rfl)
theorem againQ_exit {c : Code} {id : Nat} : againQ P C c Q (.exit id) s = Q (.exit id) s := (rfl)
theorem LoopW.again {c : Code} (h : WC P C c s (againQ P C c Q)) : LoopW P C c s Q := by
  obtain ⟨e, s1, h1, h2⟩ := WC.exact _ _ _ h
  have out : (∀ I' n', loopQ C I' n' Q e s1) → LoopW P C c s Q := fun hne =>
    ⟨fun n x => x = s, 0, rfl, fun n x hx => by subst hx; exact WC.mono c _ _ _ (exact_mono (hne _ _)) h2⟩
  cases e with
  | normal =>
    obtain ⟨I2, m, hm0, hm⟩ := h1
    refine ⟨fun k x => I2 k x ∨ (k = m + 1 ∧ x = s), m + 1, .inr ⟨rfl, rfl⟩, fun k x hx => ?_⟩
    rcases hx with hx | ⟨rfl, rfl⟩
    · refine WC.mono c x _ _ (fun e1 x1 hh => ?_) (hm k x hx)
      cases e1 with
      | normal => obtain ⟨k', s3, a1, a2, a3⟩ := hh.ex; exact ⟨k', s3, a1, a2, .inl a3⟩
      | _ => exact hh
    · refine WC.mono c _ _ _ ?_ h2
      rintro e1 x1 ⟨rfl, rfl⟩
      show Next C _ _ _
      exact ⟨m, x1, by omega, .inl rfl, .inl hm0⟩
  | _ => exact out (fun _ _ => h1)

end Go.Proofs.YtkelfbakcpidjaaGreatDoor
