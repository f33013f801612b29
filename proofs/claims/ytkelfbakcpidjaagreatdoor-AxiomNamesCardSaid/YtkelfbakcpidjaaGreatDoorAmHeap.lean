/- Functions that work on their caller's abstract memory: what is known of their end is a relation. -/
import Derived.Test.YtkelfbakcpidjaaGreatDoorAmSim
set_option linter.unusedVariables false
set_option linter.unusedSimpArgs false
namespace Go.Proofs.YtkelfbakcpidjaaGreatDoor
open Go.RowKit
variable {P : Program} {C : Ctx} {s : St} {Q : Exit → St → Prop}

/-- The abstract blocks below n alone. -/
def cutH (n : Nat) (h : Nat → Option Blk) : Nat → Option Blk := fun b => if b < n then h b else none
theorem cutH_at (n : Nat) (h : Nat → Option Blk) (b : Nat) : cutH n h b = if b < n then h b else none := (rfl)

def FnHR (P : Program) (gl : Nat → V) (f : FuncId) (xs : List V) (h : Nat → Option Blk) (nx : Nat) (R : V → (Nat → Option Blk) → Nat → Prop) : Prop :=
  ∃ r h' nx', R r h' nx' ∧ FnH P gl f xs h nx r h' nx'

/-- What is owed at the end of a function that works on its caller's memory. -/
structure RetH (P : Program) (rs : List ResultVar) (h : Nat → Option Blk) (nx : Nat) (R : V → (Nat → Option Blk) → Nat → Prop) (s : St) : Prop where
  ex : ∃ r h' nx', nx ≤ nx' ∧ retH P rs h r h' nx' .ret s ∧ R r h' nx'
def retHQ (P : Program) (rs : List ResultVar) (h : Nat → Option Blk) (nx : Nat) (R : V → (Nat → Option Blk) → Nat → Prop) : Exit → St → Prop
  | .normal, s | .ret, s => RetH P rs h nx R s
  | _, _ => False
theorem retHQ_normal {rs : List ResultVar} {h : Nat → Option Blk} {nx : Nat} {R : V → (Nat → Option Blk) → Nat → Prop} : retHQ P rs h nx R .normal s = RetH P rs h nx R s := (rfl)
theorem retHQ_ret {rs : List ResultVar} {h : Nat → Option Blk} {nx : Nat} {R : V → (Nat → Option Blk) → Nat → Prop} : retHQ P rs h nx R .ret s = RetH P rs h nx R s := (rfl)

theorem FnHR.intro (hm : P.follows .mixedOrders = true) {gl : Nat → V} {f : FuncId} {fn : Func} {c : Code} {xs : List V} (hf : P.funcs[f]? = some fn) (hb : fn.body = some c)
    (hn : (fn.name == "runtime.NumGoroutine") = false) {nt : Nat} (hnt : fn.ntmps = nt) (hxs : xs.length ≤ nt) {rs : List ResultVar} (hrs : fn.results = rs.toArray) (hk : codeOk nt c = true)
    {h : Nat → Option Blk} {nx : Nat} {R : V → (Nat → Option Blk) → Nat → Prop}
    (hW : WC P ⟨gl, none, nt, nx, h⟩ c ⟨updL (fun _ => .undef) 0 xs, h, nx, []⟩ (retHQ P rs h nx R)) : FnHR P gl f xs h nx R := by
  obtain ⟨e, s', hQ, hW'⟩ := WC.exact _ _ _ hW
  have key : ∀ e1, e1 = e → (RetH P rs h nx R s') → (e1 = .normal ∨ e1 = .ret) → FnHR P gl f xs h nx R := by
    rintro e1 rfl hR he
    obtain ⟨r, h', nx', h1, h2, h3⟩ := hR.ex
    refine ⟨r, h', nx', h3, FnH.intro hm hf hb hn hnt hxs hrs hk h1 fun _ => WC.mono _ _ _ _ (exact_mono ?_) hW'⟩
    rcases he with rfl | rfl <;> exact h2
  cases e with
  | normal => exact key _ rfl hQ (.inl rfl)
  | ret => exact key _ rfl hQ (.inr rfl)
  | _ => exact hQ.elim

/-! ### What is named, by reckoning -/
def DSL (S : Nat → Prop) (cs : List V) : Prop := ∀ x, x ∈ cs → DS S x
section
variable {S : Nat → Prop}
theorem dsl_nil : DSL S [] = True := by simp [DSL]
theorem dsl_cons (x : V) (xs : List V) : DSL S (x :: xs) = (DS S x ∧ DSL S xs) := by simp [DSL]
theorem ds_undef : DS S .undef = True := eq_true .undef
theorem ds_lit (v : Value) : DS S (.lit v) = True := eq_true (.lit v)
theorem ds_ptr (b o : Nat) : DS S (.ptr b o) = S b := propext ⟨fun h => by cases h; assumption, .ptr b o⟩
theorem ds_yld (b : Nat) : DS S (.yld b) = S b := propext ⟨fun h => by cases h; assumption, .yld b⟩
theorem ds_hs (b o n cap sz : Nat) : DS S (.hs b o n cap sz) = S b := propext ⟨fun h => by cases h; assumption, .hs b o n cap sz⟩
theorem ds_agg (cs : List V) : DS S (.agg cs) = DSL S cs := propext ⟨fun h => by cases h; assumption, .agg cs⟩
theorem ds_tup (cs : List V) : DS S (.tup cs) = DSL S cs := propext ⟨fun h => by cases h; assumption, .tup cs⟩
theorem ds_ept (cs : List V) (o : Nat) : DS S (.ept cs o) = DSL S cs := propext ⟨fun h => by cases h; assumption, .ept cs o⟩
theorem ds_clo (f : Fn) (a b : List V) : DS S (.clo f a b) = (DSL S a ∧ DSL S b) := propext ⟨fun h => by cases h; exact ⟨by assumption, by assumption⟩, fun h => .clo f a b h.1 h.2⟩
theorem ds_ifc (t : TypeId) (x : V) : DS S (.ifc t x) = DS S x := propext ⟨fun h => by cases h; assumption, .ifc t x⟩
def DSLL (S : Nat → Prop) (rows : List (List V)) : Prop := ∀ r x, r ∈ rows → x ∈ r → DS S x
theorem ds_slr (rows : List (List V)) : DS S (.sl .ro rows) = DSLL S rows := propext ⟨fun h => by cases h; assumption, .sl .ro rows (fun b h => by cases h)⟩
theorem ds_slx (rows : List (List V)) : DS S (.sl .exact rows) = DSLL S rows := propext ⟨fun h => by cases h; assumption, .sl .exact rows (fun b h => by cases h)⟩
theorem ds_slo (k : Nat) (rows : List (List V)) (hk : S k) : DS S (.sl (.own k) rows) = DSLL S rows := propext ⟨fun h => by cases h; assumption, .sl (.own k) rows (fun b h => by injection h with h; subst h; exact .inr hk)⟩
theorem dsll_nil : DSLL S [] = True := by simp [DSLL]
theorem dsll_cons (r : List V) (rows : List (List V)) : DSLL S (r :: rows) = (DSL S r ∧ DSLL S rows) := by
  apply propext; constructor
  · exact fun h => ⟨fun x hx => h r x (by simp) hx, fun r' x hr hx => h r' x (by simp [hr]) hx⟩
  · rintro ⟨h1, h2⟩ r' x hr hx
    rcases List.mem_cons.1 hr with rfl | hr
    · exact h1 x hx
    · exact h2 r' x hr hx
theorem dsll_app (a b : List (List V)) : DSLL S (a ++ b) = (DSLL S a ∧ DSLL S b) := by
  apply propext; constructor
  · exact fun h => ⟨fun r x hr hx => h r x (by simp [hr]) hx, fun r x hr hx => h r x (by simp [hr]) hx⟩
  · rintro ⟨h1, h2⟩ r x hr hx
    rcases List.mem_append.1 hr with hr | hr
    · exact h1 r x hr hx
    · exact h2 r x hr hx
theorem blk_cells (cs : List V) : BlkDS S (.cells cs) = DSL S cs := (rfl)
theorem blk_room (n : Nat) : BlkDS S (.room n) = True := (rfl)
theorem blk_loop (st : LoopState) (pe : Option Code) (tm : Nat → V) (nt : Nat) (ps : Array Tmp) (as bo : Code) (df : Nat) : BlkDS S (.loop st pe tm nt ps as bo df) = ((∀ i, DS S (tm i)) ∧ S df) := (rfl)
theorem blk_dfr : BlkDS S .dfr = True := (rfl)
theorem ds_upd (f : Nat → V) (i : Nat) (x : V) : (∀ j, DS S (upd f i x j)) = (∀ j, DS S (if j = i then x else f j)) := (rfl)
theorem ds_upd_of {f : Nat → V} {i : Nat} {x : V} (hx : DS S x) (hf : ∀ j, DS S (f j)) : ∀ j, DS S (upd f i x j) := by
  intro j; unfold upd; split; exact hx; exact hf j
end
theorem dsOk_nil (t : Nat → V) (h : Nat → Option Blk) (nx : Nat) : dsOk ⟨t, h, nx, []⟩ := ⟨List.nodup_nil, fun d hd => by cases hd⟩

theorem dsOk_one (t : Nat → V) {h : Nat → Option Blk} (nx : Nat) {d : Nat} (hd : h d = some .dfr) : dsOk ⟨t, h, nx, [d]⟩ := ⟨by simp, fun d' h' => by simp at h'; subst h'; exact hd⟩
theorem retQ_one {rs : List ResultVar} {R : V → Prop} {t : Nat → V} {h : Nat → Option Blk} {nx d : Nat} (hd : h d = some .dfr)
    (hr : ∃ r, resV P ⟨t, h, nx, [d]⟩ rs = some r ∧ D (finV h (fun _ => none) r) ∧ R (finV h (fun _ => none) r)) : retQ P rs R .ret ⟨t, h, nx, [d]⟩ := ⟨hr, dsOk_one t nx hd⟩

/-- The end of such a function: what lies below nx' is left as it is. -/
theorem RetH.cut {rs : List ResultVar} {h : Nat → Option Blk} {nx : Nat} {R : V → (Nat → Option Blk) → Nat → Prop} {t : Nat → V} {h1 : Nat → Option Blk} {nx1 : Nat} {ds : List Nat} (nx' : Nat) (hnx : nx ≤ nx') {v r : V}
    (hv : resV P ⟨t, h1, nx1, ds⟩ rs = some v) (hr : finV h1 (kept ⟨t, h1, nx1, ds⟩ (cutH nx' h1)) v = r) (hdr : DS (fun b => b < nx') r) (hd : dsOk ⟨t, h1, nx1, ds⟩) (hds : ∀ d, d ∈ ds → nx' ≤ d)
    (hb : ∀ b x, b < nx' → h1 b = some x → BlkDS (fun k => k < nx') x ∨ OldB h b x) (hR : R r (cutH nx' h1) nx') : RetH P rs h nx R ⟨t, h1, nx1, ds⟩ := by
  refine ⟨r, cutH nx' h1, nx', hnx, ⟨hd, ⟨v, hv, hr⟩, hdr, fun b x' hx => ?_⟩, hR⟩
  have hx2 : (if b < nx' then h1 b else none) = some x' := hx
  split at hx2
  · rename_i hlt
    exact ⟨hlt, fun hmem => by have := hds b hmem; omega, x', hx2, .inl rfl, hb b x' hlt hx2⟩
  · cases hx2

theorem CallW.heapR {d : Option Tmp} {cf : Operand} {args : Array Operand} {K : St → Prop} {f : FuncId} {cap xs : List V} {R : V → (Nat → Option Blk) → Nat → Prop} (hf : calleeV (s.ev C cf) = some (f, cap))
    (hx : args.toList.map (s.ev C) ++ cap = xs) (hF : FnHR P C.gl f xs s.h s.nx R) (h : ∀ r h' nx', R r h' nx' → K { s.put d r with h := h', nx := nx' }) : CallW none P C d cf args s K := by
  obtain ⟨r, h', nx', hR, hF⟩ := hF
  exact CallW.heap hf hF hx (h _ _ _ hR)
theorem CallW.fnHR {d : Option Tmp} {args : Array Operand} {K : St → Prop} {f : FuncId} {xs : List V} {R : V → (Nat → Option Blk) → Nat → Prop} 
    (hx : args.toList.map (s.ev C) = xs) (hF : FnHR P C.gl f xs s.h s.nx R) (h : ∀ r h' nx', R r h' nx' → K { s.put d r with h := h', nx := nx' }) : CallW none P C d (.func f) args s K :=
  CallW.heapR (cap := []) rfl (by simpa using hx) hF h

/-- .. and what follows it. -/
theorem CallW.fnHK {d : Option Tmp} {args : Array Operand} {K : St → Prop} {f : FuncId} {xs : List V} (hx : args.toList.map (s.ev C) = xs)
    (hF : FnHR P C.gl f xs s.h s.nx fun r h' nx' => K { s.put d r with h := h', nx := nx' }) : CallW none P C d (.func f) args s K :=
  CallW.fnHR hx hF fun _ _ _ h => h
theorem CallW.heapK {d : Option Tmp} {cf : Operand} {args : Array Operand} {K : St → Prop} {f : FuncId} {cap xs : List V} (hf : calleeV (s.ev C cf) = some (f, cap)) (hx : args.toList.map (s.ev C) ++ cap = xs)
    (hF : FnHR P C.gl f xs s.h s.nx fun r h' nx' => K { s.put d r with h := h', nx := nx' }) : CallW none P C d cf args s K :=
  CallW.heapR hf hx hF fun _ _ _ h => h
theorem FnHR.gen {gl : Nat → V} {f : FuncId} {xs : List V} {h0 : Nat → Option Blk} {nx : Nat} {R : V → (Nat → Option Blk) → Nat → Prop} (k : ∀ h, h = h0 → FnHR P gl f xs h nx R) : FnHR P gl f xs h0 nx R := k h0 rfl
theorem putAll_cons (tm : Nat → V) (p : Tmp) (ps : List Tmp) (x : V) (xs : List V) : putAll tm (p :: ps) (x :: xs) = putAll (upd tm p x) ps xs := (rfl)
theorem putAll_nil (tm : Nat → V) (xs : List V) : putAll tm [] xs = tm := (rfl)
theorem jumpOf_normal : jumpOf .normal = some none := (rfl)
theorem jumpOf_ret : jumpOf .ret = some (some .ret) := (rfl)
theorem jumpOf_exit (id : Nat) : jumpOf (.exit id) = some (some (.exit id)) := (rfl)

/-- An append's two ways. -/
theorem AppW.on {dr : Dr} {t : TypeId} {d : Option Tmp} {x y : V} {K : St → Prop} {tok : Option Nat} {rows ys : List (List V)} (h1 : baseV s x = some (tok, rows)) (h2 : srcV y = some ys) (h3 : AppOk P t rows ys)
    (h4 : K (s.appAt dr d tok rows ys)) : AppW dr P t d x y s K := .inl ⟨tok, rows, ys, h1, h2, h3, h4⟩
theorem AppW.new {t : TypeId} {d : Option Tmp} {x y : V} {K : St → Prop} {rows ys : List (List V)} {sz : Nat} (h1 : baseV s x = some (none, rows)) (h2 : srcV y = some ys) (h3 : AppOk P t rows ys)
    (h4 : 0 < ys.length) (h5 : eltS P t = some sz) (h6 : K (s.newAt none d (fun b => .hs b 0 (rows.length + ys.length) (rows.length + ys.length) sz) (rows.flatten ++ ys.flatten))) : AppW none P t d x y s K :=
  .inr ⟨rfl, rows, ys, sz, h1, h2, h3, h4, h5, h6⟩

/-- A function that returns a new row of cells, out of what it does to no memory at all. -/
theorem FnM.of_H {gl : Nat → V} {f : FuncId} {xs cs : List V} {n sz : Nat} (hD : ∀ x, x ∈ cs → D x)
    (hF : FnHR P gl f xs (fun _ => none) 0 fun r h' nx' => r = .hs 0 0 n n sz ∧ h' 0 = some (.cells cs)) : FnM P gl f xs cs n := by
  obtain ⟨r, h', nx', ⟨rfl, hc⟩, hF⟩ := hF
  refine ⟨hF.enter, hD, fun fz w vs hfz hgl hvs => ?_⟩
  let E : Env := { w0 := w, fz0 := fz, c := ⟨gl, none, 0, 0, fun _ => none⟩, l := 0, g0 := gd fz, hds := fun b x h => by cases h }
  have H0 : Mem E (gd fz) (fun _ => none) 0 w :=
    ⟨⟨rfl, rfl, rfl, Nat.le_refl _, fun _ _ => rfl⟩, hfz, fun _ _ _ h => h, fun _ _ _ h => .inl h, fun b x hb => (by cases hb), fun b b' x x' cb hb => (by cases hb), fun b _ => ⟨rfl, rfl, fun _ => rfl⟩, fun b cb hb => (by cases hb),
      fun b => rfl, Gh.Le.refl _, ⟨Nat.le_refl _, fun b _ => ⟨rfl, fun _ => rfl⟩⟩, hgl⟩
  refine (hF.run E (gd fz) w vs rfl H0 hvs).mono ?_
  rintro e w' ⟨v, g', rfl, hle, Hm, hrv⟩
  obtain ⟨cb, arr, T, a1, a2, a3, a4, a5, a6⟩ := (Hm.cells 0 cs hc).ex
  cases hrv with
  | hs _ _ _ _ _ cb' cap' hm hcap =>
    rw [a1] at hm; injection hm with hm; subst hm
    exact ⟨cb, arr, T, cap', g'.fz, rfl, a2, a3, a4, hcap, fun i x y h1 h2 => (a5 i x y h1 h2).gdata (hD x (List.mem_of_getElem? h1)), ⟨Hm.fz0, fun b o v hf => Hm.fzN b o v hf⟩, Hm.fz, a6,
      ⟨Hm.keep.os, Hm.keep.tape, Hm.keep.output, Hm.keep.size, Hm.keep.block⟩⟩

/-- A range over a function, in a frame that is no round's. -/
theorem RangeW.outer {x : Operand} {ps : Array Tmp} {as bo : Code} (hrl : C.rl = none) {f : FuncId} {cap : List V} (hf : calleeV (s.ev C x) = some (f, cap))
    (hF : FnHR P C.gl f (.yld (s.nx + 1) :: cap) (upd (upd s.h s.nx (some .dfr)) (s.nx + 1) (some (.loop .ready none s.t C.nt ps as bo s.nx))) (s.nx + 2)
      fun r h' nx' => ∃ st pe, h' (s.nx + 1) = some (.loop st pe s.t C.nt ps as bo s.nx) ∧ st ≠ .busy ∧ afterW pe ⟨s.t, upd h' (s.nx + 1) none, nx', s.nx :: s.ds⟩ Q) : RangeW P C x ps as bo s Q := by
  obtain ⟨r, h', nx', ⟨st, pe, h1, h2, h3⟩, hF⟩ := hF
  exact ⟨.inl ⟨hrl, f, cap, r, h', nx', st, pe, hf, hF, h1, h2, h3⟩⟩
/-- A range over a function in a round of another. -/
theorem RangeW.inner {x : Operand} {ps : Array Tmp} {as bo : Code} {L0 : Nat} (hrl : C.rl = some L0) {st0 : LoopState} {pe0 : Option Code} {tm0 : Nat → V} {nt0 : Nat} {ps0 : Array Tmp} {as0 bo0 : Code} {df0 : Nat}
    (hL0 : s.h L0 = some (.loop st0 pe0 tm0 nt0 ps0 as0 bo0 df0)) {f : FuncId} {cap : List V} (hf : calleeV (s.ev C x) = some (f, cap))
    (hF : FnHR P C.gl f (.yld s.nx :: cap) (upd s.h s.nx (some (.loop .ready none s.t C.nt ps as bo df0))) (s.nx + 1)
      fun r h' nx' => ∃ st pe, h' s.nx = some (.loop st pe s.t C.nt ps as bo df0) ∧ st ≠ .busy ∧ afterW pe ⟨s.t, upd h' s.nx none, nx', s.ds⟩ Q) : RangeW P C x ps as bo s Q := by
  obtain ⟨r, h', nx', ⟨st, pe, h1, h2, h3⟩, hF⟩ := hF
  exact ⟨.inr ⟨L0, hrl, st0, pe0, tm0, nt0, ps0, as0, bo0, df0, hL0, f, cap, r, h', nx', st, pe, hf, hF, h1, h2, h3⟩⟩
theorem afterW_none : afterW none s Q = Q .normal s := (rfl)
theorem afterW_ret : afterW (some .ret) s Q = Q .ret s := (rfl)
theorem afterW_exit {id : Nat} : afterW (some (.exit id)) s Q = Q (.exit id) s := (rfl)

end Go.Proofs.YtkelfbakcpidjaaGreatDoor
