/- What moved comes to: plain laws; the same, of nothing. -/
import Derived.Test.YtkelfbakcpidjaaGreatDoorSp9
set_option linter.unusedVariables false
set_option linter.unusedSimpArgs false
set_option maxRecDepth 100000
set_option maxHeartbeats 4000000
namespace Go.Proofs.YtkelfbakcpidjaaGreatDoor
open Go.RowKit

theorem mvN_at {m : Nat} {names ps : List Int} : ∀ {n : Nat} {qs : List Int}, mvN m names ps n = some qs → qs.length = n ∧ ∀ i, i < n → ∃ a b, ps[i]? = some a ∧ qs[i]? = some b ∧ mvE m names i a = some b := by
  intro n
  induction n with
  | zero => intro qs h; simp [mvN] at h; subst h; exact ⟨rfl, fun i h => absurd h (by omega)⟩
  | succ n ih =>
    intro qs h
    simp only [mvN] at h
    split at h
    · rename_i q a h1 h2
      simp only [Option.map_eq_some_iff] at h
      obtain ⟨b, hb, rfl⟩ := h
      obtain ⟨hl, hi⟩ := ih h1
      refine ⟨by simp [hl], fun i h => ?_⟩
      by_cases e : i = n
      · subst e
        exact ⟨a, b, h2, by rw [List.getElem?_append_right (by omega), hl, Nat.sub_self]; rfl, hb⟩
      · obtain ⟨a', b', h3, h4, h5⟩ := hi i (by omega)
        exact ⟨a', b', h3, by rw [List.getElem?_append_left (by omega)]; exact h4, h5⟩
    · cases h
theorem mvN_mk {m : Nat} {names ps : List Int} : ∀ {n : Nat} {qs : List Int}, qs.length = n → (∀ i, i < n → ∃ a b, ps[i]? = some a ∧ qs[i]? = some b ∧ mvE m names i a = some b) → mvN m names ps n = some qs := by
  intro n
  induction n with
  | zero => intro qs hl _; have : qs = [] := List.length_eq_zero_iff.1 hl
            subst this; rfl
  | succ n ih =>
    intro qs hl h
    obtain ⟨a, b, h1, h2, h3⟩ := h n (by omega)
    have h4 : mvN m names ps n = some (qs.take n) := ih (by simp; omega) fun i hi => by
      obtain ⟨a', b', h5, h6, h7⟩ := h i (by omega)
      exact ⟨a', b', h5, by rw [List.getElem?_take_of_lt hi]; exact h6, h7⟩
    simp only [mvN, h4, h1, h3, Option.map_some]
    obtain ⟨hn, rfl⟩ := List.getElem?_eq_some_iff.1 h2
    rw [← List.take_succ_eq_append_getElem hn, List.take_of_length_le (by omega)]

theorem nameOf_some {names : List Int} {a b : Int} : nameOf names a = some b ↔ 0 ≤ a ∧ names[a.toNat]? = some b ∧ 0 ≤ b := by
  unfold nameOf
  by_cases h : a < 0
  · rw [if_pos h]; constructor
    · intro e; cases e
    · intro ⟨e, _, _⟩; omega
  · rw [if_neg h]
    cases hn : names[a.toNat]? with
    | none => simp
    | some c =>
      simp only
      by_cases hc : c < 0
      · rw [if_pos hc]; constructor
        · intro e; cases e
        · intro ⟨_, e, _⟩; simp at e; omega
      · rw [if_neg hc]; constructor
        · intro e; simp at e; subst e; exact ⟨by omega, rfl, by omega⟩
        · intro ⟨_, e, _⟩; exact e

def identF (n : Nat) : List Int := List.map (fun (i : Nat) => Int.ofNat i) (List.range n)
def compE (undo : List Int) (x : Int) : Int := if 0 ≤ x ∧ x < undo.length then undo.getD x.toNat 0 else -1
def compF (image undo : List Int) : List Int := image.map (compE undo)

theorem mvE_ident {m i : Nat} {image : List Int} {a b : Int} (h : mvE m image i a = some b) : mvE m (identF image.length) i a = some a := by
  unfold mvE at *
  by_cases hi : i < m
  · rw [if_pos hi] at h ⊢
    obtain ⟨h1, h2, h3⟩ := nameOf_some.1 h
    obtain ⟨hl, _⟩ := List.getElem?_eq_some_iff.1 h2
    refine nameOf_some.2 ⟨h1, ?_, h1⟩
    rw [identF, List.getElem?_map, List.getElem?_range hl]
    simp only [Option.map_some, Option.some.injEq]; exact Int.toNat_of_nonneg h1
  · rw [if_neg hi]
theorem mvE_comp {m i : Nat} {image undo : List Int} {a b c : Int} (h : mvE m image i a = some b) (h' : mvE m undo i b = some c) : mvE m (compF image undo) i a = some c := by
  unfold mvE at *
  by_cases hi : i < m
  · rw [if_pos hi] at h h' ⊢
    obtain ⟨h1, h2, h3⟩ := nameOf_some.1 h
    obtain ⟨h4, h5, h6⟩ := nameOf_some.1 h'
    refine nameOf_some.2 ⟨h1, ?_, h6⟩
    rw [compF, List.getElem?_map, h2]
    obtain ⟨hl, he⟩ := List.getElem?_eq_some_iff.1 h5
    simp only [Option.map_some, Option.some.injEq, compE]
    rw [if_pos ⟨h4, by omega⟩, List.getD_eq_getElem?_getD, h5]; rfl
  · rw [if_neg hi] at h h' ⊢; cases h; exact h'

/-- What moved comes to, said short. -/
def mvOk (r : Int) (ps names qs : List Int) : Prop := 0 ≤ r ∧ r ≤ 59 ∧ ps ≠ [] ∧ mvN (mOf r ps.length) names ps ps.length = some qs
theorem movedV_ok {r : Int} {ps names qs : List Int} (h : mvOk r ps names qs) : movedV r ps names = .tup [.agg [.lit (.int .i64 r), .sl .ro (ints qs)], .lit (.int .i64 0)] := by
  obtain ⟨h0, h1, h2, h3⟩ := h
  rw [movedV, if_pos ⟨h0, h1, h2⟩, h3]; rfl
theorem movedV_cases (r : Int) (ps names : List Int) : (∃ qs, mvOk r ps names qs) ∨ movedV r ps names = .tup [.agg [.lit (.int .i64 0), .lit (.slice none 0 0)], .lit (.int .i64 12)] := by
  by_cases h : 0 ≤ r ∧ r ≤ 59 ∧ ps ≠ []
  · cases hm : mvN (mOf r ps.length) names ps ps.length with
    | none => right; rw [movedV, if_pos h, hm]; rfl
    | some qs => exact .inl ⟨qs, h.1, h.2.1, h.2.2, hm⟩
  · right; rw [movedV, if_neg h]; rfl
theorem mvOk.len {r : Int} {ps names qs : List Int} (h : mvOk r ps names qs) : qs.length = ps.length := mvN_len h.2.2.2
theorem mvOk.ident {r : Int} {ps image qs : List Int} (h : mvOk r ps image qs) : mvOk r ps (identF image.length) ps := by
  obtain ⟨h0, h1, h2, h3⟩ := h
  refine ⟨h0, h1, h2, mvN_mk rfl fun i hi => ?_⟩
  obtain ⟨a, b, h4, h5, h6⟩ := (mvN_at h3).2 i hi
  exact ⟨a, a, h4, h4, mvE_ident h6⟩
theorem mvOk.comp {r : Int} {ps image undo qs us : List Int} (h : mvOk r ps image qs) (h' : mvOk r qs undo us) : mvOk r ps (compF image undo) us := by
  have hl := h.len
  obtain ⟨h0, h1, h2, h3⟩ := h
  obtain ⟨_, _, _, h3'⟩ := h'
  rw [hl] at h3'
  refine ⟨h0, h1, h2, mvN_mk (mvN_at h3').1 fun i hi => ?_⟩
  obtain ⟨a, b, h4, h5, h6⟩ := (mvN_at h3).2 i hi
  obtain ⟨b', c, h7, h8, h9⟩ := (mvN_at h3').2 i hi
  rw [h5] at h7; injection h7 with h7; subst h7
  exact ⟨a, c, h4, h8, mvE_comp h6 h9⟩
theorem mvOk.image {r : Int} {ps image qs : List Int} (h : mvOk r ps image qs) : image ≠ [] := by
  obtain ⟨h0, h1, h2, h3⟩ := h
  have hp : 0 < ps.length := List.length_pos_iff.2 h2
  obtain ⟨a, b, h4, h5, h6⟩ := (mvN_at h3).2 0 hp
  have hm : 0 < mOf r ps.length := by unfold mOf; split <;> omega
  rw [mvE, if_pos hm] at h6
  obtain ⟨_, h7, _⟩ := nameOf_some.1 h6
  intro e; subst e; simp at h7

theorem nameV_is (r : Int) : ∃ (s : ByteArray) (e : Int), nameV r = .tup [.lit (.string s), .lit (.int .i64 e)] := by
  unfold nameV; split <;> exact ⟨_, _, rfl⟩

theorem sameNil_spec (gl : Nat → V) : FnP Tryz.prog gl 9 [.lit (.slice none 0 0), .lit (.slice none 0 0)] (.lit (.bool true)) := by
  refine FnR.one (FnR.intro mixed (rs := [.tmp 4]) (nt := 26) Tryz.func9 rfl (by decide) rfl (by simp) rfl (by kernel_rfl) ?_)
  simp only [↓hid_eq, skipV, updL_cons, updL_nil, WC_seq, WC_region, WC_draw, WC_skip, WC_ret, WC_cond, WC_block, WC_exit, WC_loop, seqQ_normal, seqQ_ret, seqQ_exit, blockQ_normal, blockQ_ret, blockQ_exit, loopQ_ret, loopQ_exit, loopQ_normal, againQ_normal, againQ_ret, againQ_exit, retHQ_normal, retHQ_ret, retQ_normal, retQ_ret, WL_nil, WL_guard, WL_alloc, WL_box, WL_store, WL_move, WL_assign, WL_load, WL_loadD, LdD_ptr, LdD_ept, WL_fieldAddr, WL_indexAddr, WL_index, WL_binOp, WL_extract, WL_unOp, WL_pick, WL_build, WL_buildSlice, WL_slice, WL_makeFunc, WL_len, WL_append, WL_call, bindO_some, guardV, Array.reduceGetElem?, ↓GuardW_tt, ↓GuardW_ff, ↓GuardW_tf, ↓GuardW_ft, ev_tmp, ev_const, ev_func, ev_global, put_some, put_none, new_ord, new_draw, app_new, app_draw, nextD_none, nextD_some, List.length_cons, List.length_nil, Nat.zero_add, upd_at, Nat.reduceEqDiff, Nat.reduceAdd, Nat.reduceSub, Nat.reduceMul, ↓reduceIte, Nat.reduceLT, true_and, opV, binV, binL, intL, strL, unL, Option.map_some, Option.map_none, CondW_true, CondW_false, Bool.false_eq_true, Bool.not_false, Bool.not_true, decide_true, decide_false, buildV, buildStV, buildArV, fillV, storeV, loadV, fieldAddrV, partV, cellsV, oneV, List.all_cons, List.all_nil, Bool.and_true, Bool.and_self, Nat.reduceLeDiff, List.take_succ_cons, List.take_zero, List.take_nil, List.drop_succ_cons, List.drop_zero, List.drop_nil, List.cons_append, List.nil_append, List.map_cons, List.map_nil, List.getElem?_cons_zero, List.getElem?_cons_succ, List.getElem?_nil, and_self, true_and, and_true, Nat.add_zero, Nat.le_refl, f1_0_ty, f1_0_arrT, f1_0_zero, f1_0_elt, f1_0_intT, f1_1_ty, f1_1_arrT, f1_1_zero, f1_1_elt, f1_1_isB, f1_2_ty, f1_2_arrT, f1_2_zero, f1_2_elt, f1_2_isT, f1_3_ty, f1_3_arrT, f1_3_zero, f1_3_elt, f1_3_intT, f1_4_ty, f1_4_arrT, f1_4_zero, f1_4_elt, f1_4_eltSz, f1_4_eltS, f1_4_appTy, f1_4_isS, f1_5_ty, f1_5_arrT, f1_5_zero, f1_5_elt, f1_5_flds, f1_5_fld0, f1_5_fld1, f1_6_ty, f1_6_arrT, f1_6_zero, f1_6_elt, f1_6_flds, f1_6_fld0, f1_6_fld1, f1_6_fld2, f1_6_fld3, f1_6_fld4, f1_7_ty, f1_7_arrT, f1_7_zero, f1_7_elt, f1_8_ty, f1_8_arrT, f1_8_zero, f1_8_elt, f1_8_eltSz, f1_8_eltS, f1_8_appTy, f1_8_isS, f1_9_ty, f1_9_arrT, f1_9_zero, f1_9_elt, f1_9_eltSz, f1_9_eltS, f1_9_appTy, f1_9_isS, f1_10_ty, f1_10_arrT, f1_10_zero, f1_10_elt, f1_11_ty, f1_11_arrT, f1_11_zero, f1_11_elt, Int.reduceLE, Int.reduceLT, Int.reduceToNat, Int.cast_ofNat_Int, Int.reduceAdd, Int.reduceSub, Int.reduceMul, Int.reduceNeg, wrap_in, decide_true, decide_false, Nat.reduceMul, lenV, bne_self_eq_false]
  refine LoopW.again ?_
  simp only [↓hid_eq, skipV, updL_cons, updL_nil, WC_seq, WC_region, WC_draw, WC_skip, WC_ret, WC_cond, WC_block, WC_exit, WC_loop, seqQ_normal, seqQ_ret, seqQ_exit, blockQ_normal, blockQ_ret, blockQ_exit, loopQ_ret, loopQ_exit, loopQ_normal, againQ_normal, againQ_ret, againQ_exit, retHQ_normal, retHQ_ret, retQ_normal, retQ_ret, WL_nil, WL_guard, WL_alloc, WL_box, WL_store, WL_move, WL_assign, WL_load, WL_loadD, LdD_ptr, LdD_ept, WL_fieldAddr, WL_indexAddr, WL_index, WL_binOp, WL_extract, WL_unOp, WL_pick, WL_build, WL_buildSlice, WL_slice, WL_makeFunc, WL_len, WL_append, WL_call, bindO_some, guardV, Array.reduceGetElem?, ↓GuardW_tt, ↓GuardW_ff, ↓GuardW_tf, ↓GuardW_ft, ev_tmp, ev_const, ev_func, ev_global, put_some, put_none, new_ord, new_draw, app_new, app_draw, nextD_none, nextD_some, List.length_cons, List.length_nil, Nat.zero_add, upd_at, Nat.reduceEqDiff, Nat.reduceAdd, Nat.reduceSub, Nat.reduceMul, ↓reduceIte, Nat.reduceLT, true_and, opV, binV, binL, intL, strL, unL, Option.map_some, Option.map_none, CondW_true, CondW_false, Bool.false_eq_true, Bool.not_false, Bool.not_true, decide_true, decide_false, buildV, buildStV, buildArV, fillV, storeV, loadV, fieldAddrV, partV, cellsV, oneV, List.all_cons, List.all_nil, Bool.and_true, Bool.and_self, Nat.reduceLeDiff, List.take_succ_cons, List.take_zero, List.take_nil, List.drop_succ_cons, List.drop_zero, List.drop_nil, List.cons_append, List.nil_append, List.map_cons, List.map_nil, List.getElem?_cons_zero, List.getElem?_cons_succ, List.getElem?_nil, and_self, true_and, and_true, Nat.add_zero, Nat.le_refl, f1_0_ty, f1_0_arrT, f1_0_zero, f1_0_elt, f1_0_intT, f1_1_ty, f1_1_arrT, f1_1_zero, f1_1_elt, f1_1_isB, f1_2_ty, f1_2_arrT, f1_2_zero, f1_2_elt, f1_2_isT, f1_3_ty, f1_3_arrT, f1_3_zero, f1_3_elt, f1_3_intT, f1_4_ty, f1_4_arrT, f1_4_zero, f1_4_elt, f1_4_eltSz, f1_4_eltS, f1_4_appTy, f1_4_isS, f1_5_ty, f1_5_arrT, f1_5_zero, f1_5_elt, f1_5_flds, f1_5_fld0, f1_5_fld1, f1_6_ty, f1_6_arrT, f1_6_zero, f1_6_elt, f1_6_flds, f1_6_fld0, f1_6_fld1, f1_6_fld2, f1_6_fld3, f1_6_fld4, f1_7_ty, f1_7_arrT, f1_7_zero, f1_7_elt, f1_8_ty, f1_8_arrT, f1_8_zero, f1_8_elt, f1_8_eltSz, f1_8_eltS, f1_8_appTy, f1_8_isS, f1_9_ty, f1_9_arrT, f1_9_zero, f1_9_elt, f1_9_eltSz, f1_9_eltS, f1_9_appTy, f1_9_isS, f1_10_ty, f1_10_arrT, f1_10_zero, f1_10_elt, f1_11_ty, f1_11_arrT, f1_11_zero, f1_11_elt, Int.reduceLE, Int.reduceLT, Int.reduceToNat, Int.cast_ofNat_Int, Int.reduceAdd, Int.reduceSub, Int.reduceMul, Int.reduceNeg, wrap_in, decide_true, decide_false, Nat.reduceMul, lenV, res_tmp]
  exact ret_eq rfl (.lit _) rfl

end Go.Proofs.YtkelfbakcpidjaaGreatDoor
