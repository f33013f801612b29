/- The reference's name of a rule. -/
import Derived.Test.YtkelfbakcpidjaaGreatDoorSp2
set_option linter.unusedVariables false
set_option linter.unusedSimpArgs false
set_option maxRecDepth 100000
namespace Go.Proofs.YtkelfbakcpidjaaGreatDoor
open Go.RowKit

def thName (n : Int) : ByteArray :=
  if n < 10 then ⟨#[97, 114, 114, 97, 121, 115]⟩ else if n < 30 then ⟨#[115, 116, 114, 105, 110, 103, 115]⟩ else if n < 50 then ⟨#[119, 111, 114, 100, 115]⟩ else ⟨#[109, 101, 109, 98, 101, 114, 115]⟩
def thBase (n : Int) : Int := if n < 10 then 0 else if n < 30 then 10 else if n < 50 then 30 else 50
theorem thName_size (n : Int) : (thName n).size ≤ 7 := by unfold thName; split; decide; split; decide; split <;> decide
theorem decF_size (n : Int) (h0 : 0 ≤ n) (h1 : n < 20) : (decF n).size ≤ 2 := by
  obtain ⟨i, rfl, hi⟩ := upto (k := 20) h0 h1 (p := fun i => Nat.ble (decF (i : Int)).size 2) (by kernel_rfl)
  exact Nat.le_of_ble_eq_true hi
theorem thBase_in {n : Int} (h0 : 0 ≤ n) (h1 : n ≤ 59) : 0 ≤ n - thBase n ∧ n - thBase n < 20 := by
  unfold thBase
  split
  · omega
  · split
    · omega
    · split <;> omega
theorem theory_spec' (gl : Nat → V) (n : Int) (h0 : 0 ≤ n) (h1 : n ≤ 59) :
    FnP Tryz.prog gl 13 [.lit (.int .i64 n)] (.tup [.lit (.string (thName n)), .lit (.int .i64 (thBase n)), .lit (.bool true)]) := by
  have h := theory_spec gl n h0 h1
  revert h
  unfold thName thBase
  split
  · exact id
  · split
    · exact id
    · split <;> exact id

def nameF (n : Int) : ByteArray := thName n ++ ⟨#[45]⟩ ++ decF (n - thBase n)

theorem refName_spec (gl : Nat → V) (n : Int) (h0 : 0 ≤ n) (h1 : n ≤ 59) :
    FnP Tryz.prog gl 6 [.lit (.int .i64 n)] (.tup [.lit (.string (nameF n)), .lit (.int .i64 0)]) := by
  refine FnR.one (FnR.intro mixed (rs := [.tmp 2, .tmp 3]) (nt := 22) Tryz.func6 rfl (by decide) rfl (by simp) rfl (by kernel_rfl) ?_)
  simp only [↓hid_eq, skipV, updL_cons, updL_nil, WC_seq, WC_region, WC_draw, WC_skip, WC_ret, WC_cond, WC_block, WC_exit, WC_loop, seqQ_normal, seqQ_ret, seqQ_exit, blockQ_normal, blockQ_ret, blockQ_exit, loopQ_ret, loopQ_exit, loopQ_normal, againQ_normal, againQ_ret, againQ_exit, retHQ_normal, retHQ_ret, retQ_normal, retQ_ret, WL_nil, WL_guard, WL_alloc, WL_box, WL_store, WL_move, WL_assign, WL_load, WL_loadD, LdD_ptr, LdD_ept, WL_fieldAddr, WL_indexAddr, WL_index, WL_binOp, WL_extract, WL_unOp, WL_pick, WL_build, WL_buildSlice, WL_slice, WL_makeFunc, WL_len, WL_append, WL_call, bindO_some, guardV, Array.reduceGetElem?, ↓GuardW_tt, ↓GuardW_ff, ↓GuardW_tf, ↓GuardW_ft, ev_tmp, ev_const, ev_func, ev_global, put_some, put_none, new_ord, new_draw, app_new, app_draw, nextD_none, nextD_some, List.length_cons, List.length_nil, Nat.zero_add, upd_at, Nat.reduceEqDiff, Nat.reduceAdd, Nat.reduceSub, Nat.reduceMul, ↓reduceIte, Nat.reduceLT, true_and, opV, binV, binL, intL, strL, unL, Option.map_some, Option.map_none, CondW_true, CondW_false, Bool.false_eq_true, Bool.not_false, Bool.not_true, decide_true, decide_false]
  refine CallW.fn (theory_spec' _ n h0 h1) (by simp only [List.map_cons, List.map_nil, ev_tmp, ev_const, ev_func, upd_at, strip_lit, List.append_nil, Nat.reduceEqDiff, ↓reduceIte]) (fun x hx => by simp at hx; subst hx; exact .lit _) ?_
  obtain ⟨b0, b1⟩ := thBase_in h0 h1
  have w1 : IntKind.i64.wrap (n - thBase n) = n - thBase n := wrap_in (by omega) (by omega)
  have z1 := thName_size n
  have z2 := decF_size _ b0 b1
  have z3 : (thName n).size + ByteArray.size ⟨#[45]⟩ ≤ 1000000000000 := by have : ByteArray.size ⟨#[45]⟩ = 1 := rfl; omega
  simp only [↓hid_eq, skipV, updL_cons, updL_nil, WC_seq, WC_region, WC_draw, WC_skip, WC_ret, WC_cond, WC_block, WC_exit, WC_loop, seqQ_normal, seqQ_ret, seqQ_exit, blockQ_normal, blockQ_ret, blockQ_exit, loopQ_ret, loopQ_exit, loopQ_normal, againQ_normal, againQ_ret, againQ_exit, retHQ_normal, retHQ_ret, retQ_normal, retQ_ret, WL_nil, WL_guard, WL_alloc, WL_box, WL_store, WL_move, WL_assign, WL_load, WL_loadD, LdD_ptr, LdD_ept, WL_fieldAddr, WL_indexAddr, WL_index, WL_binOp, WL_extract, WL_unOp, WL_pick, WL_build, WL_buildSlice, WL_slice, WL_makeFunc, WL_len, WL_append, WL_call, bindO_some, guardV, Array.reduceGetElem?, ↓GuardW_tt, ↓GuardW_ff, ↓GuardW_tf, ↓GuardW_ft, ev_tmp, ev_const, ev_func, ev_global, put_some, put_none, new_ord, new_draw, app_new, app_draw, nextD_none, nextD_some, List.length_cons, List.length_nil, Nat.zero_add, upd_at, Nat.reduceEqDiff, Nat.reduceAdd, Nat.reduceSub, Nat.reduceMul, ↓reduceIte, Nat.reduceLT, true_and, opV, binV, binL, intL, strL, unL, Option.map_some, Option.map_none, CondW_true, CondW_false, Bool.false_eq_true, Bool.not_false, Bool.not_true, decide_true, decide_false, List.getElem?_cons_zero, List.getElem?_cons_succ, z3, w1]
  refine CallW.fn (decimal_spec _ _ b0 (by omega)) (by simp only [List.map_cons, List.map_nil, ev_tmp, ev_const, ev_func, upd_at, strip_lit, List.append_nil, Nat.reduceEqDiff, ↓reduceIte]) (fun x hx => by simp at hx; subst hx; exact .lit _) ?_
  have z4 : (thName n ++ ⟨#[45]⟩).size + (decF (n - thBase n)).size ≤ 1000000000000 := by rw [ByteArray.size_append]; have : ByteArray.size ⟨#[45]⟩ = 1 := rfl; omega
  simp only [↓hid_eq, skipV, updL_cons, updL_nil, WC_seq, WC_region, WC_draw, WC_skip, WC_ret, WC_cond, WC_block, WC_exit, WC_loop, seqQ_normal, seqQ_ret, seqQ_exit, blockQ_normal, blockQ_ret, blockQ_exit, loopQ_ret, loopQ_exit, loopQ_normal, againQ_normal, againQ_ret, againQ_exit, retHQ_normal, retHQ_ret, retQ_normal, retQ_ret, WL_nil, WL_guard, WL_alloc, WL_box, WL_store, WL_move, WL_assign, WL_load, WL_loadD, LdD_ptr, LdD_ept, WL_fieldAddr, WL_indexAddr, WL_index, WL_binOp, WL_extract, WL_unOp, WL_pick, WL_build, WL_buildSlice, WL_slice, WL_makeFunc, WL_len, WL_append, WL_call, bindO_some, guardV, Array.reduceGetElem?, ↓GuardW_tt, ↓GuardW_ff, ↓GuardW_tf, ↓GuardW_ft, ev_tmp, ev_const, ev_func, ev_global, put_some, put_none, new_ord, new_draw, app_new, app_draw, nextD_none, nextD_some, List.length_cons, List.length_nil, Nat.zero_add, upd_at, Nat.reduceEqDiff, Nat.reduceAdd, Nat.reduceSub, Nat.reduceMul, ↓reduceIte, Nat.reduceLT, true_and, opV, binV, binL, intL, strL, unL, Option.map_some, Option.map_none, CondW_true, CondW_false, Bool.false_eq_true, Bool.not_false, Bool.not_true, decide_true, decide_false, z4, res_tmp2]
  exact ret_eq rfl (D.tup2 (.lit _) (.lit _)) (rfl)

end Go.Proofs.YtkelfbakcpidjaaGreatDoor
