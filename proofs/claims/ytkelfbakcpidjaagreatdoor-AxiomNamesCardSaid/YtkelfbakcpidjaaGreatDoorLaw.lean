/- enthymemelaw24.AxiomNames returns true, whatever the rule, the parameters and the two lists of names, and leaves its arguments as they were; the four tables that the row lists hold what the program's text lays (they are never read). -/
import Derived.Test.YtkelfbakcpidjaaGreatDoorSp11
import Derived.Test.YtkelfbakcpidjaaGreatDoorRow
import Derived.Test.YtkelfbakcpidjaaGreatDoorFct2
import Derived.Test.YtkelfbakcpidjaaGreatDoorCards
import Derived.Test.YtkelfbakcpidjaaGreatDoorTie
set_option linter.unusedVariables false
set_option linter.unusedSimpArgs false
set_option maxRecDepth 100000
namespace Go.Proofs.YtkelfbakcpidjaaGreatDoor
open Go.ChangeShapes Go.WideShapes Go.ChangeAt Go.RowKit

theorem lawOwn : ownKnob Tryz.prog.godebug = none := by kernel_rfl
theorem lawLaid : laidOutB Tryz.prog = true := by kernel_rfl
theorem lawInt : Tryz.prog.underlying 3 = some (.int .i64) := by kernel_rfl
theorem lawInts : Tryz.prog.underlying 22 = some (.slice 3) := by kernel_rfl
theorem lawBool : Tryz.prog.underlying 4 = some .bool := by kernel_rfl
theorem lawCells : Tryz.prog.cellsOf 3 = 1 := by kernel_rfl
theorem lawBytes : Tryz.prog.bytesOf 3 = 8 := by kernel_rfl
theorem lawRdInt : Tryz.prog.readableRec 3 = true := by kernel_rfl
theorem lawRdInts : Tryz.prog.readableRec 22 = true := by kernel_rfl
theorem lawLtInt : 3 < Tryz.prog.types.size := of_decide_eq_true (by kernel_rfl)
theorem lawLtInts : 22 < Tryz.prog.types.size := of_decide_eq_true (by kernel_rfl)

theorem contract (H : Type) (enc : TypeId × Value → H) (W : World) (base : Nat) (args : Array Value) (ds gs : List (DataW H)) (before : List MemPlace)
    (hval : ∀ (j : Nat) t v, Tryz.f3.params[j]? = some t → args[j]? = some v → Value.okWide Tryz.prog W .any base t v)
    (hW : DataW.Whole enc Tryz.prog Tryz.f3.params.toList Rows.axiomNamesSpec.vars false W args.toList ds gs before)
    (hz : (DataW.weightsEach Tryz.prog (Tryz.f3.params.toList ++ (OpenSpec.ofChange Rows.axiomNamesSpec).bare.plain.varTypes Tryz.prog) (ds ++ gs)).all (· ≤ reachBytes) = true) :
    Calls Tryz.prog 3 args W fun e W' => ∃ v, e = .returned v ∧ Rows.axiomNamesSpec.post enc Tryz.prog Tryz.f3 false true false false W args v W' := by
  have hW' := hW
  have hlt := hW.lt
  obtain ⟨p, q, hA0, hV, rfl, hfz, hnd⟩ := hW
  have hA : DataW.TrodAll enc Tryz.prog W 0 (fun _ => true) true Tryz.f3.params.toList args.toList ds p := hA0
  rw [Tryz.params3] at hA hval hz
  obtain ⟨v0, v1, v2, v3, d0, d1, d2, d3, p0, p1, p2, p3, rfl, rfl, rfl, h0, h1, h2, h3⟩ := trodAll_four hA
  obtain ⟨rfl, rfl⟩ := trodVars_none hV
  obtain ⟨n, rfl, rfl, rfl, hn⟩ := open_int lawInt (hval 0 _ _ rfl rfl) h0
  obtain ⟨b0, b1⟩ := bounds_i64 hn
  obtain ⟨xs, r1, l1, z1, c1⟩ := arg_ints lawInts lawInt lawCells (hval 1 _ _ rfl rfl) h1
  obtain ⟨ys, r2, l2, z2, c2⟩ := arg_ints lawInts lawInt lawCells (hval 2 _ _ rfl rfl) h2
  obtain ⟨zs, r3, l3, z3, c3⟩ := arg_ints lawInts lawInt lawCells (hval 3 _ _ rfl rfl) h3
  have size : ∀ (j : Nat) (d : DataW H) (l : List Int), ([3, 22, 22, 22] ++ (OpenSpec.ofChange Rows.axiomNamesSpec).bare.plain.varTypes Tryz.prog)[j]? = some 22 → ([.lit (.int .i64 n), d1, d2, d3] ++ ([] : List (DataW H)))[j]? = some d →
      (∀ (es sp : List (DataW H)), d = .slice es sp → l.length ≤ es.length + sp.length) → (d = .nil → l = []) → (d = .nil ∨ ∃ es sp, d = .slice es sp) → l.length ≤ 17592186044416 := by
    intro j d l ht hd hl hn hc
    rcases hc with rfl | ⟨es, sp, rfl⟩
    · rw [hn rfl]; simp
    · have := sized_slice hz ht hd lawInts
      rw [lawBytes] at this
      have h3 := hl es sp rfl
      have h4 := reachBytes_lt
      omega
  have s1 := size 1 d1 xs rfl rfl l1 z1 c1
  have s2 := size 2 d2 ys rfl rfl l2 z2 c2
  have s3 := size 3 d3 zs rfl rfl l3 z3 c3
  have run := (names_spec (fun _ => .undef) n xs ys zs b0 b1 s1 s2 s3).run (worldFz W) W #[.int .i64 n, v1, v2, v3] (fzOk_world W) (glOk_undef _) ⟨rfl, fun i x y hx hy => by
    rcases i with _ | _ | _ | _ | i
    · cases hx; cases hy; exact .lit _
    · cases hx; cases hy; exact r1
    · cases hx; cases hy; exact r2
    · cases hx; cases hy; exact r3
    · simp at hx⟩
  refine run.mono fun e W' hE => ?_
  obtain ⟨v, fz', rfl, hv, _, _, hB⟩ := hE
  cases hv
  have keep : ∀ {t : TypeId} {v : Value} {d : DataW H} {ps : List MemPlace}, Tryz.prog.readableRec t = true → t < Tryz.prog.types.size → DataW.Trod enc Tryz.prog W 0 (fun _ => true) true t v d ps → (∀ x ∈ ps, x.block < W.heap.size) →
      ∀ sp : Nat → Bool, (∀ x ∈ ps, sp x.block = true) → DataW.Trod enc Tryz.prog W' 0 sp true t v d ps := fun hr ht h hl sp hs => WideElems.Trod_stays lawLaid hr ht h (fun x hx => hB.same (hl x hx)) hs
  refine ⟨_, rfl, post_below (pa := [] ++ (p1 ++ (p2 ++ p3))) (pv := []) hW' (fun _ _ _ => trodAll_cons_mk (shut_bool lawBool _) trodAll_mk0) (fun sp hsp => ?_) (fun _ _ => rfl) (by simp) hB (ok_one (by kernel_rfl) rfl (okWide_bool_mk lawBool _))⟩
  rw [Tryz.params3]
  refine trodAll_mk4 (shut_int lawInt hn) (keep lawRdInts lawLtInts h1 ?_ sp ?_) (keep lawRdInts lawLtInts h2 ?_ sp ?_) (keep lawRdInts lawLtInts h3 ?_ sp ?_)
  all_goals
    intro x hx
    first
      | exact hlt x (by simp [hx])
      | exact hsp x (by simp [hx])

/-- A world for the witness: the four tables hold what the program's text lays. -/
def cellOf : DataW Unit → Value
  | .lit (.int k n) => .int k n
  | _ => .bool false
def layAt (d : DataW Unit) : Obj → Obj
  | .cells _ t frozen => .cells (match d with | .agg ds => (ds.map cellOf).toArray | x => #[cellOf x]) t frozen
  | o => o
noncomputable def laidWorld (os : Os) : World :=
  { World.holding Tryz.prog os ⟨#[], #[], []⟩ with heap := ((((World.holding Tryz.prog os ⟨#[], #[], []⟩).heap.modify 0 (layAt Rows.laid_internal_strconv_uint64pow10)).modify 1 (layAt Rows.laid_math_bits_deBruijn32tab)).modify
      2 (layAt Rows.laid_math_bits_deBruijn64tab)).modify 3 (layAt Rows.laid_enthymeme_term_kids) }
def args0 : Array Value := #[.int .i64 0, .slice none 0 0, .slice none 0 0, .slice none 0 0]
theorem laid_met (os : Os) : laidMet Tryz.prog Rows.axiomNamesRow.laid ((laidWorld os).forCall (fun _ _ => 0) ⟨#[], args0, []⟩).memory :=
  laidMet_of_run' 8 (by kernel_rfl) (by kernel_rfl)
theorem reads (os : Os) {H : Type} (enc : TypeId × Value → H) : ∃ places, DataW.whole enc Tryz.prog ((laidWorld os).forCall (fun _ _ => 0) ⟨#[], args0, []⟩).memory Tryz.f3.params.toList Rows.axiomNamesSpec.vars false args0.toList 8 =
    some ([.lit (.int .i64 0), .nil, .nil, .nil], [], places) :=
  ⟨[], by kernel_rfl⟩

theorem lifted (os : Os) (started : os.Started) (H : Type) (enc : TypeId × Value → H) (F : Stop.Interp) :
    ReturnsInHanded {} Tryz.checked os 3 .any ((OpenSpec.ofChange Rows.axiomNamesSpec).preRow enc Tryz.prog Tryz.f3 Rows.axiomNamesRow.domain false Rows.axiomNamesRow.laid)
      (((OpenSpec.ofChange Rows.axiomNamesSpec).at F).post enc Tryz.prog Tryz.f3 false true false false) := by
  obtain ⟨places, hx⟩ := reads os enc
  refine returnsInHanded_of_row (C := Tryz.checked) (s := OpenSpec.ofChange Rows.axiomNamesSpec) lawOwn started (by kernel_rfl) Tryz.func3
    (witness_row_at (enc := enc) (C := Tryz.checked) false (laidWorld os) args0 rfl (by kernel_rfl) (by kernel_rfl) (by kernel_rfl)
      (OpenSpec.preRow_of_cond 8 hx (by kernel_rfl) (fun k hk => by cases hk) (by kernel_rfl) (laid_met os))) ?_
  intro W base args ds gs before hval hW _ _ hz hL _ _
  exact contract H enc W base args ds gs before hval hW hz

theorem names_said : Rows.AxiomNamesSaid :=
  OpenClaim.holds_of_cond 3 Tryz.f3 rfl rfl rfl rfl rfl rfl rfl ⟨rfl, rfl, rfl, rfl, rfl⟩ rfl rfl rfl rfl rfl fct_named Tryz.func3 fct_all
    (of_decide_eq_true (by kernel_rfl)) (by unfold Func.isWrapper; first | (rw [if_pos (by decide +kernel)]; kernel_rfl) | (rw [if_neg (by decide +kernel)]; exact ⟨rfl, rfl⟩))
    (fun os started H enc _ F => by rw [OpenClaim.pre_eq_preRow]; exact lifted os started H enc F)

/-- No parameter wants a stand-in; the program's own looks are off. -/
theorem names_plain (f : FuncId) (fn : Func) (hf : Tryz.pinned.checked.prog.funcNamed "enthymeme/enthymemelaw24.AxiomNames" = some f) (hfn : Tryz.pinned.checked.prog.funcs[f]? = some fn) :
    false = Tryz.pinned.checked.prog.looks [] ∧ ∀ (j : Nat) t, fn.params[j]? = some t → Tryz.pinned.checked.prog.wantsStandIn t = false := by
  obtain rfl : f = 3 := Option.some.inj ((show Tryz.prog.funcNamed "enthymeme/enthymemelaw24.AxiomNames" = some 3 by kernel_rfl).symm.trans hf) |>.symm
  obtain rfl : fn = Tryz.f3 := (Option.some.inj (Tryz.func3.symm.trans hfn)).symm
  refine ⟨by kernel_rfl, fun j t ht => ?_⟩
  rw [Tryz.params3] at ht
  rcases j with _ | _ | _ | _ | j
  · cases ht; exact (show Tryz.prog.wantsStandIn 3 = false by kernel_rfl)
  · cases ht; exact (show Tryz.prog.wantsStandIn 22 = false by kernel_rfl)
  · cases ht; exact (show Tryz.prog.wantsStandIn 22 = false by kernel_rfl)
  · cases ht; exact (show Tryz.prog.wantsStandIn 22 = false by kernel_rfl)
  · simp at ht

theorem names_card : Rows.AxiomNamesCardSaid :=
  Claim7.holds_tied_plain_at .later [] _ _ _ _ names_said (fun _ h => by cases h) (by kernel_rfl) (fun _ h => by cases h) axiomNames_row_tie rfl ⟨rfl, rfl⟩ (by kernel_rfl) rfl names_plain (by kernel_rfl)
#print axioms names_card

end Go.Proofs.YtkelfbakcpidjaaGreatDoor
