/- append. -/
import Derived.Test.YtkelfbakcpidjaaGreatDoorAmCut
set_option linter.unusedVariables false
set_option linter.unusedSimpArgs false
namespace Go.Proofs.YtkelfbakcpidjaaGreatDoor
open Go.RowKit

/-- What can be appended to: its token, its rows. -/
def baseV (s : St) : V → Option (Option Nat × List (List V))
  | .lit (.slice none 0 0) => some (none, [])
  | .sl .exact rows => some (none, rows)
  | .sl (.own b) rows => match s.h b with
    | some (.room n) => if n = rows.length then some (some b, rows) else none
    | _ => none
  | _ => none
def srcV : V → Option (List (List V))
  | .lit (.slice none 0 0) => some []
  | .sl _ ys => some ys
  | _ => none

/-- The cells and bytes of an element of a slice. -/
def appTy (P : Program) (t : TypeId) : Option (Nat × Nat) :=
  match elt P t with
  | none => none
  | some e => match P.info? e with
    | none => none
    | some i => match i.zero with
      | none => none
      | some z => if z.cells.size = i.size ∧ 0 < i.size then some (i.size, i.bytes) else none

theorem appTy_spec {P : Program} {t : TypeId} {sz nb : Nat} (h : appTy P t = some (sz, nb)) :
    ∃ e i z, P.underlying t = some (.slice e) ∧ P.info? e = some i ∧ i.zero = some z ∧ z.cells.size = i.size ∧ 0 < i.size ∧ i.size = sz ∧ i.bytes = nb := by
  unfold appTy at h
  cases he : elt P t with
  | none => simp [he] at h
  | some e =>
    simp only [he] at h
    cases hi : P.info? e with
    | none => simp [hi] at h
    | some i =>
      simp only [hi] at h
      cases hz : i.zero with
      | none => simp [hz] at h
      | some z =>
        simp only [hz] at h
        split at h
        · rename_i hc
          simp only [Option.some.injEq, Prod.mk.injEq] at h
          exact ⟨e, i, z, elt_spec he, hi, hz, hc.1, hc.2, h.1, h.2⟩
        · cases h

/-- The append is within what a slice can take up. -/
structure AppOk (P : Program) (t : TypeId) (rows ys : List (List V)) : Prop where
  ex : ∃ sz nb, appTy P t = some (sz, nb) ∧ (rows.length + ys.length) * nb ≤ 140737488355328 ∧
    (∀ r, r ∈ rows → r.length = sz) ∧ (∀ r, r ∈ ys → r.length = sz ∧ r.all oneV = true)
  len : rows.length + ys.length ≤ 9223372036854775807

/-- The state behind an append. -/
def St.app (s : St) (nb : Nat) (d : Option Tmp) (tok : Option Nat) (rows ys : List (List V)) : St :=
  { s.put d (.sl (.own (tok.getD nb)) (rows ++ ys)) with h := upd s.h (tok.getD nb) (some (.room (rows.length + ys.length))), nx := nextNo s.nx (tok.getD nb) }

/-- The cells of a slice's rows, one behind the other. -/
theorem RV.sl_cells {g : Gh} {c : Cap} {rows : List (List V)} {v : Value} (h : RV g (.sl c rows) v) {sz : Nat} (hsz : 0 < sz) (hs : ∀ r, r ∈ rows → r.length = sz) :
    ∃ (a : Option Addr) (cap : Nat) (F : Nat → Value), v = .slice a rows.length cap ∧ rows.length ≤ cap ∧ (c = .exact → cap = rows.length) ∧
      (rows.length = 0 ∨ ∃ blk off, a = some ⟨blk, off, none⟩ ∧ (∀ q, q < rows.length * sz → g.fz blk (off + q) = some (F q)) ∧ ∀ b, c = .own b → g.loc b rows.length = some (blk, off, cap, sz)) ∧
      (∀ (i : Nat) r j x, rows[i]? = some r → r[j]? = some x → RV g x (F (i * sz + j))) ∧
      (∀ b, c = .own b → rows.length = 0 → (cap = 0 ∧ g.loc b 0 = none) ∨ ∃ blk off sz', a = some ⟨blk, off, none⟩ ∧ g.loc b 0 = some (blk, off, cap, sz')) := by
  cases h with
  | slnil _ a ho => exact ⟨a, 0, fun _ => Go.undef, rfl, Nat.le_refl _, fun _ => rfl, .inl rfl, fun i r j x h => by simp at h, fun b hb _ => .inl ⟨rfl, ho b hb⟩⟩
  | sl _ _ sz' blk off cap f hn hs' hc hv hx ho =>
    have hq : ∀ i r, rows[i]? = some r → sz' = sz := fun i r hi => by rw [← hs' i r hi]; exact hs r (List.mem_of_getElem? hi)
    refine ⟨_, cap, fun q => f (q / sz) (q % sz), rfl, hn, hx, ?_, ?_, ?_⟩
    · by_cases h0 : rows.length = 0
      · exact .inl h0
      · have hsz' : sz' = sz := hq 0 rows[0] (List.getElem?_eq_getElem (by omega))
        subst hsz'
        refine .inr ⟨blk, off, rfl, fun q hql => ?_, ho⟩
        have h1 : q / sz' < rows.length := by rw [Nat.div_lt_iff_lt_mul hsz]; exact hql
        have := hc (q / sz') (q % sz') h1 (Nat.mod_lt _ hsz)
        rwa [Nat.mul_comm, Nat.div_add_mod] at this
    · intro i r j x hi hj
      have hsz' := hq i r hi
      have hjl : j < sz := by rw [← hs r (List.mem_of_getElem? hi)]; exact (List.getElem?_eq_some_iff.1 hj).1
      have e1 : (i * sz + j) / sz = i := by rw [Nat.mul_comm, Nat.mul_add_div hsz, Nat.div_eq_of_lt hjl]; rfl
      have e2 : (i * sz + j) % sz = j := by rw [Nat.mul_comm, Nat.mul_add_mod, Nat.mod_eq_of_lt hjl]
      simp only [e1, e2]
      exact hv i r j x hi hj
    · intro b hb h0
      exact .inr ⟨blk, off, sz', rfl, by rw [← h0]; exact ho b hb⟩

theorem run_append_room' {P : Program} (w : World) (t ty e : TypeId) (i : TypeInfo) (ht : P.underlying t = some (.slice e)) (hi : P.info? e = some i)
    (g sLen sCap : Nat) (T : TypeId) (cur : Array Value) (hg : w.heap[g]? = some (.cells cur T (0, 0)))
    (a : Addr) (m c : Nat) (news : List Value) (hl : news.length = m * i.size) (hnews : ∀ j u, news[j]? = some u → w.cell? (a.add j) = some u) (h1 : ∀ u ∈ news, u.oneCell' = true)
    (hroom : sLen + m ≤ sCap) (hfit : sLen * i.size + news.length ≤ cur.size) :
    (Builtin.append_ #[t, t] ty #[.slice (some ⟨g, 0, none⟩) sLen sCap, .slice (some a) m c]).run P w =
      .ok (.slice (some ⟨g, 0, none⟩) (sLen + m) sCap) (w.setRow g (cur.toList.take (sLen * i.size) ++ news ++ cur.toList.drop (sLen * i.size + news.length)).toArray) := by
  have hf := run_firstCells_some (P := P) w i.size m a m c news hl hnews
  have hst := run_storeCells_at P g (sLen * i.size) T news 0 cur w hg (by simpa using hfit) h1
  simp only [Nat.add_zero] at hst
  have hadd : (⟨g, 0, none⟩ : Addr).add (sLen * i.size) = ⟨g, sLen * i.size, none⟩ := by rw [Addr.add_mk, Nat.zero_add]
  simp [Builtin.append_, run_underlying ht, sizeOf, typeInfo, hi, Builtin.lenOf, hroom, hf, hadd, hst]

/-- Nothing is appended. -/
theorem run_append_none {P : Program} (w : World) (t ty e : TypeId) (i : TypeInfo) (ht : P.underlying t = some (.slice e)) (hi : P.info? e = some i)
    (b : Option Addr) (sLen sCap : Nat) (hle : sLen ≤ sCap) (a : Option Addr) (c : Nat) :
    (Builtin.append_ #[t, t] ty #[.slice b sLen sCap, .slice a 0 c]).run P w = .ok (.slice b sLen sCap) w := by
  have hf : (Builtin.firstCells i.size 0 (.slice a 0 c)).run P w = .ok #[] w := by
    cases a with
    | none => simp [Builtin.firstCells]
    | some a => simp [Builtin.firstCells, loadCells, loadCellsFrom]
  have hs : ∀ ad, (storeCells ad []).run P w = .ok () w := fun ad => rfl
  cases b <;> simp [Builtin.append_, run_underlying ht, sizeOf, typeInfo, hi, Builtin.lenOf, hle, hf, hs]

/-- A new row of cells that holds the rows of two slices. -/
theorem run_append_new {P : Program} (w : World) (t ty e : TypeId) (i : TypeInfo) (z : Value) (ht : P.underlying t = some (.slice e)) (hi : P.info? e = some i) (hz : i.zero = some z) (hzs : z.cells.size = i.size)
    (b : Option Addr) (sLen sCap : Nat) (olds : List Value) (hlo : olds.length = sLen * i.size) (hb : b = none → sLen = 0 ∧ sCap = 0) (holds : ∀ bb, b = some bb → ∀ j v, olds[j]? = some v → w.cell? (bb.add j) = some v)
    (a : Addr) (n c : Nat) (news : List Value) (hl : news.length = n * i.size) (hnews : ∀ j v, news[j]? = some v → w.cell? (a.add j) = some v)
    (h0 : 0 < n) (hg : sCap < sLen + n) (hle : sLen ≤ sCap) (h63 : sLen + n ≤ 9223372036854775807) (hby : (sLen + n) * i.bytes ≤ 140737488355328) :
    ∃ (cap : Nat) (arr : Array Value), (Builtin.append_ #[t, t] ty #[.slice b sLen sCap, .slice (some a) n c]).run P w = .ok (.slice (some ⟨w.heap.size, 0, none⟩) (sLen + n) cap) (w.drew.alloc (.cells arr e)) ∧
      sLen + n ≤ cap ∧ cap * i.size ≤ arr.size ∧ ∀ (j : Nat) (v : Value), (olds ++ news)[j]? = some v → arr[j]? = some v := by
  have hcap := grownCap_ge w (sLen + n) sCap e
  cases b with
  | none =>
    obtain ⟨rfl, rfl⟩ := hb rfl
    have ho : olds = [] := by simpa using hlo
    subst ho
    simp only [Nat.zero_add] at *
    refine ⟨_, _, run_append_nil w t ty e i z ht hi hz a n c news hl hnews h0 (by omega) (by omega), hcap, ?_, fun j v hj => ?_⟩
    · have := size_zeroCells z.cells (grownCap w n 0 e - n)
      simp only [Array.size_append, List.size_toArray, this, hl, hzs, ← Nat.add_mul]
      exact Nat.mul_le_mul_right _ (by omega)
    · rw [List.nil_append] at hj
      have hlt := (List.getElem?_eq_some_iff.1 hj).1
      rw [Array.getElem?_append_left (by simpa using hlt)]
      simpa using hj
  | some bb =>
    refine ⟨_, _, run_append_grow w t ty e i z ht hi hz bb sLen sCap olds hlo (holds bb rfl) a n c news hl hnews hg (by omega) (growslice_fits hg hby), hcap, ?_, fun j v hj => ?_⟩
    · have := size_zeroCells z.cells (grownCap w (sLen + n) sCap e - (sLen + n))
      simp only [Array.size_append, List.size_toArray, this, hl, hlo, hzs, ← Nat.add_mul]
      exact Nat.mul_le_mul_right _ (by omega)
    · have hlt := (List.getElem?_eq_some_iff.1 hj).1
      rw [Array.getElem?_append_left (by simpa using hlt)]
      simpa using hj

theorem upd_upd {α : Type} (f : Nat → α) (b : Nat) (x y : α) : upd (upd f b x) b y = upd f b y := by
  funext i; by_cases e : i = b
  · subst e; rw [upd_same, upd_same]
  · rw [upd_ne _ _ _ e, upd_ne _ _ _ e, upd_ne _ _ _ e]
theorem upd_id {α : Type} (f : Nat → α) (b : Nat) : upd f b (f b) = f := by
  funext i; by_cases e : i = b
  · subst e; rw [upd_same]
  · rw [upd_ne _ _ _ e]

/-- Rows told by a function. -/
theorem RV.rowF {g : Gh} {rows : List (List V)} {sz blk off cap : Nat} {F : Nat → Value} {c : Cap} (hn : rows.length ≤ cap) (hs : ∀ r, r ∈ rows → r.length = sz)
    (hc : ∀ k, k < rows.length * sz → g.fz blk (off + k) = some (F k))
    (hv : ∀ (i : Nat) r j x, rows[i]? = some r → r[j]? = some x → RV g x (F (i * sz + j))) (hx : c = .exact → cap = rows.length)
    (ho : ∀ b, c = .own b → g.loc b rows.length = some (blk, off, cap, sz)) : RV g (.sl c rows) (.slice (some ⟨blk, off, none⟩) rows.length cap) :=
  .sl c rows sz blk off cap (fun i j => F (i * sz + j)) hn (fun i r h => hs r (List.mem_of_getElem? h)) (fun i j hi hj => hc (i * sz + j) (by
    have : (i + 1) * sz ≤ rows.length * sz := Nat.mul_le_mul_right _ hi
    rw [Nat.add_mul] at this; omega)) hv hx ho

theorem rows_append_at {rows ys : List (List V)} {g : Gh} {sz : Nat} {F G : Nat → Value} (hs : ∀ r, r ∈ rows → r.length = sz)
    (h1 : ∀ (i : Nat) r j x, rows[i]? = some r → r[j]? = some x → RV g x (F (i * sz + j)))
    (h2 : ∀ (i : Nat) r j x, ys[i]? = some r → r[j]? = some x → RV g x (G (i * sz + j))) :
    ∀ (i : Nat) r j x, (rows ++ ys)[i]? = some r → r[j]? = some x → r.length = sz → RV g x ((fun k => if k < rows.length * sz then F k else G (k - rows.length * sz)) (i * sz + j)) := by
  intro i r j x hi hj hr
  have hjl : j < sz := by rw [← hr]; exact (List.getElem?_eq_some_iff.1 hj).1
  simp only []
  by_cases hlt : i < rows.length
  · rw [List.getElem?_append_left hlt] at hi
    have : (i + 1) * sz ≤ rows.length * sz := Nat.mul_le_mul_right _ hlt
    rw [Nat.add_mul] at this
    rw [if_pos (by omega)]
    exact h1 i r j x hi hj
  · rw [List.getElem?_append_right (by omega)] at hi
    have : rows.length * sz ≤ i * sz := Nat.mul_le_mul_right _ (by omega)
    rw [if_neg (by omega)]
    have := h2 (i - rows.length) r j x hi hj
    rw [Nat.sub_mul] at this
    rwa [show i * sz + j - rows.length * sz = i * sz - rows.length * sz + j by omega]

/-- The base of an append, spelled out. -/
theorem baseV_rv {E : Env} {s : St} {g : Gh} {w : World} (H : Mem E g s.h s.nx w) {x : V} {v : Value} (hx : RV g x v) {tok : Option Nat} {rows : List (List V)} (hb : baseV s x = some (tok, rows)) {sz : Nat} (hsz : 0 < sz)
    (hs : ∀ r, r ∈ rows → r.length = sz) :
    ∃ (a : Option Addr) (cap : Nat) (F : Nat → Value), v = .slice a rows.length cap ∧ rows.length ≤ cap ∧ (tok = none → cap = rows.length) ∧
      (rows.length = 0 → cap = 0) ∧
      (rows.length = 0 ∨ ∃ blk off, a = some ⟨blk, off, none⟩ ∧ (∀ q, q < rows.length * sz → g.fz blk (off + q) = some (F q)) ∧ ∀ b, tok = some b → g.loc b rows.length = some (blk, off, cap, sz)) ∧
      (∀ (i : Nat) r j x, rows[i]? = some r → r[j]? = some x → RV g x (F (i * sz + j))) ∧
      (∀ b, tok = some b → s.h b = some (.room rows.length) ∧ (rows.length = 0 → g.loc b 0 = none)) := by
  unfold baseV at hb
  split at hb
  · simp only [Option.some.injEq, Prod.mk.injEq] at hb
    obtain ⟨rfl, rfl⟩ := hb
    cases hx
    exact ⟨none, 0, fun _ => Go.undef, rfl, Nat.le_refl _, fun _ => rfl, fun _ => rfl, .inl rfl, fun i r j x h => by simp at h, fun b h => by cases h⟩
  · rename_i rows'
    simp only [Option.some.injEq, Prod.mk.injEq] at hb
    obtain ⟨rfl, rfl⟩ := hb
    obtain ⟨a, cap, F, h1, h2, h3, h4, h5, h6⟩ := hx.sl_cells hsz hs
    refine ⟨a, cap, F, h1, h2, fun _ => h3 rfl, fun h0 => by rw [h3 rfl]; exact h0, ?_, h5, fun b h => by cases h⟩
    rcases h4 with h4 | ⟨blk, off, h4, h7, _⟩
    · exact .inl h4
    · exact .inr ⟨blk, off, h4, h7, fun b h => by cases h⟩
  · rename_i b rows'
    cases hh : s.h b with
    | none => simp [hh] at hb
    | some k =>
      cases k with
      | cells cs => simp [hh] at hb
      | rsv => simp [hh] at hb
      | map es => simp [hh] at hb
      | loop => simp [hh] at hb
      | dfr => simp [hh] at hb
      | room n =>
        simp only [hh] at hb
        split at hb
        · rename_i hn
          simp only [Option.some.injEq, Prod.mk.injEq] at hb
          obtain ⟨rfl, rfl⟩ := hb
          subst hn
          obtain ⟨a, cap, F, h1, h2, h3, h4, h5, h6⟩ := hx.sl_cells hsz hs
          have hroom := (H.room b _ hh).2
          have hz : rows'.length = 0 → cap = 0 ∧ g.loc b 0 = none := by
            intro h0
            rcases h6 b rfl h0 with h7 | ⟨blk, off, sz', h7, h8⟩
            · exact h7
            · rw [h0, h8] at hroom
              exact absurd hroom.1.1 (by omega)
          refine ⟨a, cap, F, h1, h2, fun h => (by cases h), fun h0 => (hz h0).1, ?_, h5, fun b' h => by injection h with h; subst h; exact ⟨hh, fun h0 => (hz h0).2⟩⟩
          rcases h4 with h4 | ⟨blk, off, h4, h7, h8⟩
          · exact .inl h4
          · exact .inr ⟨blk, off, h4, h7, fun b' h => by injection h with h; subst h; exact h8 _ rfl⟩
        · cases hb
  · cases hb

theorem srcV_rv {g : Gh} {x : V} {v : Value} (hx : RV g x v) {ys : List (List V)} (hb : srcV x = some ys) {sz : Nat} (hsz : 0 < sz) (hs : ∀ r, r ∈ ys → r.length = sz) :
    ∃ (a : Option Addr) (cap : Nat) (F : Nat → Value), v = .slice a ys.length cap ∧
      (ys.length = 0 ∨ ∃ blk off, a = some ⟨blk, off, none⟩ ∧ (∀ q, q < ys.length * sz → g.fz blk (off + q) = some (F q))) ∧
      (∀ (i : Nat) r j x, ys[i]? = some r → r[j]? = some x → RV g x (F (i * sz + j))) := by
  unfold srcV at hb
  split at hb
  · injection hb with hb; subst hb
    cases hx
    exact ⟨none, 0, fun _ => Go.undef, rfl, .inl rfl, fun i r j x h => by simp at h⟩
  · injection hb with hb; subst hb
    obtain ⟨a, cap, F, h1, h2, h3, h4, h5, h6⟩ := hx.sl_cells hsz hs
    refine ⟨a, cap, F, h1, ?_, h5⟩
    rcases h4 with h4 | ⟨blk, off, h4, h7, _⟩
    · exact .inl h4
    · exact .inr ⟨blk, off, h4, h7⟩
  · cases hb

variable {P : Program} {E : Env} {ops : Array Oper} {o : Oper} {l : List Oper} {s : St} {Q : Exit → St → Prop}

theorem range_map_at {F : Nat → Value} {n j : Nat} {v : Value} (h : ((List.range n).map F)[j]? = some v) : j < n ∧ v = F j := by
  simp only [List.getElem?_map, Option.map_eq_some_iff] at h
  obtain ⟨k, hk, rfl⟩ := h
  have hlt := (List.getElem?_eq_some_iff.1 hk).1
  rw [List.length_range] at hlt
  rw [List.getElem?_range hlt] at hk
  injection hk with hk; subst hk
  exact ⟨hlt, rfl⟩

theorem add_mk' (b o k : Nat) : (⟨b, o, none⟩ : Addr).add k = ⟨b, o + k, none⟩ := Addr.add_mk b o k

/-- The cells of rows that can be stored. -/
theorem rows_one {g : Gh} {ys : List (List V)} {G : Nat → Value} {sz : Nat} (hsz : 0 < sz) (hs : ∀ r, r ∈ ys → r.length = sz ∧ r.all oneV = true)
    (h : ∀ (i : Nat) r j x, ys[i]? = some r → r[j]? = some x → RV g x (G (i * sz + j))) {q : Nat} (hq : q < ys.length * sz) : (G q).oneCell' = true := by
  have hi : q / sz < ys.length := by rw [Nat.div_lt_iff_lt_mul hsz]; exact hq
  have hr := hs ys[q / sz] (List.getElem_mem hi)
  have hj : q % sz < ys[q / sz].length := by rw [hr.1]; exact Nat.mod_lt _ hsz
  have := h (q / sz) ys[q / sz] (q % sz) (ys[q / sz][q % sz]) (List.getElem?_eq_getElem hi) (List.getElem?_eq_getElem hj)
  rw [Nat.mul_comm, Nat.div_add_mod] at this
  refine this.one ?_
  have h2 := hr.2
  rw [List.all_eq_true] at h2
  exact h2 _ (List.getElem_mem hj)

theorem append_run {g : Gh} {w : World} (H : Mem E g s.h s.nx w) {nb : Nat} (hf : FreeNo s.h s.nx nb) {x y : V} {vx vy : Value} (hx : RV g x vx) (hy : RV g y vy) {t T : TypeId} {tok : Option Nat} {rows ys : List (List V)}
    (hb : baseV s x = some (tok, rows)) (hsrc : srcV y = some ys) (hok : AppOk P t rows ys) :
    ∃ v w' g', (Builtin.append_ #[t, t] T #[vx, vy]).run P w = .ok v w' ∧
      Mem E g' (upd s.h (tok.getD nb) (some (.room (rows.length + ys.length)))) (nextNo s.nx (tok.getD nb)) w' ∧
      Gh.Le g g' ∧ RV g' (.sl (.own (tok.getD nb)) (rows ++ ys)) v := by
  obtain ⟨sz, nb, hty, hby, hrs, hys⟩ := hok.ex
  obtain ⟨e, i, z, ht, hi, hz, hzs, hsz, rfl, rfl⟩ := appTy_spec hty
  obtain ⟨a, cap, F, rfl, hcap, hex, hz0, hcells, hval, htok⟩ := baseV_rv H hx hb hsz hrs
  obtain ⟨a2, cap2, G, rfl, hcells2, hval2⟩ := srcV_rv hy hsrc hsz (fun r h => (hys r h).1)
  generalize hbt : tok.getD nb = b
  have hle : b ≤ s.nx := by
    subst hbt
    cases tok with
    | none => exact H.free_le hf
    | some b => exact Nat.le_of_lt (H.live_lt (htok b rfl).1)
  -- the token stands for nothing behind the rows
  have hnone : ∀ k, rows.length < k → g.loc b k = none := by
    intro k hk
    subst hbt
    cases tok with
    | none => exact (H.free hf).2 k
    | some b => exact (H.room b _ (htok b rfl).1).1 k hk
  have hnone0 : tok = none → ∀ k, g.loc b k = none := fun h k => by subst h; subst hbt; exact (H.free hf).2 k
  have hnil : rows.length = 0 → g.loc b 0 = none := by
    intro h0
    cases tok with
    | none => exact hnone0 rfl 0
    | some b' => subst hbt; exact (htok _ rfl).2 h0
  have lift0 : rows.length = 0 → rows = [] := fun h => List.length_eq_zero_iff.1 h
  by_cases hm : ys.length = 0
  · -- nothing is appended
    have hys0 : ys = [] := List.length_eq_zero_iff.1 hm
    subst hys0
    have hrun := run_append_none (P := P) w t T e i ht hi a rows.length cap hcap a2 cap2
    simp only [List.append_nil, List.length_nil, Nat.add_zero]
    by_cases h0 : rows.length = 0
    · have hc0 := hz0 h0
      have hr0 := lift0 h0
      subst hr0
      subst hc0
      refine ⟨_, w, g, hrun, ?_, Gh.Le.refl g, .slnil _ a (fun b' hb' => by injection hb' with hb'; subst hb'; exact hnil rfl)⟩
      cases tok with
      | none =>
        have e1 : b = nb := hbt.symm
        subst e1
        exact H.room0 hf
      | some b' =>
        have e1 : b' = b := hbt
        subst e1
        have h1 := (htok b' rfl).1
        rw [nextNo_ne (by have := H.live_lt h1; omega)]
        have : upd s.h b' (some (.room ([] : List (List V)).length)) = s.h := by rw [← h1]; exact upd_id _ _
        rw [this]; exact H
    · obtain ⟨blk, off, ha, hc, hl⟩ := hcells.resolve_left h0
      subst ha
      cases tok with
      | none =>
        have e1 : b = nb := hbt.symm
        subst e1
        have hcx := hex rfl
        subst hcx
        have hm2 := (H.drop b).setRoom (b := b) (m := rows.length) (cb := blk) (off := off) (cap := rows.length) (sz := i.size) (upd_same _ _ _) hle (by omega) (fun k _ => hnone0 rfl k) (Nat.le_refl _) (fun h => by omega) (fun h => by omega)
        rw [upd_upd] at hm2
        have le : Gh.Le g (g.setLoc b rows.length (blk, off, rows.length, i.size)) := Gh.setLoc_le (by omega) (hnone0 rfl _)
        have lift : ∀ x v, RV g x v → RV (g.setLoc b rows.length (blk, off, rows.length, i.size)) x v := fun x v h => le.rv h
        exact ⟨_, w, _, hrun, hm2, le, RV.rowF (F := F) hcap hrs (fun k hk => hc k hk) (fun i r j x h1 h2 => lift _ _ (hval i r j x h1 h2)) (fun h => by cases h)
          (fun b' hb' => by injection hb' with hb'; subst hb'; exact if_pos ⟨rfl, rfl⟩)⟩
      | some b' =>
        have e1 : b' = b := hbt
        subst e1
        have h1 := (htok b' rfl).1
        refine ⟨_, w, g, hrun, ?_, Gh.Le.refl g, RV.rowF (F := F) hcap hrs hc hval (fun h => by cases h) (fun b' hb' => by injection hb' with hb'; subst hb'; exact hl _ rfl)⟩
        rw [nextNo_ne (by have := H.live_lt h1; omega)]
        have : upd s.h b' (some (.room rows.length)) = s.h := by rw [← h1]; exact upd_id _ _
        rw [this]; exact H
  · obtain ⟨blk2, off2, ha2, hc2⟩ := hcells2.resolve_left hm
    subst ha2
    have hnl : ((List.range (ys.length * i.size)).map G).length = ys.length * i.size := by simp
    have hnews : ∀ (j : Nat) (u : Value), ((List.range (ys.length * i.size)).map G)[j]? = some u → w.cell? ((⟨blk2, off2, none⟩ : Addr).add j) = some u := by
      intro j u hj
      obtain ⟨hlt, rfl⟩ := range_map_at hj
      rw [add_mk']
      exact H.fz _ _ _ (hc2 j hlt)
    have hone : ∀ u ∈ (List.range (ys.length * i.size)).map G, u.oneCell' = true := by
      intro u hu
      obtain ⟨q, hq, rfl⟩ := List.mem_map.1 hu
      exact rows_one hsz hys hval2 (by simpa using hq)
    have hlen : (rows ++ ys).length = rows.length + ys.length := List.length_append
    have hall : ∀ r, r ∈ rows ++ ys → r.length = i.size := by
      intro r hr
      rcases List.mem_append.1 hr with h | h
      · exact hrs r h
      · exact (hys r h).1
    have hvals := rows_append_at (g := g) (F := F) (G := G) hrs hval hval2
    have hmul : (rows.length + ys.length) * i.size = rows.length * i.size + ys.length * i.size := Nat.add_mul _ _ _
    by_cases hfit : rows.length + ys.length ≤ cap
    · -- in place
      have htk : ∃ b', tok = some b' := by
        cases tok with
        | none => have := hex rfl; omega
        | some b' => exact ⟨b', rfl⟩
      obtain ⟨b', rfl⟩ := htk
      have e1 : b' = b := hbt
      subst e1
      have h1 := (htok b' rfl).1
      have h0 : rows.length ≠ 0 := fun h => by have := hz0 h; omega
      obtain ⟨blk, off, ha, hc, hl⟩ := hcells.resolve_left h0
      subst ha
      have hloc := hl b' rfl
      have hroom := (H.room b' _ h1).2
      rw [hloc] at hroom
      obtain ⟨-, hroom⟩ := hroom
      obtain ⟨rfl, hlo, hfrz, arr, T', hheap, harr⟩ := hroom (by omega)
      have hbig : (rows.length + ys.length) * i.size ≤ cap * i.size := Nat.mul_le_mul_right _ hfit
      have hrun := run_append_room' (P := P) w t T e i ht hi blk rows.length cap T' arr hheap ⟨blk2, off2, none⟩ ys.length cap2 _ hnl hnews hone hfit (by rw [hnl]; omega)
      rw [hnl] at hrun
      generalize hnew : (arr.toList.take (rows.length * i.size) ++ (List.range (ys.length * i.size)).map G ++ arr.toList.drop (rows.length * i.size + ys.length * i.size)).toArray = new at hrun
      have hset : HeapSet w (w.setRow blk new) blk new T' := ⟨rfl, rfl, rfl, setRow_size _ _ _, setRow_heap w blk arr new T' (0, 0) hheap, fun k hk => setRow_other w blk k new hk⟩
      have hblk : blkOf g b' (.room rows.length) = some blk := by simp only [blkOf, hloc]; rw [if_pos (by omega)]
      have hfree : ∀ b'' x, upd s.h b' none b'' = some x → blkOf g b'' x ≠ some blk := by
        intro b'' x hx' hbx
        by_cases e2 : b'' = b'
        · subst e2; rw [upd_same] at hx'; cases hx'
        · rw [upd_ne _ _ _ e2] at hx'
          exact e2 (H.inj b'' b' _ _ blk hx' h1 hbx hblk)
      have hfz : ∀ o v, g.fz blk o = some v → o < rows.length * i.size := by
        intro o v ho
        by_cases h : o < rows.length * i.size
        · exact h
        · rw [hfrz o (by omega)] at ho; cases ho
      have hm2 := (H.drop b').extend (fz' := fun b'' o => if b'' = blk ∧ rows.length * i.size ≤ o ∧ o < (rows.length + ys.length) * i.size then some (G (o - rows.length * i.size)) else g.fz b'' o)
        hheap hlo hset hfree (fun b'' o v h => by
          rw [if_neg (fun e => by obtain ⟨rfl, e2, -⟩ := e; have := hfz o v h; omega)]; exact h)
        (fun b'' o h => by rw [if_neg (fun e => h e.1)])
        (fun o v h => by
          rw [← hnew]
          simp only [List.getElem?_toArray]
          split at h
          · rename_i hcase
            obtain ⟨-, c1, c2⟩ := hcase
            injection h with h; subst h
            rw [List.append_assoc, List.getElem?_append_right (by simp; omega), List.getElem?_append_left (by simp; omega)]
            simp only [List.length_take, Array.length_toList, List.getElem?_map]
            rw [Nat.min_eq_left (by omega), List.getElem?_range (by omega)]
            rfl
          · have hlt := hfz o v h
            have hcell := H.fz blk o v h
            simp only [World.cell?, hheap] at hcell
            rw [List.append_assoc, List.getElem?_append_left (by simp; omega), List.getElem?_take, if_pos hlt]
            simpa using hcell)
      generalize hg2 : (fun b'' o => if b'' = blk ∧ rows.length * i.size ≤ o ∧ o < (rows.length + ys.length) * i.size then some (G (o - rows.length * i.size)) else g.fz b'' o) = fz2 at hm2
      have hle2 : ∀ b'' o v, g.fz b'' o = some v → fz2 b'' o = some v := fun b'' o v h => by
        rw [← hg2]; simp only []
        rw [if_neg (fun e => by obtain ⟨rfl, e2, -⟩ := e; have := hfz o v h; omega)]; exact h
      have hm3 := hm2.setRoom (b := b') (m := rows.length + ys.length) (cb := blk) (off := 0) (cap := cap) (sz := i.size) (upd_same _ _ _) hle (by omega) (fun k hk => hnone k (by omega)) hfit
        (fun hlt => ⟨rfl, hlo, fun o ho => by
          show fz2 blk o = none
          rw [← hg2]; simp only []
          rw [if_neg (fun e => by omega)]; exact hfrz o (by omega), new, T', hset.at_, by rw [← hnew]; simp; omega⟩)
        (fun _ b'' x h => by
          have := hfree b'' x h
          cases x <;> exact this)
      rw [upd_upd] at hm3
      have le : Gh.Le g (({ g with fz := fz2 } : Gh).setLoc b' (rows.length + ys.length) (blk, 0, cap, i.size)) :=
        (Gh.Le.fzOnly hle2).trans (Gh.setLoc_le (g := { g with fz := fz2 }) (by omega) (hnone _ (by omega)))
      have lift : ∀ x v, RV g x v → RV (({ g with fz := fz2 } : Gh).setLoc b' (rows.length + ys.length) (blk, 0, cap, i.size)) x v := fun x v h => le.rv h
      refine ⟨_, _, _, hrun, hm3, le, ?_⟩
      have := RV.rowF (g := (({ g with fz := fz2 } : Gh).setLoc b' (rows.length + ys.length) (blk, 0, cap, i.size))) (c := .own b') (rows := rows ++ ys) (sz := i.size) (blk := blk) (off := 0) (cap := cap)
        (F := fun k => if k < rows.length * i.size then F k else G (k - rows.length * i.size)) (by omega) hall
        (fun k hk => by
          show fz2 blk (0 + k) = some _
          rw [hlen] at hk
          rw [← hg2, Nat.zero_add]; simp only []
          by_cases h : k < rows.length * i.size
          · rw [if_neg (fun e => by omega), if_pos h]
            have := hc k h; rwa [Nat.zero_add] at this
          · rw [if_pos ⟨by trivial, by omega, hk⟩, if_neg h])
        (fun p r j x h1 h2 => lift _ _ (hvals p r j x h1 h2 (hall r (List.mem_of_getElem? h1)))) (fun h => by cases h)
        (fun b'' hb'' => by injection hb'' with hb''; subst hb''; rw [hlen]; exact if_pos ⟨rfl, rfl⟩)
      rwa [hlen] at this
    · -- a new row of cells
      have holds : ∃ (bb : Option Addr), a = bb ∧ (bb = none → rows.length = 0 ∧ cap = 0) ∧ ∀ ad, bb = some ad → ∀ (j : Nat) (v : Value), ((List.range (rows.length * i.size)).map F)[j]? = some v → w.cell? (ad.add j) = some v := by
        by_cases h0 : rows.length = 0
        · refine ⟨a, rfl, fun _ => ⟨h0, hz0 h0⟩, fun ad _ j v hj => ?_⟩
          obtain ⟨hlt, -⟩ := range_map_at hj
          rw [h0, Nat.zero_mul] at hlt; omega
        · obtain ⟨blk, off, ha, hc, hl⟩ := hcells.resolve_left h0
          refine ⟨a, rfl, fun h => (by rw [h] at ha; cases ha), fun ad hj j v hv => ?_⟩
          rw [ha] at hj; injection hj with hj; subst hj
          obtain ⟨hlt, rfl⟩ := range_map_at hv
          rw [add_mk']
          exact H.fz _ _ _ (hc j hlt)
      obtain ⟨_, rfl, hnb, holds⟩ := holds
      obtain ⟨ncap, arr, hrun, hncap, harr, hat⟩ := run_append_new (P := P) w t T e i z ht hi hz hzs a rows.length cap ((List.range (rows.length * i.size)).map F) (by simp) hnb holds ⟨blk2, off2, none⟩ ys.length cap2 _ hnl hnews
        (by omega) (by omega) hcap hok.len hby
      have hdrop := (H.drop b).drew
      have hm2 := hdrop.fresh arr e ((rows.length + ys.length) * i.size)
      have hs0 : ({ w with drawn := w.drawn + 1 } : World).heap.size = w.heap.size := rfl
      have hsz0 : (rows.length + ys.length) * i.size ≤ arr.size := Nat.le_trans (Nat.mul_le_mul_right _ hncap) harr
      have hfzn : ∀ o, g.fz w.heap.size o = none := fun o => H.fz_new o
      have hm3 := hm2.setRoom (b := b) (m := rows.length + ys.length) (cb := w.heap.size) (off := 0) (cap := ncap) (sz := i.size) (upd_same _ _ _) hle (by omega) (fun k hk => hnone k (by omega)) hncap
        (fun hlt => ⟨rfl, H.keep.size, fun o ho => by
          show (if w.heap.size = w.heap.size ∧ o < (rows.length + ys.length) * i.size then arr[o]? else g.fz w.heap.size o) = none
          rw [if_neg (fun e => by omega)]; exact hfzn o, arr, e, by rw [alloc_get]; exact if_pos rfl, harr⟩)
        (fun _ b'' x hx' hbx => by
          by_cases e2 : b'' = b
          · subst e2; rw [upd_same] at hx'; cases hx'
          · rw [upd_ne _ _ _ e2] at hx'
            have hbx' : blkOf g b'' x = some w.heap.size := by cases x <;> exact hbx
            have := H.blk_lt hx' hbx'
            omega)
      rw [upd_upd] at hm3
      have le : Gh.Le g ((g.frz w.heap.size arr ((rows.length + ys.length) * i.size)).setLoc b (rows.length + ys.length) (w.heap.size, 0, ncap, i.size)) :=
        (Gh.frz_le hfzn).trans (Gh.setLoc_le (g := g.frz w.heap.size arr ((rows.length + ys.length) * i.size)) (by omega) (hnone _ (by omega)))
      have lift : ∀ x v, RV g x v → RV ((g.frz w.heap.size arr ((rows.length + ys.length) * i.size)).setLoc b (rows.length + ys.length) (w.heap.size, 0, ncap, i.size)) x v := fun x v h => le.rv h
      refine ⟨_, _, _, hrun, hm3, le, ?_⟩
      have := RV.rowF (g := ((g.frz w.heap.size arr ((rows.length + ys.length) * i.size)).setLoc b (rows.length + ys.length) (w.heap.size, 0, ncap, i.size))) (c := .own b) (rows := rows ++ ys) (sz := i.size) (blk := w.heap.size) (off := 0) (cap := ncap)
        (F := fun k => if k < rows.length * i.size then F k else G (k - rows.length * i.size)) (by omega) hall
        (fun k hk => by
          show (if w.heap.size = w.heap.size ∧ 0 + k < (rows.length + ys.length) * i.size then arr[0 + k]? else g.fz w.heap.size (0 + k)) = some _
          rw [hlen] at hk
          rw [Nat.zero_add, if_pos ⟨rfl, hk⟩]
          refine hat k _ ?_
          by_cases h : k < rows.length * i.size
          · rw [List.getElem?_append_left (by simp; exact h), List.getElem?_map, List.getElem?_range h, if_pos h]; rfl
          · rw [List.getElem?_append_right (by simp; omega), List.getElem?_map, List.length_map, List.length_range, List.getElem?_range (by omega), if_neg h]; rfl)
        (fun p r j x h1 h2 => lift _ _ (hvals p r j x h1 h2 (hall r (List.mem_of_getElem? h1)))) (fun h => by cases h)
        (fun b'' hb'' => by injection hb'' with hb''; subst hb''; rw [hlen]; exact if_pos ⟨rfl, rfl⟩)
      rwa [hlen] at this

theorem TrL.append {nb : Nat} (hf : FreeNo s.h s.nx nb) {t : TypeId} {x y : Operand} {tok : Option Nat} {rows ys : List (List V)} (hw : wantV ops s o = some true) (hd : dstOk E o.dst)
    (ho : o.op = .call { callee := .builtin .append, args := #[x, y], argTypes := #[t, t] }) (hb : baseV s (s.ev E.c x) = some (tok, rows)) (hsrc : srcV (s.ev E.c y) = some ys) (hok : AppOk P t rows ys)
    (h : TrL P E ops l (s.app nb o.dst tok rows ys) Q) : TrL P E ops (o :: l) s Q := by
  intro g a w H
  obtain ⟨v, w', g', hrun, hm, le, hv⟩ := append_run (T := o.type) H.mem hf (H.ev x) (H.ev y) hb hsrc hok
  have hexec : (execOp a.eval o).run P w = .ok (.value v) w' := by
    simp only [execOp, ho, resolve]
    simp [invoke, builtin, Result.andThen, hrun]
  refine of_exec (wantV_spec hw H) (by rw [ho]; intro c hc; cases hc) hexec ?_
  have H2 := (H.mem' (s := s) hm le).put hd hv
  have e : ({ s with h := upd s.h (tok.getD nb) (some (.room (rows.length + ys.length))), nx := nextNo s.nx (tok.getD nb) } : St).put o.dst (.sl (.own (tok.getD nb)) (rows ++ ys)) = s.app nb o.dst tok rows ys := by
    unfold St.app
    cases o.dst <;> rfl
  rw [e] at H2
  exact h _ _ _ H2

theorem flatten_at {rows : List (List V)} {sz : Nat} (hs : ∀ r, r ∈ rows → r.length = sz) : ∀ {q : Nat} {x : V}, rows.flatten[q]? = some x → ∃ i r j, rows[i]? = some r ∧ r[j]? = some x ∧ q = i * sz + j := by
  induction rows with
  | nil => intro q x h; simp at h
  | cons r rows ih =>
    intro q x h
    have hr := hs r (by simp)
    rw [List.flatten_cons] at h
    by_cases hq : q < r.length
    · rw [List.getElem?_append_left hq] at h
      exact ⟨0, r, q, rfl, h, by omega⟩
    · rw [List.getElem?_append_right (by omega)] at h
      obtain ⟨i, r', j, h1, h2, h3⟩ := ih (fun r hr => hs r (by simp [hr])) h
      exact ⟨i + 1, r', j, h1, h2, by rw [Nat.add_mul]; omega⟩
theorem flatten_length {rows : List (List V)} {sz : Nat} (hs : ∀ r, r ∈ rows → r.length = sz) : rows.flatten.length = rows.length * sz := by
  induction rows with
  | nil => simp
  | cons r rows ih =>
    rw [List.flatten_cons, List.length_append, ih fun r hr => hs r (by simp [hr]), hs r (by simp), List.length_cons, Nat.add_mul]; omega

/-- An append that lays a new row of cells, which may be written into. -/
theorem TrL.appendM {nb : Nat} (hf : FreeNo s.h s.nx nb) {t : TypeId} {x y : Operand} {rows ys : List (List V)} {sz : Nat} (hw : wantV ops s o = some true) (hd : dstOk E o.dst)
    (ho : o.op = .call { callee := .builtin .append, args := #[x, y], argTypes := #[t, t] }) (hb : baseV s (s.ev E.c x) = some (none, rows)) (hsrc : srcV (s.ev E.c y) = some ys) (hok : AppOk P t rows ys)
    (hne : 0 < ys.length) (hsz' : eltS P t = some sz)
    (h : TrL P E ops l { s.put o.dst (.hs nb 0 (rows.length + ys.length) (rows.length + ys.length) sz) with h := upd s.h nb (some (.cells (rows.flatten ++ ys.flatten))), nx := nextNo s.nx nb } Q) : TrL P E ops (o :: l) s Q := by
  intro g a w H
  obtain ⟨sz0, nb0, hty, hby, hrs, hys⟩ := hok.ex
  obtain ⟨e, i, z, ht, hi, hz, hzs, hsz, rfl, rfl⟩ := appTy_spec hty
  have hszeq : sz = i.size := by
    obtain ⟨e', he', hs'⟩ := eltS_spec hsz'
    rw [ht] at he'; injection he' with he'; injection he' with he'; subst he'
    have := hs' w
    simp [sizeOf, typeInfo, hi] at this
    exact this.symm
  subst hszeq
  obtain ⟨a1, cap, F, hx1, hcap, hex, hz0, hcells, hval, _⟩ := baseV_rv H.mem (H.ev x) hb hsz hrs
  obtain ⟨a2, cap2, G, hy1, hcells2, hval2⟩ := srcV_rv (H.ev y) hsrc hsz (fun r h => (hys r h).1)
  have hcx := hex rfl
  subst hcx
  obtain ⟨blk2, off2, ha2, hc2⟩ := hcells2.resolve_left (by omega)
  subst ha2
  have holds : (a1 = none → rows.length = 0 ∧ rows.length = 0) ∧ ∀ ad, a1 = some ad → ∀ (j : Nat) (v : Value), ((List.range (rows.length * i.size)).map F)[j]? = some v → w.cell? (ad.add j) = some v := by
    by_cases h0 : rows.length = 0
    · refine ⟨fun _ => ⟨h0, h0⟩, fun ad _ j v hj => ?_⟩
      obtain ⟨hlt, -⟩ := range_map_at hj
      rw [h0, Nat.zero_mul] at hlt; omega
    · obtain ⟨blk, off, ha, hc, hl⟩ := hcells.resolve_left h0
      refine ⟨fun h => (by rw [h] at ha; cases ha), fun ad hj j v hv => ?_⟩
      rw [ha] at hj; injection hj with hj; subst hj
      obtain ⟨hlt, rfl⟩ := range_map_at hv
      rw [add_mk']
      exact H.mem.fz _ _ _ (hc j hlt)
  have hnews : ∀ (j : Nat) (u : Value), ((List.range (ys.length * i.size)).map G)[j]? = some u → w.cell? ((⟨blk2, off2, none⟩ : Addr).add j) = some u := by
    intro j u hj
    obtain ⟨hlt, rfl⟩ := range_map_at hj
    rw [add_mk']
    exact H.mem.fz _ _ _ (hc2 j hlt)
  obtain ⟨ncap, arr, hrun, hncap, harr, hat⟩ := run_append_new (P := P) w t o.type e i z ht hi hz hzs a1 rows.length rows.length ((List.range (rows.length * i.size)).map F) (by simp) holds.1 holds.2 ⟨blk2, off2, none⟩ ys.length cap2
    ((List.range (ys.length * i.size)).map G) (by simp) hnews (by omega) (by omega) (Nat.le_refl _) hok.len hby
  have hexec : (execOp a.eval o).run P w = .ok (.value (.slice (some ⟨w.heap.size, 0, none⟩) (rows.length + ys.length) ncap)) (w.drew.alloc (.cells arr e)) := by
    simp only [execOp, ho, resolve]
    simp [invoke, builtin, Result.andThen, hx1, hy1, hrun]
  refine of_exec (wantV_spec hw H) (by rw [ho]; intro c hc; cases hc) hexec ?_
  have hl1 := flatten_length hrs
  have hl2 := flatten_length (fun r h => (hys r h).1)
  have hmul : (rows.length + ys.length) * i.size ≤ ncap * i.size := Nat.mul_le_mul_right _ hncap
  rw [Nat.add_mul] at hmul
  have hm := H.mem.drew.alloc (nb := nb) hf (rows.flatten ++ ys.flatten) arr e (by rw [List.length_append, hl1, hl2]; omega) (fun q x' y' h1 h2 => by
    have hq : q < (rows.flatten ++ ys.flatten).length := (List.getElem?_eq_some_iff.1 h1).1
    rw [List.length_append, hl1, hl2] at hq
    by_cases hlt : q < rows.length * i.size
    · rw [List.getElem?_append_left (by omega)] at h1
      obtain ⟨p, r, j, h3, h4, h5⟩ := flatten_at hrs h1
      have h6 := hat q (F q) (by
        rw [List.getElem?_append_left (by simp; exact hlt), List.getElem?_map, List.getElem?_range hlt]; rfl)
      rw [h6] at h2; injection h2 with h2; subst h2
      rw [h5]; exact hval p r j x' h3 h4
    · rw [List.getElem?_append_right (by omega), hl1] at h1
      obtain ⟨p, r, j, h3, h4, h5⟩ := flatten_at (fun r h => (hys r h).1) h1
      have h6 := hat q (G (q - rows.length * i.size)) (by
        rw [List.getElem?_append_right (by simp; omega), List.getElem?_map, List.length_map, List.length_range, List.getElem?_range (by omega)]; rfl)
      rw [h6] at h2; injection h2 with h2; subst h2
      rw [h5]; exact hval2 p r j x' h3 h4)
  have H2 := H.mem' (s := s) hm (Gh.new_le (H.mem.free hf).1)
  have H3 := H2.put hd (v := .hs nb 0 (rows.length + ys.length) (rows.length + ys.length) i.size) (cv := .slice (some ⟨w.heap.size, 0, none⟩) (rows.length + ys.length) ncap) (.hs _ _ _ _ _ _ _ (upd_same _ _ _) hncap)
  have e : ({ s with h := upd s.h nb (some (Blk.cells (rows.flatten ++ ys.flatten))), nx := nextNo s.nx nb } : St).put o.dst (.hs nb 0 (rows.length + ys.length) (rows.length + ys.length) i.size) =
      { s.put o.dst (.hs nb 0 (rows.length + ys.length) (rows.length + ys.length) i.size) with h := upd s.h nb (some (Blk.cells (rows.flatten ++ ys.flatten))), nx := nextNo s.nx nb } := by
    cases o.dst <;> rfl
  rw [e] at H3
  exact h _ _ _ H3

end Go.Proofs.YtkelfbakcpidjaaGreatDoor
