/- Regions that draw their order: what the order of the text comes to, every order comes to. -/
import Derived.Test.YtkelfbakcpidjaaGreatDoorAmOps
import Derived.OrdersIn
set_option linter.unusedVariables false
set_option linter.unusedSimpArgs false
namespace Go.Proofs.YtkelfbakcpidjaaGreatDoor
open Go.RowKit

/-- What an operation does to an abstract state. -/
inductive Eff where
  | put (d : Option Tmp) (v : V)
  | new (nb : Nat) (d : Option Tmp) (v : V) (cs : List V)
  | app (nb : Nat) (d : Option Tmp) (tok : Option Nat) (rows ys : List (List V))
  | set (b : Nat) (cs : List V)

def Eff.go : Eff → St → St
  | .put d v, s => s.put d v
  | .new nb d v cs, s => { s.put d v with h := upd s.h nb (some (.cells cs)), nx := s.nx }
  | .app nb d tok rows ys, s => { s.put d (.sl (.own (tok.getD nb)) (rows ++ ys)) with h := upd s.h (tok.getD nb) (some (.room (rows.length + ys.length))), nx := s.nx }
  | .set b cs, s => { s with h := upd s.h b (some (.cells cs)) }

def SpecG (P : Program) (C : Ctx) (base k : Nat) (d : Option Tmp) (op : Op) (s : St) (q : Eff) : Prop :=
  match op with
  | .alloc t => ∃ zs, zeroL P t = some zs ∧ q = .new k d (.ptr k 0) zs
  | .box t x => ∃ cs, cellsV (s.ev C x) = some cs ∧ q = .new k d (.ptr k 0) cs
  | .store t p x => d = none ∧ ∃ c, storeV P s t (s.ev C p) (s.ev C x) = some c ∧ q = .set c.1 c.2
  | .buildSlice t n parts => ∃ rows, buildSliceV P C s t n parts.toList = some rows ∧ q = .put d (.sl .exact rows)
  | .load t x => ldOk (some (base, k)) (s.ev C x) ∧ ∃ v, loadV P s t (s.ev C x) = some v ∧ q = .put d v
  | .call c => match c.callee with
    | .value cf => (∃ f cap r, calleeV (s.ev C cf) = some (f, cap) ∧ (∀ x, x ∈ c.args.toList.map (fun x => strip (s.ev C x)) ++ cap.map strip → D x) ∧
        FnP P C.gl f (c.args.toList.map (fun x => strip (s.ev C x)) ++ cap.map strip) r ∧ q = .put d r) ∨
      (∃ f cap cs n sz, calleeV (s.ev C cf) = some (f, cap) ∧ (∀ x, x ∈ c.args.toList.map (fun x => strip (s.ev C x)) ++ cap.map strip → D x) ∧
        FnM P C.gl f (c.args.toList.map (fun x => strip (s.ev C x)) ++ cap.map strip) cs n ∧ q = .new k d (.hs k 0 n n sz) cs)
    | .builtin .append => match c.args.toList, c.argTypes.toList with
      | [x, y], [t, u] => t = u ∧ ∃ tok rows ys, baseV s (s.ev C x) = some (tok, rows) ∧ srcV (s.ev C y) = some ys ∧ AppOk P t rows ys ∧ q = .app k d tok rows ys
      | _, _ => False
    | _ => ∃ v, opV P C s (.call c) = some v ∧ q = .put d v
  | op => ∃ v, opV P C s op = some v ∧ q = .put d v

variable {P : Program} {C : Ctx} {ops : Array Oper} {s : St} {K : St → Prop} {d : Option Tmp} {op : Op} {base k : Nat}

theorem bindO_ex {α : Type} {x : Option α} {k : α → Prop} (h : bindO x k) : ∃ v, x = some v ∧ k v := by
  cases x with
  | none => exact h.elim
  | some v => exact ⟨v, rfl, h⟩

theorem stepG_spec (h : stepG (some (base, k)) P C d op s K) : ∃ q, SpecG P C base k d op s q ∧ K (q.go s) := by
  unfold stepG at h
  unfold SpecG
  split <;> simp only at h
  · obtain ⟨v, h1, h2⟩ := bindO_ex h; exact ⟨_, ⟨v, h1, rfl⟩, h2⟩
  · obtain ⟨v, h1, h2⟩ := bindO_ex h; exact ⟨_, ⟨v, h1, rfl⟩, h2⟩
  · obtain ⟨v, h1, h2⟩ := bindO_ex h.2; exact ⟨_, ⟨h.1, v, h1, rfl⟩, h2⟩
  · obtain ⟨v, h1, h2⟩ := bindO_ex h; exact ⟨_, ⟨v, h1, rfl⟩, h2⟩
  · obtain ⟨v, h1, h2⟩ := bindO_ex h.2; exact ⟨_, ⟨h.1, v, h1, rfl⟩, h2⟩
  · split <;> rename_i hc <;> simp only [hc] at h
    · rcases h with ⟨f, cap, r, h1, h2, h3, h4⟩ | ⟨f, cap, cs, n, sz, h1, h2, h3, h4⟩ | ⟨h0, _⟩ | ⟨h0, _⟩
      · exact ⟨_, .inl ⟨f, cap, r, h1, h2, h3, rfl⟩, h4⟩
      · exact ⟨_, .inr ⟨f, cap, cs, n, sz, h1, h2, h3, rfl⟩, h4⟩
      · cases h0
      · cases h0
    · split at h
      · rename_i x y t u ha ht
        obtain ⟨h0, ⟨tok, rows, ys, h1, h2, h3, h4⟩ | ⟨hd, _⟩⟩ := h
        · refine ⟨.app k d tok rows ys, ?_, h4⟩
          simp only [ha, ht]
          exact ⟨h0, tok, rows, ys, h1, h2, h3, rfl⟩
        · cases hd
      · exact h.elim
    · obtain ⟨v, h1, h2⟩ := bindO_ex h; exact ⟨_, ⟨v, h1, rfl⟩, h2⟩
  · obtain ⟨v, h1, h2⟩ := bindO_ex h; exact ⟨_, ⟨v, h1, rfl⟩, h2⟩

def Spec (P : Program) (C : Ctx) (base k : Nat) (ops : Array Oper) (o : Oper) (s : St) (q : Eff) : Prop :=
  match o.guard with
  | none => SpecG P C base k o.dst o.op s q
  | some (j, want) => ∃ b, guardV ops s j want = some b ∧ ((b = want ∧ SpecG P C base k o.dst o.op s q) ∨ (b ≠ want ∧ q = .put o.dst skipV))

theorem stepW_spec {o : Oper} (h : stepW (some (base, k)) P C ops o s K) : ∃ q, Spec P C base k ops o s q ∧ K (q.go s) := by
  unfold stepW at h
  unfold Spec
  split
  · rename_i hg; simp only [hg] at h; exact stepG_spec h
  · rename_i j want hg
    simp only [hg] at h
    obtain ⟨b, h1, h2, h3⟩ := bindO_ex h
    by_cases e : b = want
    · obtain ⟨q, h4, h5⟩ := stepG_spec (h2 e); exact ⟨q, ⟨b, h1, .inl ⟨e, h4⟩⟩, h5⟩
    · exact ⟨_, ⟨b, h1, .inr ⟨e, rfl⟩⟩, h3 e⟩

/-! ### What an operation looks at -/
theorem ev_same {s s' : St} {x : Operand} (h : ∀ i, x = .tmp i → s'.t i = s.t i) : s'.ev C x = s.ev C x := by
  cases x <;> first | rfl | exact h _ rfl

def isStore : Op → Bool | .store _ _ _ => true | _ => false
def isApp : Op → Bool
  | .call c => match c.callee with
    | .builtin .append => true
    | _ => false
  | _ => false
def isLoad : Op → Bool | .load _ _ => true | _ => false

theorem loadV_keep {s s' : St} {t : TypeId} {p v : V} (hb : ∀ b o, p = .ptr b o → ∀ cs, s.h b = some (.cells cs) → s'.h b = some (.cells cs)) (h : loadV P s t p = some v) : loadV P s' t p = some v := by
  unfold loadV at h ⊢
  cases hq : ty P t with
  | none => simp [hq] at h
  | some q =>
    simp only [hq] at h ⊢
    split at h
    · rename_i b o
      split at h
      · rename_i cs hcs
        rw [hb b o rfl cs hcs]; exact h
      · cases h
    · exact h
    · cases h

theorem loadV_cells {s : St} {t : TypeId} {b o : Nat} {v : V} (h : loadV P s t (.ptr b o) = some v) : ∃ cs, s.h b = some (.cells cs) := by
  unfold loadV at h
  cases hq : ty P t with
  | none => simp [hq] at h
  | some q =>
    simp only [hq] at h
    split at h
    · exact ⟨_, by assumption⟩
    · cases h

theorem storeV_keep {s s' : St} {t : TypeId} {p x : V} {c : Nat × List V} (hh : ∀ b cs, s.h b = some (.cells cs) → s'.h b = some (.cells cs)) (h : storeV P s t p x = some c) : storeV P s' t p x = some c := by
  unfold storeV at h ⊢
  cases hq : ty P t with
  | none => simp [hq] at h
  | some q =>
    simp only [hq] at h ⊢
    split at h
    · rename_i b o vs hv
      split at h
      · rename_i cs hcs
        simp only [hh b cs hcs]
        exact h
      · cases h
    · cases h
theorem storeV_form {s : St} {t : TypeId} {p x : V} {c : Nat × List V} (h : storeV P s t p x = some c) : ∃ cs, s.h c.1 = some (.cells cs) := by
  unfold storeV at h
  cases hq : ty P t with
  | none => simp [hq] at h
  | some q =>
    simp only [hq] at h
    split at h
    · split at h
      · rename_i cs hcs
        split at h
        · injection h with h; subst h; exact ⟨cs, hcs⟩
        · cases h
      · cases h
    · cases h
theorem baseV_keep {s s' : St} {x : V} {c : Option Nat × List (List V)} (hh : ∀ b n, s.h b = some (.room n) → s'.h b = some (.room n)) (h : baseV s x = some c) : baseV s' x = some c := by
  unfold baseV at h ⊢
  split at h
  · exact h
  · exact h
  · split at h
    · rename_i n hn
      simp only [hh _ n hn]
      exact h
    · cases h
  · cases h
theorem baseV_form {s : St} {x : V} {b : Nat} {rows : List (List V)} (h : baseV s x = some (some b, rows)) : ∃ n, s.h b = some (.room n) := by
  unfold baseV at h
  split at h
  · cases h
  · cases h
  · split at h
    · rename_i n hn
      split at h
      · simp only [Option.some.injEq, Prod.mk.injEq] at h
        obtain ⟨rfl, rfl⟩ := h
        exact ⟨n, hn⟩
      · cases h
    · cases h
  · cases h

theorem parts_same {s s' : St} {ps : Array (Nat × Operand)} (h : ∀ x ∈ (ps.toList.map (·.2)).toArray, s'.ev C x = s.ev C x) : (ps.toList.map fun p => (p.1, s'.ev C p.2)) = ps.toList.map fun p => (p.1, s.ev C p.2) := by
  apply List.map_congr_left
  intro p hp
  rw [h p.2 (by simpa using ⟨p.1, by simpa using hp⟩)]

theorem boundV_same {s s' : St} {x : Option Operand} {d : Nat} (h : ∀ y, x = some y → s'.ev C y = s.ev C y) : boundV C s' x d = boundV C s x d := by
  cases x with
  | none => rfl
  | some y => simp only [boundV, h y rfl]

/-- An operation that writes nothing comes to the same where it looks at the same. -/
theorem opV_keep {s s' : St} (hs : ∀ x ∈ op.operands, s'.ev C x = s.ev C x) (hl : isLoad op = false) {v : V} (h : opV P C s op = some v) : opV P C s' op = some v := by
  cases op <;> simp only [opV] at h ⊢ <;> simp only [Op.operands] at hs <;> try (exact h)
  case move x => rw [hs _ (by simp)]; exact h
  case assign x => rw [hs _ (by simp)]; exact h
  case pick c x y => rw [hs c (by simp), hs x (by simp), hs y (by simp)]; exact h
  case build t ps => unfold buildV buildArV buildStV at h ⊢; rw [parts_same hs]; exact h
  case load => cases hl
  case binOp => rw [hs _ (by simp), hs _ (by simp)]; exact h
  case unOp => rw [hs _ (by simp)]; exact h
  case makeFunc fn xs ys =>
    have e1 : xs.toList.map (s'.ev C) = xs.toList.map (s.ev C) := List.map_congr_left fun x hx => hs x (by simp at hx; simp [hx])
    have e2 : ys.toList.map (s'.ev C) = ys.toList.map (s.ev C) := List.map_congr_left fun x hx => hs x (by simp at hx; simp [hx])
    rw [e1, e2]; exact h
  case slice t x lo hi mx =>
    have e1 : ∀ d, boundV C s' lo d = boundV C s lo d := fun d => boundV_same fun y hy => hs y (by subst hy; simp)
    have e2 : ∀ d, boundV C s' hi d = boundV C s hi d := fun d => boundV_same fun y hy => hs y (by subst hy; simp)
    have e3 : ∀ y, mx = some y → ∀ d, boundV C s' (some y) d = boundV C s (some y) d := fun y hy d => boundV_same fun y' hy' => by injection hy' with hy'; subst hy'; exact hs y (by subst hy; simp)
    unfold cutV cutSlV cutArrV at h ⊢
    rw [hs x (by simp)]
    simp only [e1, e2]
    cases mx with
    | none => exact h
    | some y => simp only [e3 y rfl]; exact h
  case fieldAddr => rw [hs _ (by simp)]; exact h
  case indexAddr => rw [hs _ (by simp), hs _ (by simp)]; exact h
  case index => rw [hs _ (by simp), hs _ (by simp)]; exact h
  case extract => rw [hs _ (by simp)]; exact h
  case call c =>
    split at h
    · unfold builtinV at h ⊢
      split at h
      · rename_i x t ha ht hc
        have : s'.ev C x = s.ev C x := hs x (by
          have : x ∈ c.args := by
            have e := arr1 ha
            rw [e]; simp
          simp [Call.operands, this])
        rw [this]; exact h
      · cases h
    · cases h

theorem mem_args {c : Call} {x : Operand} (h : x ∈ c.args) : x ∈ (Op.call c).operands := by simp [Op.operands, Call.operands, h]

/-- What an operation takes from the memory is the same. -/
structure Compat (base : Nat) (op : Op) (s s' : St) : Prop where
  load : isLoad op = true → ∀ b cs, b < base → s.h b = some (.cells cs) → s'.h b = some (.cells cs)
  store : isStore op = true → ∀ b cs, s.h b = some (.cells cs) → s'.h b = some (.cells cs)
  app : isApp op = true → ∀ b n, s.h b = some (.room n) → s'.h b = some (.room n)

/-- An operation comes to the same where it looks at the same, and what it takes from the memory is the same. -/
theorem specG_keep {s s' : St} (hs : ∀ x ∈ op.operands, s'.ev C x = s.ev C x) (hm : Compat base op s s')
    {q : Eff} (h : SpecG P C base k d op s q) : SpecG P C base k d op s' q := by
  have pure : ∀ (hl : isLoad op = false), (∃ v, opV P C s op = some v ∧ q = .put d v) → ∃ v, opV P C s' op = some v ∧ q = .put d v :=
    fun hl ⟨v, h1, h2⟩ => ⟨v, opV_keep hs hl h1, h2⟩
  cases op <;> simp only [SpecG] at h ⊢ <;> try (exact pure rfl h)
  case alloc => exact h
  case box t x => rw [hs x (by simp [Op.operands])]; exact h
  case store t p x =>
    obtain ⟨h0, c, h1, h2⟩ := h
    rw [hs p (by simp [Op.operands]), hs x (by simp [Op.operands])]
    exact ⟨h0, c, storeV_keep (hm.store rfl) h1, h2⟩
  case buildSlice t n ps =>
    have : buildSliceV P C s' t n ps.toList = buildSliceV P C s t n ps.toList := by unfold buildSliceV; rw [parts_same hs]
    rw [this]; exact h
  case load t x =>
    rw [hs x (by simp [Op.operands])]
    obtain ⟨h0, v, h1, h2⟩ := h
    refine ⟨h0, v, loadV_keep (fun b o hp cs hc => ?_) h1, h2⟩
    rw [hp] at h0
    exact hm.load rfl b cs h0 hc
  case call c =>
    have ha : ∀ x, x ∈ c.args.toList → s'.ev C x = s.ev C x := fun x hx => hs x (mem_args (by simpa using hx))
    split <;> rename_i hc <;> simp only [hc] at h
    · rename_i cf
      have e1 : s'.ev C cf = s.ev C cf := hs cf (by simp only [Op.operands, Call.operands, hc]; exact Array.mem_append.2 (.inl (by simp)))
      have e2 : c.args.toList.map (fun x => strip (s'.ev C x)) = c.args.toList.map (fun x => strip (s.ev C x)) := List.map_congr_left fun x hx => by rw [ha x hx]
      rw [e1, e2]; exact h
    · split at h
      · rename_i x y t u hx ht
        rw [ha x (by rw [hx]; simp), ha y (by rw [hx]; simp)]
        obtain ⟨h0, tok, rows, ys, h1, h2⟩ := h
        exact ⟨h0, tok, rows, ys, baseV_keep (hm.app (by simp only [isApp, hc])) h1, h2⟩
      · exact h.elim
    · obtain ⟨v, h1, h2⟩ := h
      exact ⟨v, opV_keep hs rfl h1, h2⟩

theorem spec_keep {o : Oper} {s s' : St} (hs : ∀ i ∈ o.looksAt ops, s'.t i = s.t i) (hm : Compat base o.op s s') {q : Eff} (h : Spec P C base k ops o s q) : Spec P C base k ops o s' q := by
  have hx : ∀ x ∈ o.op.operands, s'.ev C x = s.ev C x := fun x hx => ev_same fun i hi => hs i (by
    subst hi
    exact List.mem_append_left _ (List.mem_filterMap.2 ⟨.tmp i, by simpa using hx, rfl⟩))
  unfold Spec at h ⊢
  split
  · rename_i hg; simp only [hg] at h; exact specG_keep hx hm h
  · rename_i j want hg
    simp only [hg] at h
    obtain ⟨b, h1, h2⟩ := h
    refine ⟨b, ?_, ?_⟩
    · unfold guardV at h1 ⊢
      cases hj : ops[j]? with
      | none => simp [hj] at h1
      | some oj =>
        simp only [hj] at h1 ⊢
        cases hd : oj.dst with
        | none => simp [hd] at h1
        | some d =>
          simp only [hd] at h1 ⊢
          rw [hs d (by
            unfold Oper.looksAt
            rw [hg]
            exact List.mem_append_right _ (by simp [hj, hd]))]
          exact h1
    · rcases h2 with ⟨e, h2⟩ | h2
      · exact .inl ⟨e, specG_keep hx hm h2⟩
      · exact .inr h2

def Eff.dst : Eff → Option Tmp
  | .put d _ | .new _ d _ _ | .app _ d _ _ _ => d
  | .set _ _ => none

theorem go_t {q : Eff} {s : St} {i : Nat} (h : q.dst ≠ some i) : (q.go s).t i = s.t i := by
  have key : ∀ (d : Option Tmp) (v : V), d ≠ some i → (s.put d v).t i = s.t i := by
    intro d v hd
    cases d with
    | none => rfl
    | some k => exact upd_ne _ _ _ (fun e => hd (by rw [e]))
  cases q with
  | put d v => exact key d v h
  | new nb d v cs => exact key d _ h
  | app nb d tok rows ys => exact key d _ h
  | set b cs => rfl

/-- The forms that an effect may have. -/
def Form (k : Nat) (s : St) (d : Option Tmp) (op : Op) (q : Eff) : Prop :=
  q.dst = d ∧ ((∃ v, q = .put d v) ∨ (isStore op = true ∧ ∃ b cs cs', q = .set b cs ∧ s.h b = some (.cells cs')) ∨ (isStore op = false ∧ isApp op = false ∧ isLoad op = false ∧ ∃ v cs, q = .new k d v cs) ∨
    (isApp op = true ∧ isLoad op = false ∧ ∃ tok rows ys, q = .app k d tok rows ys ∧ ∀ b, tok = some b → ∃ n, s.h b = some (.room n)))

theorem specG_form {q : Eff} (h : SpecG P C base k d op s q) : Form k s d op q := by
  have pure : (∃ v, opV P C s op = some v ∧ q = .put d v) → Form k s d op q := fun ⟨v, _, e⟩ => ⟨by rw [e]; rfl, .inl ⟨v, e⟩⟩
  cases op <;> simp only [SpecG] at h <;> try (exact pure h)
  case alloc => obtain ⟨zs, _, rfl⟩ := h; exact ⟨rfl, .inr (.inr (.inl ⟨rfl, rfl, rfl, _, _, rfl⟩))⟩
  case box => obtain ⟨zs, _, rfl⟩ := h; exact ⟨rfl, .inr (.inr (.inl ⟨rfl, rfl, rfl, _, _, rfl⟩))⟩
  case store => obtain ⟨hd, c, h1, rfl⟩ := h; obtain ⟨cs, hcs⟩ := storeV_form h1; exact ⟨hd.symm, .inr (.inl ⟨rfl, _, _, cs, rfl, hcs⟩)⟩
  case buildSlice => obtain ⟨rows, _, rfl⟩ := h; exact ⟨rfl, .inl ⟨_, rfl⟩⟩
  case load => obtain ⟨_, v, _, rfl⟩ := h; exact ⟨rfl, .inl ⟨_, rfl⟩⟩
  case call c =>
    split at h
    · rename_i hc
      rcases h with ⟨f, cap, r, _, _, _, rfl⟩ | ⟨f, cap, cs, n, sz, _, _, _, rfl⟩
      · exact ⟨rfl, .inl ⟨_, rfl⟩⟩
      · exact ⟨rfl, .inr (.inr (.inl ⟨rfl, by simp only [isApp, hc], rfl, _, _, rfl⟩))⟩
    · rename_i hc
      split at h
      · obtain ⟨_, tok, rows, ys, hb, _, _, rfl⟩ := h
        exact ⟨rfl, .inr (.inr (.inr ⟨by simp only [isApp, hc], rfl, tok, rows, ys, rfl, fun b hb' => by subst hb'; exact baseV_form hb⟩))⟩
      · exact h.elim
    · exact pure h

theorem spec_form {o : Oper} {q : Eff} (h : Spec P C base k ops o s q) : Form k s o.dst o.op q := by
  unfold Spec at h
  split at h
  · exact specG_form h
  · obtain ⟨b, _, ⟨_, h⟩ | ⟨_, rfl⟩⟩ := h
    · exact specG_form h
    · exact ⟨rfl, .inl ⟨_, rfl⟩⟩

/-- May two operations change places? -/
def pairOk (oi oj : Oper) : Bool := !isStore oi.op && !isStore oj.op && !(isApp oi.op && isApp oj.op)

theorem put_put {s : St} {d e : Option Tmp} {u v : V} (h : ∀ i, d = some i → e ≠ some i) : (s.put d u).put e v = (s.put e v).put d u := by
  cases d with
  | none => rfl
  | some i =>
    cases e with
    | none => rfl
    | some j =>
      have hne : i ≠ j := fun e => h i rfl (by rw [e])
      simp only [St.put]
      congr 1
      funext k
      unfold upd
      by_cases h1 : k = i
      · subst h1; simp [hne]
      · simp [h1]

theorem put_t (s : St) (d : Option Tmp) (v : V) : (s.put d v).h = s.h ∧ (s.put d v).nx = s.nx ∧ (s.put d v).ds = s.ds := by cases d <;> exact ⟨rfl, rfl, rfl⟩
theorem go_nx (q : Eff) (s : St) : (q.go s).nx = s.nx := by cases q <;> first | exact (put_t _ _ _).2.1 | rfl
theorem go_ds (q : Eff) (s : St) : (q.go s).ds = s.ds := by cases q <;> first | exact (put_t _ _ _).2.2 | rfl

/-- What an effect writes into the memory. -/
def Eff.mem : Eff → Option (Nat × Blk)
  | .put _ _ => none
  | .new nb _ _ cs => some (nb, .cells cs)
  | .app nb _ tok rows ys => some (tok.getD nb, .room (rows.length + ys.length))
  | .set b cs => some (b, .cells cs)
def Eff.val : Eff → V
  | .put _ v => v
  | .new _ _ v _ => v
  | .app nb _ tok rows ys => .sl (.own (tok.getD nb)) (rows ++ ys)
  | .set _ _ => .undef
theorem go_eq (q : Eff) (s : St) : q.go s = { t := (s.put q.dst q.val).t, h := match q.mem with | none => s.h | some (b, x) => upd s.h b (some x), nx := s.nx, ds := s.ds } := by
  cases q with
  | put d v => cases d <;> rfl
  | new nb d v cs => cases d <;> rfl
  | app nb d tok rows ys => cases d <;> rfl
  | set b cs => rfl
theorem go_h {q : Eff} {s : St} {b : Nat} (h : ∀ x, q.mem ≠ some (b, x)) : (q.go s).h b = s.h b := by
  rw [go_eq]
  simp only
  cases hm : q.mem with
  | none => rfl
  | some p =>
    obtain ⟨b', x⟩ := p
    simp only
    rw [upd_ne _ _ _ (fun e => by subst e; exact h x hm)]

theorem go_go {qi qj : Eff} {s : St} (hd : ∀ i, qi.dst = some i → qj.dst ≠ some i) (hm : ∀ b x y, qi.mem = some (b, x) → qj.mem ≠ some (b, y)) : qj.go (qi.go s) = qi.go (qj.go s) := by
  rw [go_eq qj, go_eq qi, go_eq qi (qj.go s), go_eq qj s]
  have e1 : ∀ (x y : St) (d : Option Tmp) (v : V), x.t = y.t → (x.put d v).t = (y.put d v).t := fun x y d v h => by cases d <;> simp [St.put, h]
  have ht : (({ t := (s.put qi.dst qi.val).t, h := match qi.mem with | none => s.h | some (b, x) => upd s.h b (some x), nx := s.nx, ds := s.ds } : St).put qj.dst qj.val).t =
      (({ t := (s.put qj.dst qj.val).t, h := match qj.mem with | none => s.h | some (b, x) => upd s.h b (some x), nx := s.nx, ds := s.ds } : St).put qi.dst qi.val).t := by
    have e2 : ((s.put qi.dst qi.val).put qj.dst qj.val).t = ((s.put qj.dst qj.val).put qi.dst qi.val).t := congrArg St.t (put_put hd)
    have e3 := e1 { t := (s.put qi.dst qi.val).t, h := match qi.mem with | none => s.h | some (b, x) => upd s.h b (some x), nx := s.nx, ds := s.ds } (s.put qi.dst qi.val) qj.dst qj.val rfl
    have e4 := e1 { t := (s.put qj.dst qj.val).t, h := match qj.mem with | none => s.h | some (b, x) => upd s.h b (some x), nx := s.nx, ds := s.ds } (s.put qj.dst qj.val) qi.dst qi.val rfl
    exact e3.trans (e2.trans e4.symm)
  congr 1
  cases hi : qi.mem with
  | none => rfl
  | some p =>
    cases hj : qj.mem with
    | none => rfl
    | some p' =>
      obtain ⟨b, x⟩ := p
      obtain ⟨b', y⟩ := p'
      have hne : b ≠ b' := fun e => by subst e; exact hm b x y hi hj
      simp only
      funext c
      unfold upd
      by_cases h1 : c = b
      · subst h1; simp [hne]
      · simp [h1]

variable {md : Region.Mode}

/-- One behind the other, or the other way round. -/
theorem spec_swap {oi oj : Oper} {qi qj : Eff} {i j : Nat} (hij : i ≠ j) (hfree : ∀ n, n = i ∨ n = j → s.h (base + n) = none) (hap : oi.apart ops oj = true) (hp : pairOk oi oj = true)
    (hi : Spec P C base (base + i) ops oi s qi) (hj : Spec P C base (base + j) ops oj (qi.go s) qj) :
    Spec P C base (base + j) ops oj s qj ∧ Spec P C base (base + i) ops oi (qj.go s) qi ∧ qj.go (qi.go s) = qi.go (qj.go s) := by
  obtain ⟨a1, a2, a3⟩ := Oper.apart_spec hap
  obtain ⟨d1, f1⟩ := spec_form hi
  obtain ⟨d2, _⟩ := spec_form hj
  have hdd : ∀ i, qi.dst = some i → qj.dst ≠ some i := fun i h => by rw [d1] at h; rw [d2]; exact a2 i h
  simp only [pairOk, Bool.and_eq_true, Bool.not_eq_true'] at hp
  obtain ⟨⟨p1, p2⟩, p3⟩ := hp
  have look1 : ∀ i ∈ oj.looksAt ops, s.t i = (qi.go s).t i := fun i hi => (go_t (fun h => a1 i (by rw [← d1]; exact h) hi)).symm
  have look2 : ∀ i ∈ oi.looksAt ops, (qj.go s).t i = s.t i := fun i hi => go_t (fun h => a3 i (by rw [← d2]; exact h) hi)
  have n1 : ∀ x, s.h (base + i) ≠ some x := fun x h => by rw [hfree i (.inl rfl)] at h; cases h
  have n2 : ∀ x, s.h (base + j) ≠ some x := fun x h => by rw [hfree j (.inr rfl)] at h; cases h
  -- what the first writes
  have m1 : ∀ b x, qi.mem = some (b, x) → b = base + i ∨ (isApp oi.op = true ∧ ∃ n, s.h b = some (.room n)) := by
    intro b x hm
    rcases f1 with ⟨v, rfl⟩ | ⟨h, _⟩ | ⟨_, _, _, v, cs, rfl⟩ | ⟨ha, _, tok, rows, ys, rfl, htok⟩
    · cases hm
    · rw [p1] at h; cases h
    · simp only [Eff.mem, Option.some.injEq, Prod.mk.injEq] at hm; exact .inl hm.1.symm
    · simp only [Eff.mem, Option.some.injEq, Prod.mk.injEq] at hm
      cases tok with
      | none => exact .inl hm.1.symm
      | some t =>
        have e : t = b := hm.1
        obtain ⟨n, hn⟩ := htok t rfl
        exact .inr ⟨ha, n, by rw [← e]; exact hn⟩
  have hj' : Spec P C base (base + j) ops oj s qj := by
    refine spec_keep look1 ⟨fun _ b cs hb hc => ?_, fun h => (by rw [p2] at h; cases h), fun ha b n hc => ?_⟩ hj
    · rw [go_h (fun x hm => ?_)] at hc
      · exact hc
      · rcases m1 b x hm with e | ⟨ha, n, hn⟩
        · omega
        · -- the block that was appended to is a room
          rw [go_eq] at hc
          simp only [hm] at hc
          rw [upd_same] at hc
          rcases f1 with ⟨v, rfl⟩ | ⟨h, _⟩ | ⟨_, h, _, _⟩ | ⟨_, _, tok, rows, ys, rfl, htok⟩
          · cases hm
          · rw [p1] at h; cases h
          · rw [ha] at h; cases h
          · simp only [Eff.mem, Option.some.injEq, Prod.mk.injEq] at hm
            rw [← hm.2] at hc; cases hc
    · rw [go_h (fun x hm => ?_)] at hc
      · exact hc
      · rcases m1 b x hm with e | ⟨ha', _⟩
        · rw [go_eq] at hc
          simp only [hm] at hc
          rw [upd_same] at hc
          rcases f1 with ⟨v, rfl⟩ | ⟨h, _⟩ | ⟨_, _, _, v, cs, rfl⟩ | ⟨ha', _⟩
          · cases hm
          · rw [p1] at h; cases h
          · simp only [Eff.mem, Option.some.injEq, Prod.mk.injEq] at hm
            rw [← hm.2] at hc; cases hc
          · rw [ha, ha'] at p3; cases p3
        · rw [ha, ha'] at p3; cases p3
  obtain ⟨_, f2⟩ := spec_form hj'
  have m2 : ∀ b x, qj.mem = some (b, x) → b = base + j ∨ (isApp oj.op = true ∧ ∃ n, s.h b = some (.room n)) := by
    intro b x hm
    rcases f2 with ⟨v, rfl⟩ | ⟨h, _⟩ | ⟨_, _, _, v, cs, rfl⟩ | ⟨ha, _, tok, rows, ys, rfl, htok⟩
    · cases hm
    · rw [p2] at h; cases h
    · simp only [Eff.mem, Option.some.injEq, Prod.mk.injEq] at hm; exact .inl hm.1.symm
    · simp only [Eff.mem, Option.some.injEq, Prod.mk.injEq] at hm
      cases tok with
      | none => exact .inl hm.1.symm
      | some t =>
        have e : t = b := hm.1
        obtain ⟨n, hn⟩ := htok t rfl
        exact .inr ⟨ha, n, by rw [← e]; exact hn⟩
  refine ⟨hj', ?_, ?_⟩
  · refine spec_keep look2 ⟨fun _ b cs hb hc => ?_, fun h => (by rw [p1] at h; cases h), fun ha b n hc => ?_⟩ hi
    · rw [go_h (fun x hm => ?_)]
      · exact hc
      · rcases m2 b x hm with e | ⟨_, n, hn⟩
        · omega
        · rw [hn] at hc; cases hc
    · rw [go_h (fun x hm => ?_)]
      · exact hc
      · rcases m2 b x hm with e | ⟨ha', _⟩
        · rw [e] at hc; exact n2 _ hc
        · rw [ha, ha'] at p3; cases p3
  · refine go_go hdd (fun b x y h1 h2 => ?_)
    rcases m1 b x h1 with e1 | ⟨a1, n, hn⟩ <;> rcases m2 b y h2 with e2 | ⟨a2, n', hn'⟩
    · omega
    · rw [e1] at hn'; exact n1 _ hn'
    · rw [e2] at hn; exact n2 _ hn
    · rw [a1, a2] at p3; cases p3

theorem wp_of_false {F : Fence} {n : Nat} {o : Oper} {a : Act} {w : World} {K : Act → World → Prop} {Q Q' : Exit → Act → World → Prop} (hQ : ∀ e a w, e ≠ .normal → ¬ Q e a w) (h : o.wpIn F n P a w K Q) : o.wpIn F n P a w K Q' := by
  unfold Oper.wpIn at *
  refine ⟨h.1, ?_⟩
  have h := h.2
  generalize (o.semAt F.round a.eval).run P w = r at *
  cases r with
  | ok x w' =>
    cases x <;> simp only [Oper.uponIn] at h ⊢ <;>
      first
        | exact h
        | exact ⟨h.1, CallsIn.mono h.2 (fun e w'' he => by
            cases e with
            | returned v => exact he
            | panicked c => exact absurd he (hQ _ _ _ (by simp))
            | outgrown => obtain ⟨a, w, h⟩ := he; exact absurd h (hQ _ _ _ (by simp)))⟩
        | exact ⟨h.1, RoundIn.mono h.2 (fun e w'' he => by
            cases e with
            | returned v => exact he
            | panicked c => exact absurd he (hQ _ _ _ (by simp))
            | outgrown => obtain ⟨a, w, h⟩ := he; exact absurd h (hQ _ _ _ (by simp)))⟩
  | halt x w' =>
    cases x <;> simp only [Oper.uponIn] at h ⊢
    all_goals exact absurd h (hQ _ _ _ (by simp))

def onlyQ (s' : St) : Exit → St → Prop
  | .normal, s => s = s'
  | _, _ => False


/-- May number i come before whatever may come before it? -/
def freeD (md : Region.Mode) (ops : Array Oper) (listed : Array Bool) (i : Nat) : Bool :=
  match ops[i]? with
  | none => false
  | some oi => (List.range ops.size).all fun j => j == i || listed.getD j true || match ops[j]? with
      | some oj => oj.after.any (fun e => Region.binds md e && e.on == i) || (oi.apart ops oj && pairOk oi oj)
      | none => true

theorem freeD_spec {i : Nat} {oi : Oper} {listed : Array Bool} (hi : ops[i]? = some oi) (h : freeD md ops listed i = true) (j : Nat) (oj : Oper)
    (hj : ops[j]? = some oj) (hne : j ≠ i) (hun : listed.getD j true = false) (hno : ∀ e ∈ oj.after, Region.binds md e = true → e.on ≠ i) :
    oi.apart ops oj = true ∧ pairOk oi oj = true := by
  simp only [freeD, hi, List.all_eq_true, List.mem_range] at h
  have h1 := h j (Array.getElem?_eq_some_iff.1 hj).1
  simp only [hj, Bool.or_eq_true, beq_iff_eq, hne, false_or, hun, Bool.false_eq_true] at h1
  rcases h1 with h1 | h1
  · rw [Array.any_eq_true] at h1
    obtain ⟨k, hk, h1⟩ := h1
    simp only [Bool.and_eq_true, beq_iff_eq] at h1
    exact absurd h1.2 (hno _ (Array.getElem_mem hk) h1.1)
  · simpa [Bool.and_eq_true] using h1


/-- The numbers of what has not come up are put by. -/
def mark (base n : Nat) (listed : Array Bool) (s : St) : St := { s with h := fun b => if base ≤ b ∧ b < base + n ∧ listed.getD (b - base) true = false then some .rsv else s.h b }
/-- They stand for nothing. -/
def Unm (base n : Nat) (listed : Array Bool) (s : St) : Prop := s.nx = base + n ∧ ∀ b, base ≤ b → b < base + n → listed.getD (b - base) true = false → s.h b = none

theorem mark_h {n : Nat} {listed : Array Bool} {s : St} (hu : Unm base n listed s) {b : Nat} {x : Blk} (h : s.h b = some x) : (mark base n listed s).h b = some x := by
  show (if _ then _ else _) = _
  rw [if_neg (fun e => by rw [hu.2 b e.1 e.2.1 e.2.2] at h; cases h)]
  exact h

theorem specG_sound {k : Nat} {o : Oper} {E : Env} {s : St} {q : Eff} (hf : s.h k = some .rsv) (hw : wantV ops s o = some true) (hd : dstOk E o.dst) (hq : SpecG P E.c base k o.dst o.op s q) :
    TrL P E ops [o] s (onlyQ (q.go s)) := by
  intro g a w H
  have hk : k ≠ s.nx := by have := H.mem.live_lt hf; omega
  have hfr : FreeNo s.h s.nx k := .inr hf
  have fin : ∀ s', s' = q.go s → TrL P E ops [] s' (onlyQ (q.go s)) := fun s' e => TrL.nil (Q := onlyQ (q.go s)) e
  have pure : (∃ v, opV P E.c s o.op = some v ∧ q = .put o.dst v) → TrL P E ops [o] s (onlyQ (q.go s)) := fun ⟨v, h1, h2⟩ => TrL.val hw hd (opV_def h1) (opV_spec h1) (fin _ (by rw [h2]; rfl))
  generalize hop : o.op = op at hq
  refine (?_ : TrL P E ops [o] s (onlyQ (q.go s))) g a w H
  cases op <;> simp only [SpecG] at hq <;> try (exact pure (by rw [hop]; exact hq))
  case alloc t =>
    obtain ⟨zs, h1, rfl⟩ := hq
    exact TrL.alloc hfr hw hd hop h1 (fin _ (by rw [nextNo_ne hk]; rfl))
  case box t x =>
    obtain ⟨cs, h1, rfl⟩ := hq
    exact TrL.box hfr hw hd hop h1 (fin _ (by rw [nextNo_ne hk]; rfl))
  case store t p x =>
    obtain ⟨h0, c, h1, rfl⟩ := hq
    exact TrL.store (b := c.1) (cs' := c.2) hw h0 hop h1 (fin _ rfl)
  case buildSlice t n ps =>
    obtain ⟨rows, h1, rfl⟩ := hq
    exact TrL.buildSlice hw hd hop h1 (fin _ rfl)
  case load t x =>
    obtain ⟨_, v, h1, rfl⟩ := hq
    exact TrL.val hw hd (by rw [hop]; intro c hc; cases hc) (evs_load hop h1) (fin _ rfl)
  case call c =>
    split at hq
    · rename_i cf hc
      rcases hq with ⟨f, cap, r, h1, h2, h3, rfl⟩ | ⟨f, cap, cs, n, sz, h1, h2, h3, rfl⟩
      · exact TrL.call hw hd hop hc h1 h2 h3 (fin _ rfl)
      · exact TrL.callM hfr hw hd hop hc h1 h2 h3 (fin _ (by rw [nextNo_ne hk]; rfl))
    · rename_i hc
      split at hq
      · rename_i x y t u ha ht
        obtain ⟨rfl, tok, rows, ys, h1, h2, h3, rfl⟩ := hq
        have htk : tok.getD k ≠ s.nx := by
          cases tok with
          | none => exact hk
          | some b =>
            obtain ⟨n, hn⟩ := baseV_form h1
            have := H.mem.live_lt hn
            show b ≠ s.nx
            omega
        refine TrL.append hfr (t := t) (x := x) (y := y) hw hd ?_ h1 h2 h3 (fin _ (by simp only [St.app, nextNo_ne htk]; rfl))
        rw [hop]
        obtain ⟨cal, args, tys⟩ := c
        simp only at hc ha ht
        rw [hc, arr2 ha, arr2 ht]
      · exact hq.elim
    · exact pure (by rw [hop]; exact hq)

theorem spec_sound {k : Nat} {o : Oper} {E : Env} {s : St} {q : Eff} (hf : s.h k = some .rsv) (hd : dstB E.c.nt o.dst = true) (hq : Spec P E.c base k ops o s q) : TrL P E ops [o] s (onlyQ (q.go s)) := by
  have hd0 : dstOk E o.dst := fun i hi => by rw [hi] at hd; simpa [dstB] using hd
  unfold Spec at hq
  split at hq
  · rename_i hg; exact specG_sound hf (by simp [wantV, hg]) hd0 hq
  · rename_i j want hg
    obtain ⟨b, hb, h⟩ := hq
    have hw := guardV_want hg hb
    rcases h with ⟨e, h⟩ | ⟨e, rfl⟩
    · exact specG_sound hf (by rw [hw, e]; cases want <;> rfl) hd0 h
    · exact TrL.skip (by rw [hw]; cases b <;> cases want <;> first | rfl | exact absurd rfl e) hd0 (TrL.nil (Q := onlyQ _) rfl)

/-- Whatever order is picked. -/
def AnyD (P : Program) (C : Ctx) (base : Nat) (md : Region.Mode) (ops : Array Oper) (K : St → Prop) : Nat → Array Bool → St → Prop
  | 0, listed, s => Region.ready md ops listed = [] ∧ K s
  | n + 1, listed, s => (Region.ready md ops listed = [] → K s) ∧
    ∀ i ∈ Region.ready md ops listed, ∀ o, ops[i]? = some o → ∃ q, Spec P C base (base + i) ops o s q ∧ AnyD P C base md ops K n (listed.setIfInBounds i true) (q.go s)

theorem wpOp_of_spec {E : Env} {i k : Nat} {o : Oper} {q : Eff} (hi : ops[i]? = some o) (hf : s.h k = some .rsv) (hd : dstB E.c.nt o.dst = true) (hq : Spec P E.c base k ops o s q) {g : Gh} {a : Act} {w : World} (H : Rel E g s a w)
    {Q : Exit → Act → World → Prop} {K : Act → World → Prop} (hK : ∀ g' a' w', Rel E g' (q.go s) a' w' → K a' w') : wpOpIn (Fw E) 0 P ops Q i K a w := by
  have h2 := spec_sound hf hd hq g a w H
  unfold wpListIn at h2
  have hno : ∀ e a w, e ≠ Exit.normal → ¬ cQ E (onlyQ (q.go s)) e a w := by
    rintro e a w he ⟨g, s1, _, h⟩
    cases e <;> first | exact he rfl | exact h
  have hk : ∀ a w, wpListIn (Fw E) 0 P ops (cQ E (onlyQ (q.go s))) [] a w → K a w := by
    rintro a w ⟨g', s1, H1, h⟩
    have e : s1 = q.go s := h
    subst e
    exact hK _ _ _ H1
  unfold wpOpIn
  simp only [hi]
  split
  · rename_i hw
    rw [if_pos hw] at h2
    exact Oper.wpIn_mono hk (wp_of_false hno h2)
  · rename_i hw
    rw [if_neg hw] at h2
    exact ⟨h2.1, hk _ _ h2.2⟩

/-- Behind a step the number of the step is put by no more. -/
theorem unm_go {i n : Nat} {o : Oper} {listed : Array Bool} {s : St} {q : Eff} (hls : listed.size = n) (hu : Unm base n listed s) (hi : i < n) (hq : Spec P C base (base + i) ops o s q) :
    Unm base n (listed.setIfInBounds i true) (q.go s) ∧
    ∀ b x, (mark base n (listed.setIfInBounds i true) (q.go s)).h b = some x → (q.go (mark base n listed s)).h b = some x := by
  have hset : ∀ j, j ≠ i → (listed.setIfInBounds i true).getD j true = listed.getD j true := fun j hj => getD_set_ne true (Ne.symm hj)
  have hseti : (listed.setIfInBounds i true).getD i true = true := by simp [Array.getD, hls, hi]
  obtain ⟨_, f⟩ := spec_form hq
  -- what is written is the step's number, or stood
  have hm : ∀ b x, q.mem = some (b, x) → b = base + i ∨ ∃ y, s.h b = some y := by
    intro b x hm
    rcases f with ⟨v, rfl⟩ | ⟨_, b', cs, cs', rfl, hc⟩ | ⟨_, _, _, v, cs, rfl⟩ | ⟨_, _, tok, rows, ys, rfl, htok⟩
    · cases hm
    · simp only [Eff.mem, Option.some.injEq, Prod.mk.injEq] at hm; exact .inr ⟨_, by rw [← hm.1]; exact hc⟩
    · simp only [Eff.mem, Option.some.injEq, Prod.mk.injEq] at hm; exact .inl hm.1.symm
    · simp only [Eff.mem, Option.some.injEq, Prod.mk.injEq] at hm
      cases tok with
      | none => exact .inl hm.1.symm
      | some t =>
        have e : t = b := hm.1
        obtain ⟨n, hn⟩ := htok t rfl
        exact .inr ⟨_, by rw [← e]; exact hn⟩
  have hun : ∀ b, base ≤ b → b < base + n → (listed.setIfInBounds i true).getD (b - base) true = false → b ≠ base + i ∧ listed.getD (b - base) true = false := by
    intro b h1 h2 h3
    have hne : b - base ≠ i := fun e => by rw [e, hseti] at h3; cases h3
    exact ⟨by omega, by rw [← hset _ hne]; exact h3⟩
  have hu' : Unm base n (listed.setIfInBounds i true) (q.go s) := by
    refine ⟨by rw [go_nx]; exact hu.1, fun b h1 h2 h3 => ?_⟩
    obtain ⟨h4, h5⟩ := hun b h1 h2 h3
    have := hu.2 b h1 h2 h5
    rw [go_h (fun x hx => ?_)]
    · exact this
    · rcases hm b x hx with e | ⟨y, e⟩
      · exact h4 e
      · rw [this] at e; cases e
  refine ⟨hu', fun b x hb => ?_⟩
  have hb2 : (if base ≤ b ∧ b < base + n ∧ (listed.setIfInBounds i true).getD (b - base) true = false then some Blk.rsv else (q.go s).h b) = some x := hb
  split at hb2
  · rename_i hc
    obtain ⟨h4, h5⟩ := hun b hc.1 hc.2.1 hc.2.2
    rw [go_h (fun x hx => ?_)]
    · show (if _ then _ else _) = _
      rw [if_pos ⟨hc.1, hc.2.1, h5⟩]; exact hb2
    · rcases hm b x hx with e | ⟨y, e⟩
      · exact h4 e
      · rw [hu.2 b hc.1 hc.2.1 h5] at e; cases e
  · rw [go_eq] at hb2 ⊢
    simp only at hb2 ⊢
    cases hqm : q.mem with
    | none =>
      rw [hqm] at hb2
      exact mark_h hu hb2
    | some p =>
      obtain ⟨b', y⟩ := p
      rw [hqm] at hb2
      simp only at hb2 ⊢
      by_cases e : b = b'
      · subst e; rw [upd_same] at hb2 ⊢; exact hb2
      · rw [upd_ne _ _ _ e] at hb2 ⊢; exact mark_h hu hb2

theorem AnyD.sound {E : Env} {Q : Exit → Act → World → Prop} {K : St → Prop} (hd : ∀ (i : Nat) (o : Oper), ops[i]? = some o → dstB E.c.nt o.dst = true) (hK : ∀ g s a w, Rel E g s a w → K s → Q .normal a w) : ∀ (fuel : Nat) (listed : Array Bool) (s : St) (g : Gh) (a : Act) (w : World),
    listed.size = ops.size → Unm base ops.size listed s → AnyD P E.c base md ops K fuel listed s → Rel E g (mark base ops.size listed s) a w → wpAnyIn (Fw E) 0 P md ops Q fuel listed a w := by
  have unmark : ∀ (listed : Array Bool) (s : St) (g : Gh) (a : Act) (w : World), Unm base ops.size listed s → Rel E g (mark base ops.size listed s) a w → Rel E g s a w := fun listed s g a w hu H =>
    ⟨H.tmps, H.size, H.defers, H.rl, H.mem.sub (fun hb => mark_h hu hb)⟩
  intro fuel
  induction fuel with
  | zero => exact fun listed s g a w _ hu h H => ⟨h.1, hK _ _ _ _ (unmark _ _ _ _ _ hu H) h.2⟩
  | succ fuel ih =>
    intro listed s g a w hls hu h H
    refine ⟨fun h0 => hK _ _ _ _ (unmark _ _ _ _ _ hu H) (h.1 h0), fun i hi => ?_⟩
    obtain ⟨hun, o, ho, _⟩ := mem_ready.1 hi
    obtain ⟨q, hq, hr⟩ := h.2 i hi o ho
    have hlt : i < ops.size := (Array.getElem?_eq_some_iff.1 ho).1
    have hmark : (mark base ops.size listed s).h (base + i) = some .rsv := by
      show (if _ then _ else _) = _
      rw [if_pos ⟨by omega, by omega, by rw [Nat.add_sub_cancel_left]; exact hun⟩]
    have hcomp : Compat base o.op s (mark base ops.size listed s) := ⟨fun _ b cs _ hc => mark_h hu hc, fun _ b cs hc => mark_h hu hc, fun _ b n hc => mark_h hu hc⟩
    have hq' : Spec P E.c base (base + i) ops o (mark base ops.size listed s) q := by
      refine spec_keep ?_ hcomp hq
      intro i _
      rfl
    obtain ⟨hu', hsub⟩ := unm_go hls hu hlt hq
    refine wpOp_of_spec ho hmark (hd i o ho) hq' H (fun g' a' w' H' => ih _ _ g' a' w' (by simpa using hls) hu' hr ?_)
    have et : (mark base ops.size (listed.setIfInBounds i true) (q.go s)).t = (q.go (mark base ops.size listed s)).t := by
      show (q.go s).t = _
      rw [go_eq, go_eq]
      cases q.dst <;> rfl
    have en : (mark base ops.size (listed.setIfInBounds i true) (q.go s)).nx = (q.go (mark base ops.size listed s)).nx := by
      show (q.go s).nx = _
      rw [go_nx, go_nx]; rfl
    have ed : (mark base ops.size (listed.setIfInBounds i true) (q.go s)).ds = (q.go (mark base ops.size listed s)).ds := by
      show (q.go s).ds = _
      rw [go_ds, go_ds]; rfl
    exact ⟨fun j => by rw [et]; exact H'.tmps j, H'.size, by rw [ed]; exact H'.defers, H'.rl, by rw [en]; exact H'.mem.sub (fun hb => hsub _ _ hb)⟩

theorem anyD_first {K : St → Prop} {i : Nat} {oi : Oper} (hi : ops[i]? = some oi) : ∀ (fuel : Nat) (listed : Array Bool) (s : St) (qi : Eff), listed.size = ops.size → Unm base ops.size listed s →
      (∀ j oj, ops[j]? = some oj → j ≠ i → listed.getD j true = false → (∀ e ∈ oj.after, Region.binds md e = true → e.on ≠ i) → oi.apart ops oj = true ∧ pairOk oi oj = true) →
      i ∈ Region.ready md ops listed → Spec P C base (base + i) ops oi s qi → AnyD P C base md ops K fuel (listed.setIfInBounds i true) (qi.go s) → AnyD P C base md ops K (fuel + 1) listed s := by
  intro fuel
  induction fuel with
  | zero =>
    intro listed s qi _ _ _ hr hy H
    refine ⟨fun h => (by rw [h] at hr; cases hr), fun j hj oj hoj => ?_⟩
    by_cases hji : j = i
    · subst hji
      rw [hi] at hoj; injection hoj with hoj; subst hoj
      exact ⟨qi, hy, H⟩
    · have := ready_mono hj hji
      rw [H.1] at this
      cases this
  | succ fuel ih =>
    intro listed s qi hls hu hfree hr hy H
    refine ⟨fun h => (by rw [h] at hr; cases hr), fun j hj oj hoj => ?_⟩
    by_cases hji : j = i
    · subst hji
      rw [hi] at hoj; injection hoj with hoj; subst hoj
      exact ⟨qi, hy, H⟩
    · obtain ⟨qj, h1, h1'⟩ := H.2 j (ready_mono hj hji) oj hoj
      obtain ⟨hjun, oj', hoj', hall⟩ := mem_ready.1 hj
      rw [hoj] at hoj'; injection hoj' with hoj'; subst hoj'
      have hiun := (mem_ready.1 hr).1
      have hil : i < ops.size := (Array.getElem?_eq_some_iff.1 hi).1
      have hjl : j < ops.size := (Array.getElem?_eq_some_iff.1 hoj).1
      have hnot : ∀ e ∈ oj.after, Region.binds md e = true → e.on ≠ i := fun e he hb heq => by
        have h1 := hall e he hb
        have h0 := hiun
        rw [heq] at h1
        rcases Nat.lt_or_ge i listed.size with h' | h'
        · simp [h'] at h0 h1; rw [h0] at h1; cases h1
        · simp [Array.getElem?_eq_none h'] at h1
      obtain ⟨hap, hpo⟩ := hfree j oj hoj hji hjun hnot
      obtain ⟨s1, s2, s3⟩ := spec_swap (Ne.symm hji) (fun n hn => hu.2 (base + n) (by omega) (by rcases hn with rfl | rfl <;> omega) (by rw [Nat.add_sub_cancel_left]; rcases hn with rfl | rfl <;> assumption)) hap hpo hy h1
      have hfree' : ∀ k ok, ops[k]? = some ok → k ≠ i → (listed.setIfInBounds j true).getD k true = false →
          (∀ e ∈ ok.after, Region.binds md e = true → e.on ≠ i) → oi.apart ops ok = true ∧ pairOk oi ok = true := fun k ok hk hki hun hno => by
        refine hfree k ok hk hki ?_ hno
        by_cases hjk : j = k
        · subst hjk; exact hjun
        · rw [getD_set_ne true hjk] at hun; exact hun
      refine ⟨qj, s1, ih (listed.setIfInBounds j true) (qj.go s) qi (by simpa using hls) (unm_go hls hu hjl s1).1 hfree' (ready_mono hr (Ne.symm hji)) s2 ?_⟩
      rw [← s3, Array.setIfInBounds_comm _ _ hji]
      exact h1'

def lexD (md : Region.Mode) (ops : Array Oper) : Nat → Nat → Array Bool → Bool
  | 0, _, listed => (Region.ready md ops listed).isEmpty
  | fuel + 1, k, listed => (Region.ready md ops listed).contains k && freeD md ops listed k && lexD md ops fuel (k + 1) (listed.setIfInBounds k true)

theorem anyD_lex {Q : Exit → St → Prop} : ∀ (l : List Oper) (k : Nat) (listed : Array Bool) (s : St), listed.size = ops.size → Unm base ops.size listed s → (∀ j, l[j]? = ops[k + j]?) →
    lexD md ops l.length k listed = true → WL (some (base, base + k)) P C ops l s Q → AnyD P C base md ops (fun s => Q .normal s) l.length listed s
  | [], _, _, _, _, _, hl, hB, h => ⟨by simpa [lexD] using hB, h⟩
  | o :: l, k, listed, s, hls, hu, hl, hB, h => by
    have h0 : ops[k]? = some o := by simpa using (hl 0).symm
    simp only [List.length_cons, lexD, Bool.and_eq_true] at hB
    obtain ⟨⟨hr, hf⟩, hB'⟩ := hB
    obtain ⟨q, hq, hK⟩ := stepW_spec h
    exact anyD_first h0 l.length listed s q hls hu (freeD_spec h0 hf) (by simpa using hr) hq
      (anyD_lex l (k + 1) _ _ (by simpa using hls) (unm_go hls hu (Array.getElem?_eq_some_iff.1 h0).1 hq).1 (fun j => by have := hl (j + 1); simpa [Nat.add_assoc, Nat.add_comm 1 j] using this) hB' hK)

def drawOk (ops : Array Oper) : Bool := lexD .any ops ops.size 0 (Array.replicate ops.size false)

theorem region_draw {E : Env} {id : Nat} {l : List Oper} {Q : Exit → St → Prop} (hm : P.follows .mixedOrders = true) (hB : drawOk l.toArray = true) (hd : ∀ o, o ∈ l → dstB E.c.nt o.dst = true)
    (h : WL (some (s.nx, s.nx)) P E.c l.toArray l { s with nx := s.nx + l.length } Q) {g : Gh} {a : Act} {w : World} (H : Rel E g s a w) : (Code.region id l.toArray true).wpIn (Fw E) 0 P (cQ E Q) a w := by
  refine wpIn_region_any hm ?_
  have hget : ∀ j, j < l.length → (Array.replicate l.toArray.size false).getD j true = false := fun j hj => by simp [Array.getD, hj]
  have hu : Unm s.nx l.toArray.size (Array.replicate l.toArray.size false) { s with nx := s.nx + l.length } := ⟨by simp, fun b h1 _ _ => (H.mem.new b h1).1⟩
  have hmk : (mark s.nx l.toArray.size (Array.replicate l.toArray.size false) { s with nx := s.nx + l.length }).h = fun b => if s.nx ≤ b ∧ b < s.nx + l.length then some .rsv else s.h b := by
    funext b
    show (if _ then _ else _) = _
    by_cases hc : s.nx ≤ b ∧ b < s.nx + l.length
    · rw [if_pos hc, if_pos ⟨hc.1, by simpa using hc.2, hget _ (by omega)⟩]
    · rw [if_neg hc, if_neg (fun e => hc ⟨e.1, by simpa using e.2.1⟩)]
  have H' : Rel E g (mark s.nx l.toArray.size (Array.replicate l.toArray.size false) { s with nx := s.nx + l.length }) a { w with drawn := w.drawn + 1 } :=
    ⟨H.tmps, H.size, H.defers, H.rl, by rw [hmk]; exact (H.mem.drew.reserve l.length)⟩
  have := anyD_lex (md := .any) (ops := l.toArray) l 0 (Array.replicate l.toArray.size false) { s with nx := s.nx + l.length } (by simp) hu (by simp) (by simpa [drawOk] using hB) h
  refine AnyD.sound (fun i o ho => hd o ?_) (fun g s a w H hQ => ⟨g, s, H, hQ⟩) _ _ _ g a _ (by simp) hu (by simpa using this) H'
  have := Array.mem_of_getElem? ho
  simpa using this

end Go.Proofs.YtkelfbakcpidjaaGreatDoor
