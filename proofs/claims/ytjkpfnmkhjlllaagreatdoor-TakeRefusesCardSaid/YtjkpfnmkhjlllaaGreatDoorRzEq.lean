/- Structs that are compared. -/
import Derived.Test.YtjkpfnmkhjlllaaGreatDoorRzActs2
import Derived.Laws.StructEq
set_option linter.unusedVariables false
set_option linter.unusedSimpArgs false
namespace Go.Rz
set_option linter.unusedVariables false
theorem run_part_leaf {P : Program} {t : TypeId} {w : World} {cs : Array Value} {off : Nat} {v : Value} (h : tOk P t = true) (ha : aggB P t = false) (hv : cs[off]? = some v) : (part t cs off).run P w = .ok v w := by
  simp only [part, Sem.run_bind, run_isAgg_ok h, ha, Result.andThen_ok, hv]; simp
theorem run_part_agg {P : Program} {t : TypeId} {w : World} {cs : Array Value} {off n : Nat} (h : tOk P t = true) (ha : aggB P t = true) (hn : P.cellsOf t = n) : (part t cs off).run P w = .ok (.agg (cs.extract off (off + n))) w := by
  simp only [part, Sem.run_bind, run_isAgg_ok h, ha, Result.andThen_ok, if_true, run_sizeOf_ok h, hn, Sem.run_pure]
theorem run_eqF {P : Program} {d : Nat} {xs ys : Array Value} {w : World} {f : Field} {fs : List Field} {a b : Value} {q : Bool} (hn : (f.name != "_") = true) (ha : (part f.type xs f.offset).run P w = .ok a w) (hb : (part f.type ys f.offset).run P w = .ok b w)
    (he : (Op.equalIn d f.type a b).run P w = .ok q w) : (Op.eqFields d xs ys (f :: fs)).run P w = if q then (Op.eqFields d xs ys fs).run P w else .ok false w := by
  have hn' : f.name ≠ "_" := by simpa using hn
  simp only [Op.eqFields, if_pos hn', Sem.run_bind, ha, hb, he, Result.andThen_ok]
  cases q <;> simp
/-- What a field is: a number, a text. -/
inductive LK where
  | int (k : IntKind)
  | str
def lkOk (P : Program) (t : TypeId) : LK → Prop
  | .int k => P.underlying t = some (.int k) ∧ tOk P t = true ∧ aggB P t = false
  | .str => P.underlying t = some .string ∧ tOk P t = true ∧ aggB P t = false
def lkEq : LK → Value → Value → Option Bool
  | .int _, .int k a, .int k' b => bif decide (k = k') then some (a == b) else none
  | .str, .string a, .string b => some (a.toList == b.toList)
  | _, _, _ => none
theorem lkEq_run {P : Program} {d : Nat} {t : TypeId} {k : LK} {x y : Value} {q : Bool} {w : World} (h : lkOk P t k) (he : lkEq k x y = some q) : (Op.equalIn (d + 1) t x y).run P w = .ok q w := by
  cases k with
  | int k0 =>
    cases x <;> try (simp [lkEq] at he; done)
    cases y <;> try (simp [lkEq] at he; done)
    rename_i k a k' b
    by_cases hk : k = k'
    · subst hk
      simp only [lkEq, decide_true, cond_true, Option.some.injEq] at he
      subst he
      exact run_equalIn_int w d t _ k0 _ _ h.1
    · simp [lkEq, hk] at he
  | str =>
    cases x <;> try (simp [lkEq] at he; done)
    cases y <;> try (simp [lkEq] at he; done)
    simp only [lkEq, Option.some.injEq] at he
    subst he
    exact run_equalIn_string w d t _ _ h.1
def eqL : List (Nat × LK) → List Value → List Value → Option Bool
  | [], _, _ => some true
  | (o, k) :: l, xs, ys => match xs[o]?, ys[o]? with
    | some x, some y => match lkEq k x y, eqL l xs ys with
      | some q, some r => some (q && r)
      | _, _ => none
    | _, _ => none
def fldsOk (P : Program) : List Field → List (Nat × LK) → Prop
  | [], [] => True
  | f :: fs, (o, k) :: l => f.offset = o ∧ (f.name != "_") = true ∧ lkOk P f.type k ∧ fldsOk P fs l
  | _, _ => False
theorem lkOk.leaf {P : Program} {t : TypeId} {k : LK} (h : lkOk P t k) : tOk P t = true ∧ aggB P t = false := by cases k <;> exact h.2
theorem eqL_run {P : Program} {d : Nat} {xs ys : Array Value} {w : World} : ∀ {fs : List Field} {l : List (Nat × LK)} {q : Bool}, fldsOk P fs l → eqL l xs.toList ys.toList = some q → (Op.eqFields (d + 1) xs ys fs).run P w = .ok q w
  | [], [], q, _, h => by simp only [eqL, Option.some.injEq] at h; subst h; simp [Op.eqFields]
  | f :: fs, [], q, h, _ => h.elim
  | [], x :: l, q, h, _ => h.elim
  | f :: fs, (o, k) :: l, q, h, he => by
    obtain ⟨ho, hn, hk1, h⟩ := h
    unfold eqL at he
    split at he <;> try (cases he; done)
    rename_i x y hx hy
    split at he <;> try (cases he; done)
    rename_i q1 r hq1 hr
    injection he with he; subst he
    have hleaf := hk1.leaf
    rw [run_eqF (a := x) (b := y) (q := q1) hn (run_part_leaf hleaf.1 hleaf.2 (by rw [ho]; simpa using hx)) (run_part_leaf hleaf.1 hleaf.2 (by rw [ho]; simpa using hy)) (lkEq_run hk1 hq1)]
    cases q1
    · simp
    · simp only [if_true, Bool.true_and]
      exact eqL_run h hr
/-- A field that may itself have fields. -/
inductive FK where
  | leaf (k : LK)
  | sub (n : Nat) (l : List (Nat × LK))
def stOk (P : Program) (t : TypeId) (l : List (Nat × LK)) : Prop := P.underlying t = some (.struct (P.fieldsOf t)) ∧ P.stoodInHeld t = false ∧ fldsOk P (P.fieldsOf t).toList l
def fkOk (P : Program) (t : TypeId) : FK → Prop
  | .leaf k => lkOk P t k
  | .sub n l => stOk P t l ∧ tOk P t = true ∧ aggB P t = true ∧ P.cellsOf t = n
def fldsOk2 (P : Program) : List Field → List (Nat × FK) → Prop
  | [], [] => True
  | f :: fs, (o, k) :: l => f.offset = o ∧ (f.name != "_") = true ∧ fkOk P f.type k ∧ fldsOk2 P fs l
  | _, _ => False
def fkEq : FK → Nat → List Value → List Value → Option Bool
  | .leaf k, o, xs, ys => match xs[o]?, ys[o]? with
    | some x, some y => lkEq k x y
    | _, _ => none
  | .sub n l, o, xs, ys => eqL l ((xs.drop o).take n) ((ys.drop o).take n)
def eqS : List (Nat × FK) → List Value → List Value → Option Bool
  | [], _, _ => some true
  | (o, k) :: l, xs, ys => match fkEq k o xs ys, eqS l xs ys with
    | some q, some r => some (q && r)
    | _, _ => none
theorem eqS_run {P : Program} {d : Nat} {xs ys : Array Value} {w : World} : ∀ {fs : List Field} {l : List (Nat × FK)} {q : Bool}, fldsOk2 P fs l → eqS l xs.toList ys.toList = some q → (Op.eqFields (d + 2) xs ys fs).run P w = .ok q w
  | [], [], q, _, h => by simp only [eqS, Option.some.injEq] at h; subst h; simp [Op.eqFields]
  | f :: fs, [], q, h, _ => h.elim
  | [], x :: l, q, h, _ => h.elim
  | f :: fs, (o, k) :: l, q, h, he => by
    obtain ⟨ho, hn, hk1, h⟩ := h
    unfold eqS at he
    split at he <;> try (cases he; done)
    rename_i q1 r hq1 hr
    injection he with he; subst he
    have fin : ∀ {a b : Value}, (part f.type xs f.offset).run P w = .ok a w → (part f.type ys f.offset).run P w = .ok b w → (Op.equalIn (d + 2) f.type a b).run P w = .ok q1 w → (Op.eqFields (d + 2) xs ys (f :: fs)).run P w = .ok (q1 && r) w := fun ha hb hc => by
      rw [run_eqF hn ha hb hc]
      cases q1
      · simp
      · simp only [if_true, Bool.true_and]
        exact eqS_run h hr
    cases k with
    | leaf k =>
      unfold fkEq at hq1
      dsimp only at hq1
      split at hq1 <;> try (cases hq1; done)
      rename_i x y hx hy
      have hk1' : lkOk P f.type k := hk1
      have hleaf := hk1'.leaf
      exact fin (run_part_leaf hleaf.1 hleaf.2 (by rw [ho]; simpa using hx)) (run_part_leaf hleaf.1 hleaf.2 (by rw [ho]; simpa using hy)) (lkEq_run (d := d + 1) hk1' hq1)
    | sub n l' =>
      obtain ⟨⟨h1, h2, h3⟩, h4, h5, h6⟩ := hk1
      refine fin (run_part_agg h4 h5 h6) (run_part_agg h4 h5 h6) ?_
      rw [run_equalIn_agg w _ _ _ _ h1 h2]
      refine eqL_run h3 ?_
      rw [ho]
      simpa [fkEq] using hq1
/-- A type of structs that may be compared. -/
structure EqT (P : Program) (t : TypeId) (l : List (Nat × FK)) : Prop where
  u : P.underlying t = some (.struct (P.fieldsOf t))
  st : P.stoodInHeld t = false
  g : P.eqGuardType P.depth t = false
  f : fldsOk2 P (P.fieldsOf t).toList l

def lkB (P : Program) (t : TypeId) : LK → Bool
  | .int k => (match P.underlying t with | some (.int k') => decide (k' = k) | _ => false) && tOk P t && !aggB P t
  | .str => (match P.underlying t with | some .string => true | _ => false) && tOk P t && !aggB P t
theorem lkB_ok {P : Program} {t : TypeId} {k : LK} (h : lkB P t k = true) : lkOk P t k := by
  cases k with
  | int k =>
    simp only [lkB, Bool.and_eq_true, Bool.not_eq_true'] at h
    obtain ⟨⟨h1, h2⟩, h3⟩ := h
    refine ⟨?_, h2, h3⟩
    split at h1
    · rename_i k' hk; rw [hk]; simp at h1; rw [h1]
    · cases h1
  | str =>
    simp only [lkB, Bool.and_eq_true, Bool.not_eq_true'] at h
    obtain ⟨⟨h1, h2⟩, h3⟩ := h
    refine ⟨?_, h2, h3⟩
    split at h1
    · rename_i hk; exact hk
    · cases h1
def fldsB (P : Program) : List Field → List (Nat × LK) → Bool
  | [], [] => true
  | f :: fs, (o, k) :: l => Nat.beq f.offset o && (f.name != "_") && lkB P f.type k && fldsB P fs l
  | _, _ => false
theorem fldsB_ok {P : Program} : ∀ {fs : List Field} {l : List (Nat × LK)}, fldsB P fs l = true → fldsOk P fs l
  | [], [], _ => trivial
  | _ :: _, [], h => by cases h
  | [], _ :: _, h => by cases h
  | f :: fs, (o, k) :: l, h => by
    simp only [fldsB, Bool.and_eq_true] at h
    exact ⟨Nat.eq_of_beq_eq_true h.1.1.1, h.1.1.2, lkB_ok h.1.2, fldsB_ok h.2⟩
def stB (P : Program) (t : TypeId) : Bool := (match P.underlying t with | some (.struct _) => true | _ => false) && !P.stoodInHeld t
theorem stB_ok {P : Program} {t : TypeId} (h : stB P t = true) : P.underlying t = some (.struct (P.fieldsOf t)) ∧ P.stoodInHeld t = false := by
  simp only [stB, Bool.and_eq_true, Bool.not_eq_true'] at h
  refine ⟨?_, h.2⟩
  have h1 := h.1
  split at h1
  · rename_i fs hk; rw [hk, Program.fieldsOf, hk]
  · cases h1
def fkB (P : Program) (t : TypeId) : FK → Bool
  | .leaf k => lkB P t k
  | .sub n l => stB P t && fldsB P (P.fieldsOf t).toList l && tOk P t && aggB P t && Nat.beq (P.cellsOf t) n
theorem fkB_ok {P : Program} {t : TypeId} {k : FK} (h : fkB P t k = true) : fkOk P t k := by
  cases k with
  | leaf k => exact lkB_ok h
  | sub n l =>
    simp only [fkB, Bool.and_eq_true] at h
    exact ⟨⟨(stB_ok h.1.1.1.1).1, (stB_ok h.1.1.1.1).2, fldsB_ok h.1.1.1.2⟩, h.1.1.2, h.1.2, Nat.eq_of_beq_eq_true h.2⟩
def fldsB2 (P : Program) : List Field → List (Nat × FK) → Bool
  | [], [] => true
  | f :: fs, (o, k) :: l => Nat.beq f.offset o && (f.name != "_") && fkB P f.type k && fldsB2 P fs l
  | _, _ => false
theorem fldsB2_ok {P : Program} : ∀ {fs : List Field} {l : List (Nat × FK)}, fldsB2 P fs l = true → fldsOk2 P fs l
  | [], [], _ => trivial
  | _ :: _, [], h => by cases h
  | [], _ :: _, h => by cases h
  | f :: fs, (o, k) :: l, h => by
    simp only [fldsB2, Bool.and_eq_true] at h
    exact ⟨Nat.eq_of_beq_eq_true h.1.1.1, h.1.1.2, fkB_ok h.1.2, fldsB2_ok h.2⟩
def eqTB (P : Program) (t : TypeId) (l : List (Nat × FK)) : Bool := stB P t && !P.eqGuardType P.depth t && fldsB2 P (P.fieldsOf t).toList l
theorem EqT.of {P : Program} {t : TypeId} {l : List (Nat × FK)} (h : eqTB P t l = true) : EqT P t l := by
  simp only [eqTB, Bool.and_eq_true, Bool.not_eq_true'] at h
  exact ⟨(stB_ok h.1.1).1, (stB_ok h.1.1).2, h.1.2, fldsB2_ok h.2⟩

section
variable {P : Program} {T : Tab P} {B : Base} {r : Option Nat} {n : Nat} {s : St} {rest todo : List St} {pd : List (Nat × List HProp)} {e : Env} {S : List HProp} {Q : Env → List HProp → Prop}
def eqOp (op : BinOp) (q : Bool) : Bool := match op with | .eql => q | _ => !q
theorem A_eqS (T : Tab P) {t t2 : TypeId} {l : List (Nat × FK)} (E : EqT P t l) {op : BinOp} {x y : Operand} {xs ys : Array Value} {q : Bool}
    (htr : q = true → WkR T B r n rest (pdAdd s [] pd) (updO e s.o.dst (.bool (eqOp op true))) S Q) (hfa : q = false → WkR T B r n rest (pdAdd s [] pd) (updO e s.o.dst (.bool (eqOp op false))) S Q)
    (hop : s.o.op = .binOp op t x y t2 := by rfl) (hg : wantedE e s.g = true := by rfl) (hcl : Nat.beq s.cls 2 = false := by rfl) (hx : ev e x = .agg xs := by rfl) (hy : ev e y = .agg ys := by rfl) (hq : eqS l xs.toList ys.toList = some q := by rfl) (hor : (op == .eql || op == .neq) = true := by rfl) : Wk P B r n (s :: rest) pd e S Q := by
  have hrun : ∀ w : World, (Op.equalIn 10000 t (.agg xs) (.agg ys)).run P w = .ok q w := fun w => by
    rw [run_equalIn_agg w _ _ _ _ E.u E.st]
    exact eqS_run E.f hq
  have hbin : ∀ w : World, (Go.binOp op t (.agg xs) (.agg ys)).run P w = .ok (.bool (eqOp op q)) w := fun w => by
    cases op <;> first | (cases hor; done) | skip
    · rw [run_eql_struct, hrun]; rfl
    · rw [run_neq_struct, hrun]; rfl
  have main : ∀ b : Bool, (eqOp op q) = b → WkR T B r n rest (pdAdd s [] pd) (updO e s.o.dst (.bool b)) S Q → Wk P B r n (s :: rest) pd e S Q := fun b hb k => by
    refine S_val T (.bool b) (fun w => ?_) (by simp [hop]) hg hcl k
    simp only [execOp, hop, hx, hy, Sem.run_bind, run_eqGuard_agg w op t x y xs ys E.g, hbin w, hb, Result.andThen_ok, Sem.run_pure]
  cases q with
  | true => exact main _ rfl (htr rfl)
  | false => exact main _ rfl (hfa rfl)
/-- They are the same, term for term. -/
theorem A_eqSY (T : Tab P) {t t2 : TypeId} {l : List (Nat × FK)} (E : EqT P t l) {op : BinOp} {x y : Operand} {xs ys : Array Value} {q : Bool}
    (k : WkR T B r n rest (pdAdd s [] pd) (updO e s.o.dst (.bool (eqOp op true))) S Q)
    (hop : s.o.op = .binOp op t x y t2 := by rfl) (hg : wantedE e s.g = true := by rfl) (hcl : Nat.beq s.cls 2 = false := by rfl) (hx : ev e x = .agg xs := by rfl) (hy : ev e y = .agg ys := by rfl) (hq : eqS l xs.toList ys.toList = some q := by rfl) (hor : (op == .eql || op == .neq) = true := by rfl) (h : q = true := by simp; done) : Wk P B r n (s :: rest) pd e S Q :=
  A_eqS T E (fun _ => k) (fun hf => by rw [h] at hf; cases hf) hop hg hcl hx hy hq hor
end
end Go.Rz
