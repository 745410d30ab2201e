/- The walk's rules for what touches memory, splits, or calls. -/
import Derived.Test.YtjkpfnmkhjlllaaGreatDoorRzOps
import Derived.Test.YtjkpfnmkhjlllaaGreatDoorRzDraw
set_option linter.unusedVariables false
set_option linter.unusedSimpArgs false
namespace Go.Rz
open Go.RowKit (Below)
set_option linter.unusedVariables false

def pureRun (tb : Nat → Option TI) : Nat → List St → Env → List St × Env
  | 0, l, e => (l, e)
  | _ + 1, [], e => ([], e)
  | k + 1, s :: rest, e =>
    match wantedE e s.g with
    | false => bif s.keep then (s :: rest, e) else pureRun tb k rest (updO e s.o.dst undef)
    | true => bif s.keep || Nat.beq s.cls 2 then (s :: rest, e) else match evalP tb e s.o.op with
      | some v => pureRun tb k rest (updO e s.o.dst v)
      | none => (s :: rest, e)

section
variable {P : Program} {B : Base} {r : Option Nat} {n : Nat} {s : St} {rest todo : List St} {pd : List (Nat × List HProp)} {e : Env} {S : List HProp} {Q : Env → List HProp → Prop}

theorem OpT_pure (T : Tab P) {o : Oper} {v : Value} (h : evalP (lookT T.l) e o.op = some v) : OpT P B r n o e [] (fun u L => u = v ∧ L = []) :=
  OpT_run (evalP_run T h (default : World)).2 fun fr w hs => ⟨v, [], w, (evalP_run T h w).1, ⟨rfl, rfl⟩, hs⟩

theorem W_pures (T : Tab P) (k : Nat) (h : Wk P B r n (pureRun (lookT T.l) k todo e).1 pd (pureRun (lookT T.l) k todo e).2 S Q) : Wk P B r n todo pd e S Q := by
  induction k generalizing todo e with
  | zero => exact h
  | succ k ih =>
    cases todo with
    | nil => exact h
    | cons s rest =>
      simp only [pureRun] at h
      cases hg : wantedE e s.g with
      | false =>
        rw [hg] at h
        dsimp only at h
        cases hk : s.keep with
        | true => rw [hk] at h; exact h
        | false => rw [hk] at h; exact .skip hg (by simpa [pdAdd, hk] using ih h)
      | true =>
        rw [hg] at h
        dsimp only at h
        cases hk : (s.keep || Nat.beq s.cls 2) with
        | true => rw [hk] at h; exact h
        | false =>
          rw [hk] at h
          simp only [Bool.or_eq_false_iff] at hk
          simp only [cond_false] at h
          cases hv : evalP (lookT T.l) e s.o.op with
          | none => rw [hv] at h; exact h
          | some v =>
            rw [hv] at h
            exact .float v [] S hg hk.2 (fun _ => rfl) .nil (OpT_pure T hv) (by simpa [pdAdd, hk.1] using ih h)

theorem W_run {P : Program} {B : Base} {r : Option Nat} {n : Nat} {todo : List St} {pd : List (Nat × List HProp)} {e : Env} {S : List HProp} {Q : Env → List HProp → Prop} (T : Tab P) {todo' : List St} {e' : Env} (hr : pureRun (lookT T.l) 100 todo e = (todo', e')) (h : Wk P B r n todo' pd e' S Q) : Wk P B r n todo pd e S Q :=
  W_pures T 100 (by rw [hr]; exact h)
/-- As far as it only computes. -/
structure WkR (T : Tab P) (B : Base) (r : Option Nat) (n : Nat) (todo : List St) (pd : List (Nat × List HProp)) (e : Env) (S : List HProp) (Q : Env → List HProp → Prop) : Prop where
  h : Wk P B r n todo pd e S Q
theorem W_go (T : Tab P) {todo' : List St} {e' : Env} (hr : pureRun (lookT T.l) 100 todo e = (todo', e')) (h : Wk P B r n todo' pd e' S Q) : WkR T B r n todo pd e S Q :=
  ⟨W_run T hr h⟩
theorem W_nil (h : Q e S) : Wk P B r n [] pd e S Q := .nil h
theorem W_skip (hg : wantedE e s.g = false) (k : Wk P B r n rest (pdAdd s [] pd) (updO e s.o.dst undef) S Q) : Wk P B r n (s :: rest) pd e S Q := .skip hg k

/-- What a comparison asks. -/
def cmpQ : BinOp → Value → Value → Option Prop
  | .eql, .int _ a, .int _ b => some (a = b)
  | .neq, .int _ a, .int _ b => some (a ≠ b)
  | .lss, .int _ a, .int _ b => some (a < b)
  | .leq, .int _ a, .int _ b => some (a ≤ b)
  | .gtr, .int _ a, .int _ b => some (b < a)
  | .geq, .int _ a, .int _ b => some (b ≤ a)
  | .eql, .string a, .string b => some (a = b)
  | .neq, .string a, .string b => some (a ≠ b)
  | .lss, .string a, .string b => some (Op.bytesLess a.toList b.toList = true)
  | .leq, .string a, .string b => some (Op.bytesLess a.toList b.toList = true ∨ a = b)
  | .gtr, .string a, .string b => some (¬ (Op.bytesLess a.toList b.toList = true ∨ a = b))
  | .geq, .string a, .string b => some (¬ Op.bytesLess a.toList b.toList = true)
  | _, _, _ => none
def sameKind : Value → Value → Bool
  | .int k _, .int k' _ => decide (k = k')
  | .string _, .string _ => true
  | _, _ => false

theorem toList_inj {a b : ByteArray} (h : a.toList = b.toList) : a = b := by
  have ha : ∀ x : ByteArray, x.toList = x.data.toList := fun x => by
    simp [ByteArray.toList_eq]
  rw [ha, ha] at h
  cases a; cases b; simp at h; simp [Array.ext_iff] at *; exact h

theorem cmp_run {P : Program} {op : BinOp} {t : TypeId} {x y : Value} {c : Prop} (hc : cmpQ op x y = some c) (hk : sameKind x y = true) (w : World) :
    ∃ b, (Go.binOp op t x y).run P w = .ok (.bool b) w ∧ (b = true ↔ c) := by
  unfold cmpQ at hc
  split at hc <;> first | (cases hc; done) | skip
  all_goals injection hc with hc; subst hc
  all_goals first
    | (rename_i k a k' b
       have hkk : k = k' := by simpa [sameKind] using hk
       subst hkk
       exact ⟨_, by simp [Go.binOp, Op.intCmp]; rfl, by simp⟩)
    | (rename_i a b
       have hl : a.toList = b.toList ↔ a = b := ⟨toList_inj, fun h => by rw [h]⟩
       exact ⟨_, rfl, by simp [hl]⟩)

theorem W_cmp {op : BinOp} {t t2 : TypeId} {x y : Operand} {c : Prop} (hop : s.o.op = .binOp op t x y t2) (hg : wantedE e s.g = true) (hcl : (s.keep || Nat.beq s.cls 2) = false)
    (hc : cmpQ op (ev e x) (ev e y) = some c) (hk : sameKind (ev e x) (ev e y) = true)
    (ht : c → Wk P B r n rest pd (updO e s.o.dst (.bool true)) S Q) (hf : ¬ c → Wk P B r n rest pd (updO e s.o.dst (.bool false)) S Q) : Wk P B r n (s :: rest) pd e S Q := by
  obtain ⟨b, hb⟩ : ∃ b : Bool, (b = true ↔ c) := by
    by_cases h : c
    · exact ⟨true, by simp [h]⟩
    · exact ⟨false, by simp [h]⟩
  simp only [Bool.or_eq_false_iff] at hcl
  have hsk : (∀ c d, ev e x ≠ .agg c ∨ ev e y ≠ .agg d) ∧ ev e x ≠ .nilIface := by
    cases h : ev e x <;> rw [h] at hk <;> first | (simp [sameKind] at hk; done) | exact ⟨fun _ _ => .inl (by simp), by simp⟩
  refine .float (.bool b) [] S hg hcl.2 (fun _ => rfl) .nil (OpT_run (by simp [hop]) fun fr w hs => ⟨.bool b, [], w, ?_, ⟨rfl, rfl⟩, hs⟩) ?_
  · obtain ⟨b', h1, h2⟩ := cmp_run (P := P) (t := t) hc hk w
    have : b' = b := by cases b' <;> cases b <;> simp_all
    subst this
    simp only [execOp, hop, Sem.run_bind, eqGuard_run hsk.1 hsk.2, h1, Result.andThen_ok, Sem.run_pure]
  · simp only [pdAdd, hcl.1, Bool.false_eq_true, if_false]
    cases b with
    | true => exact ht (hb.1 rfl)
    | false => exact hf fun h => by simpa using hb.2 h

/-- The cells of an atom that are met. -/
def cut (vs : List Value) (off q n : Nat) : Option (List Value) := bif Nat.ble off q && Nat.ble (q - off + n) vs.length then some ((vs.drop (q - off)).take n) else none
theorem cut_spec {vs us : List Value} {off q n : Nat} (h : cut vs off q n = some us) : us.length = n ∧ ∀ j v, us[j]? = some v → vs[q - off + j]? = some v ∧ off + (q - off + j) = q + j := by
  unfold cut at h
  cases hb : (Nat.ble off q && Nat.ble (q - off + n) vs.length) with
  | false => rw [hb] at h; cases h
  | true =>
    rw [hb] at h
    simp only [Bool.and_eq_true, Nat.ble_eq] at hb
    simp only [cond_true] at h; injection h with h; subst h
    refine ⟨by simp; omega, fun j v hj => ⟨?_, by omega⟩⟩
    rw [List.getElem?_take] at hj
    split at hj
    · rw [List.getElem?_drop] at hj; exact hj
    · cases hj

theorem OpT_load {o : Oper} {t : TypeId} {x : Operand} {i : TI} {b off q : Nat} {F : HProp} {vs us : List Value} (T : Tab P) (hop : o.op = .load t x) (ht : lookT T.l t = some i) (h1 : (i.agg || Nat.beq i.sz 1) = true)
    (hx : ev e x = .pointer (some ⟨b, q, none⟩)) (hr : RdF B F b off vs) (hv : cut vs off q i.sz = some us) : OpT P B r n o e [F] (fun v L => v = mkV i.agg us ∧ L = [F]) :=
  OpT_run (by simp [hop]) fun fr w hs => ⟨_, [F], w, by
    obtain ⟨hl, hc⟩ := cut_spec hv
    have := run_loadVar_ok (P := P) (w := w) (T.at ht) (b := b) (off := q) hl (fun ha => by rw [ha] at h1; simpa using h1) (fun j v hj => by
      obtain ⟨c1, c2⟩ := hc j v hj
      rw [← c2]; exact hr w fr hs _ _ c1)
    simp [execOp, hop, Instr.loadAt, hx, Instr.sureAddr, this], ⟨rfl, rfl⟩, hs⟩

theorem W_load (T : Tab P) {t : TypeId} {x : Operand} {i : TI} {b off q : Nat} {F : HProp} {R : List HProp} {vs us : List Value} (hop : s.o.op = .load t x) (hg : wantedE e s.g = true) (hcl : Nat.beq s.cls 2 = false) (hp0 : Nat.beq s.cls 0 = false)
    (ht : lookT T.l t = some i) (h1 : (i.agg || Nat.beq i.sz 1) = true) (hx : ev e x = .pointer (some ⟨b, q, none⟩)) (hp : Pick S F R) (hr : RdF B F b off vs) (hv : cut vs off q i.sz = some us)
    (k : Wk P B r n rest (pdAdd s [F] pd) (updO e s.o.dst (mkV i.agg us)) S Q) : Wk P B r n (s :: rest) pd e S Q :=
  .float _ [F] R hg hcl (fun h => by rw [h] at hp0; cases hp0) (.cons hp .nil) (OpT_load T hop ht h1 hx hr hv) k

/-- The cells of an atom behind a store. -/
def splice : List Value → Nat → List Value → List Value
  | vs, 0, us => us ++ vs.drop us.length
  | [], _ + 1, _ => []
  | v :: vs, k + 1, us => v :: splice vs k us
theorem splice_eq : ∀ (vs : List Value) (k : Nat) (us : List Value), k + us.length ≤ vs.length → splice vs k us = vs.take k ++ us ++ vs.drop (k + us.length)
  | vs, 0, us, _ => by simp [splice]
  | [], k + 1, us, h => by simp at h
  | v :: vs, k + 1, us, h => by
    simp only [splice]
    rw [splice_eq vs k us (by simp at h; omega)]
    rw [show k + 1 + us.length = (k + us.length) + 1 by omega]
    simp

theorem W_store (T : Tab P) {t : TypeId} {x y : Operand} {i : TI} {b off q : Nat} {R : List HProp} {vs us : List Value} {v : Value} (hop : s.o.op = .store t x y) (hd : s.o.dst = none) (hg : wantedE e s.g = true) (hcl : Nat.ble 2 s.cls = true)
    (ht : lookT T.l t = some i) (hx : ev e x = .pointer (some ⟨b, q, none⟩)) (hy : ev e y = v) (hu : v.cells.toList = us) (hp : Pick S (pts b off vs) R) (hl : locksOk pd R s.locks)
    (hb : (Nat.ble off q && Nat.ble (q - off + i.sz) vs.length) = true) (hlen : Nat.beq us.length i.sz = true) (ho : us.all one = true)
    (k : Wk P B r n rest pd e (pts b off (splice vs (q - off) us) :: R) Q) : Wk P B r n (s :: rest) pd e S Q := by
  refine .anchor [pts b off vs] R (fun u L => L = [pts b off (splice vs (q - off) us)]) hg hcl (.cons hp .nil) (OpT_run_skip (by simp [hop]) fun fr w hs => ?_) hl ?_
  · simp only [Bool.and_eq_true, Nat.ble_eq] at hb
    have hlen' := Nat.eq_of_beq_eq_true hlen
    have hsp : vs = vs.take (q - off) ++ (vs.drop (q - off)).take i.sz ++ vs.drop (q - off + i.sz) := by
      rw [List.append_assoc, ← List.drop_drop, List.take_append_drop, List.take_append_drop]
    rw [hsp] at hs
    obtain ⟨w', h1, h2⟩ := run_storeVar_ok (P := P) (S := fr) (T.at ht) (v := v) hu hs (by simp; omega) hlen' ho
    refine ⟨_, w', ?_, rfl, ?_⟩
    · have ha : off + (vs.take (q - off)).length = q := by simp; omega
      rw [ha] at h1
      simp [execOp, hop, Instr.storeAt, hx, hy, Instr.sureAddr, h1]
    · rw [splice_eq _ _ _ (by omega), hlen']; exact h2
  · rintro u L rfl
    rw [hd]
    exact k

/-! ### Calls -/
theorem OpT_call {o : Oper} {f : FuncId} {args : Array Operand} {ats : Array TypeId} {vals : List Value} {A : List HProp} {Ps : Value → List HProp → Prop} {fn : Func} (hop : o.op = .call ⟨.value (.func f), args, ats⟩) (hf : P.funcs[f]? = some fn) (hb : fn.body.isSome = true) (hn : (fn.name == "runtime.NumGoroutine") = false)
    (ha : args.toList.map (ev e) = vals) (h : Fn P B f vals A Ps) : OpT P B r n o e A Ps := by
  intro fr w hs a next Q hev hk
  refine ⟨fun _ _ => trivial, ?_⟩
  rw [Oper.semAt_eq _ _ _ (by simp [hop]), execOp_congr o (by simp [hop]) hev]
  have hrun : (execOp (ev e) o).run P w = .ok (.enter f vals.toArray) w := by
    have ha' : args.map (ev e) = vals.toArray := by rw [← ha, ← Array.toList_map]
    simp only [execOp, hop, resolve, ha', Sem.run_bind, ev, Deferred.ofValue, Sem.run_pure, Result.andThen_ok, invoke, callFunc, run_program, hf]
    have : fn.body.isNone = false := by cases hbb : fn.body <;> simp_all
    simp [hn, this]
  rw [hrun]
  refine ⟨fun h => by simp [Fx, Fence.wide] at h, ?_⟩
  have := (callsIn_wide (n := n - 1)).2 ((h fr w hs).mono (R' := fun
      | .returned v, w'' => next (a.put o.dst v) w''
      | .panicked chain, w'' => Q (.panic chain) a w''
      | .outgrown, _ => LetsOut Q) (by
    rintro ed w' ⟨v, L, rfl, hp, hs'⟩
    exact hk v L w' hp hs'))
  cases r with
  | none => exact this
  | some l => exact CallsIn.inRound l this

/-- A program's function that can be called. -/
structure IsFn (P : Program) (f : FuncId) : Prop where
  ex : ∃ fn, P.funcs[f]? = some fn ∧ fn.body.isSome = true ∧ (fn.name == "runtime.NumGoroutine") = false

theorem W_call {f : FuncId} {args : Array Operand} {ats : Array TypeId} {vals : List Value} {A R : List HProp} {Ps : Value → List HProp → Prop} (hfn : IsFn P f) (hop : s.o.op = .call ⟨.value (.func f), args, ats⟩) (hg : wantedE e s.g = true) (hcl : Nat.ble 2 s.cls = true)
    (ha : args.toList.map (ev e) = vals) (h : Fn P B f vals A Ps) (ht : Take S A R) (hl : locksOk pd R s.locks)
    (k : ∀ v L, Ps v L → Wk P B r n rest pd (updO e s.o.dst v) (L ++ R) Q) : Wk P B r n (s :: rest) pd e S Q := by
  obtain ⟨fn, h1, h2, h3⟩ := hfn.ex
  exact .anchor A R Ps hg hcl ht (OpT_call hop h1 h2 h3 ha h) hl k
end
end Go.Rz
