/- The walk: what a piece of code does, from a list of assertions to another one; the temporaries as a function. -/
import Derived.Test.YtjkpfnmkhjlllaaGreatDoorRzSl
import Derived.OrdersIn
import Derived.RangeFuncCalls
set_option linter.unusedVariables false
set_option linter.unusedSimpArgs false
namespace Go.Rz
open Go.RowKit (Below)
set_option linter.unusedVariables false

abbrev Env := Nat → Value

def upd (e : Env) (d : Nat) (v : Value) : Env := fun t => bif Nat.beq t d then v else e t
def updO (e : Env) : Option Tmp → Value → Env
  | some d, v => upd e d v
  | none, _ => e
def ev (e : Env) : Operand → Value
  | .tmp t => e t
  | .const v => v
  | .global g => .pointer (some ⟨g, 0, none⟩)
  | .func f => .func (.func f) #[] #[]

structure Rel (N : Nat) (a : Act) (e : Env) : Prop where
  size : a.tmps.size = N
  at_ : ∀ t, a.tmps.getD t undef = e t

theorem Rel.eval {N : Nat} {a : Act} {e : Env} (h : Rel N a e) : a.eval = ev e := by
  funext x
  cases x <;> simp [Act.eval, ev, h.at_]

def dstOk (N : Nat) : Option Tmp → Bool
  | some d => Nat.blt d N
  | none => true

theorem Rel.put {N : Nat} {a : Act} {e : Env} (h : Rel N a e) {dst : Option Tmp} (hd : dstOk N dst = true) (v : Value) : Rel N (a.put dst v) (updO e dst v) := by
  cases dst with
  | none => exact h
  | some d =>
    have hd : d < N := by simpa [dstOk, Nat.blt_eq] using hd
    refine ⟨by simp [Act.put, h.size], fun t => ?_⟩
    simp only [Act.put, updO, upd]
    by_cases e' : t = d
    · subst e'
      simp [Array.getD_eq_getD_getElem?, h.size, hd]
    · rw [show Nat.beq t d = false from by cases hx : Nat.beq t d with | false => rfl | true => exact absurd (Nat.eq_of_beq_eq_true hx) e']
      simp only [cond_false]
      rw [← h.at_ t]
      simp only [Array.getD_eq_getD_getElem?]
      rw [Array.getElem?_setIfInBounds, if_neg (fun x => e' x.symm)]

/-- The fence that lets all in; in a round, or not. -/
def Fx (r : Option Nat) : Fence := { Fence.wide with round := r }
theorem Fx_none : Fx none = Fence.wide := rfl

/-! ### One operation -/
def OpT (P : Program) (B : Base) (r : Option Nat) (n : Nat) (o : Oper) (e : Env) (A : List HProp) (Bp : Value → List HProp → Prop) : Prop :=
  ∀ (fr : List HProp) (w : World), Sat B w (A ++ fr) → ∀ (a : Act) (next : Act → World → Prop) (Q : Exit → Act → World → Prop), (∀ x ∈ o.op.operands, a.eval x = ev e x) →
    (∀ v L w', Bp v L → Sat B w' (L ++ fr) → next (a.put o.dst v) w') → o.wpIn (Fx r) n P a w next Q

/-- An operation of a region, as the walk meets it. cls: 0: it only computes; 1: it only reads; 2: it acts; 3: any of these. -/
structure St where
  idx : Nat
  o : Oper
  g : Option (Tmp × Bool)
  cls : Nat
  keep : Bool
  locks : List Nat

def wantedE (e : Env) : Option (Tmp × Bool) → Bool
  | none => true
  | some (t, want) => match e t with
    | .bool b => b == want
    | _ => false

def locksOk (pd : List (Nat × List HProp)) (F : List HProp) : List Nat → Prop
  | [] => True
  | j :: js => (∃ Lk R, (j, Lk) ∈ pd ∧ Take F Lk R) ∧ locksOk pd F js

def pdAdd (s : St) (Lk : List HProp) (pd : List (Nat × List HProp)) : List (Nat × List HProp) := if s.keep then (s.idx, Lk) :: pd else pd

inductive Wk (P : Program) (B : Base) (r : Option Nat) (n : Nat) : List St → List (Nat × List HProp) → Env → List HProp → (Env → List HProp → Prop) → Prop where
  | nil {pd : List (Nat × List HProp)} {e : Env} {S : List HProp} {Q : Env → List HProp → Prop} (h : Q e S) : Wk P B r n [] pd e S Q
  | skip {s : St} {rest : List St} {pd : List (Nat × List HProp)} {e : Env} {S : List HProp} {Q : Env → List HProp → Prop}
      (hg : wantedE e s.g = false) (k : Wk P B r n rest (pdAdd s [] pd) (updO e s.o.dst undef) S Q) : Wk P B r n (s :: rest) pd e S Q
  | float {s : St} {rest : List St} {pd : List (Nat × List HProp)} {e : Env} {S : List HProp} {Q : Env → List HProp → Prop} (v : Value) (Lk R : List HProp)
      (hg : wantedE e s.g = true) (hc : Nat.beq s.cls 2 = false) (hp : s.cls = 0 → Lk = []) (ht : Take S Lk R) (ho : OpT P B r n s.o e Lk (fun u L => u = v ∧ L = Lk))
      (k : Wk P B r n rest (pdAdd s Lk pd) (updO e s.o.dst v) S Q) : Wk P B r n (s :: rest) pd e S Q
  | anchor {s : St} {rest : List St} {pd : List (Nat × List HProp)} {e : Env} {S : List HProp} {Q : Env → List HProp → Prop} (A F : List HProp) (Bp : Value → List HProp → Prop)
      (hg : wantedE e s.g = true) (hc : Nat.ble 2 s.cls = true) (ht : Take S A F) (ho : OpT P B r n s.o e A Bp) (hl : locksOk pd F s.locks)
      (k : ∀ v L, Bp v L → Wk P B r n rest pd (updO e s.o.dst v) (L ++ F) Q) : Wk P B r n (s :: rest) pd e S Q

/-- The walk's view of an operation is right. -/
structure St.fits (N : Nat) (ops : Array Oper) (s : St) : Prop where
  op : ops[s.idx]? = some s.o
  dst : dstOk N s.o.dst = true
  guard : match s.o.guard with
    | none => s.g = none
    | some (j, want) => ∃ t, (ops[j]?).bind (·.dst) = some t ∧ t < N ∧ s.g = some (t, want)

theorem St.fits.wanted {N : Nat} {ops : Array Oper} {s : St} (h : s.fits N ops) {a : Act} {e : Env} (hr : Rel N a e) : Region.wanted s.o (yielded ops a.tmps) = wantedE e s.g := by
  have hg := h.guard
  unfold Region.wanted
  split at hg
  · rename_i hn; rw [hn, hg]; rfl
  · rename_i j want hn
    obtain ⟨t, ht, hlt, hs⟩ := hg
    rw [hn, hs]
    simp only [wantedE, yielded, ht, Option.bind_some]
    have : a.tmps[t]? = some (e t) := by
      have h1 := hr.at_ t
      rw [Array.getD_eq_getD_getElem?, Array.getElem?_eq_getElem (by rw [hr.size]; exact hlt)] at h1
      rw [Array.getElem?_eq_getElem (by rw [hr.size]; exact hlt)]
      simpa using h1
    rw [this]
    cases e t <;> simp

theorem Wk.plain {P : Program} {B : Base} {r : Option Nat} {n : Nat} {N : Nat} {ops : Array Oper} {todo : List St} {pd : List (Nat × List HProp)} {e : Env} {S : List HProp} {Q : Env → List HProp → Prop}
    (h : Wk P B r n todo pd e S Q) : ∀ {a : Act} {w : World} {ds : List Deferred} {K : Exit → Act → World → Prop}, (∀ s ∈ todo, s.fits N ops) → Rel N a e → a.defers = ds → Sat B w S →
      (∀ e' S' a' w', Q e' S' → Rel N a' e' → a'.defers = ds → Sat B w' S' → K .normal a' w') → wpOpsIn (Fx r) n P ops K (todo.map (·.idx)) a w := by
  induction h with
  | nil hq => intro a w ds K _ hr hd hs hk; exact hk _ _ _ _ hq hr hd hs
  | @skip s rest pd e S Q hg k ih =>
    intro a w ds K hf hr hd hs hk
    have fs := hf s (by simp)
    simp only [List.map_cons, wpOpsIn, fs.op, fs.wanted hr, hg, Bool.false_eq_true, if_false]
    exact ⟨fun _ _ => trivial, ih (fun x hx => hf x (by simp [hx])) (hr.put fs.dst _) (by cases s.o.dst <;> exact hd) hs hk⟩
  | @float s rest pd e S Q v Lk R hg hc hp ht ho k ih =>
    intro a w ds K hf hr hd hs hk
    have fs := hf s (by simp)
    simp only [List.map_cons, wpOpsIn, fs.op, fs.wanted hr, hg, if_true]
    refine ho R w (hs.take ht) a _ _ (fun x _ => by rw [hr.eval]) ?_
    rintro u L w' ⟨rfl, rfl⟩ hs'
    exact ih (fun x hx => hf x (by simp [hx])) (hr.put fs.dst _) (by cases s.o.dst <;> exact hd) (hs'.mono fun _ => ht.back) hk
  | @anchor s rest pd e S Q A F Bp hg hc ht ho hl k ih =>
    intro a w ds K hf hr hd hs hk
    have fs := hf s (by simp)
    simp only [List.map_cons, wpOpsIn, fs.op, fs.wanted hr, hg, if_true]
    refine ho F w (hs.take ht) a _ _ (fun x _ => by rw [hr.eval]) ?_
    intro v L w' hb hs'
    exact ih v L hb (fun x hx => hf x (by simp [hx])) (hr.put fs.dst _) (by cases s.o.dst <;> exact hd) hs' hk

/-- A region's operations as the walk meets them. -/
def plan1 (x : Nat × Nat × Bool × List Nat) (ops : Array Oper) : St :=
  let o := ops[x.1]?.getD default
  { idx := x.1, o, g := o.guard.bind fun g => ((ops[g.1]?).bind (·.dst)).map (·, g.2), cls := x.2.1, keep := x.2.2.1, locks := x.2.2.2 }
def plan (ops : Array Oper) : List (Nat × Nat × Bool × List Nat) → List St
  | [] => []
  | x :: l => plan1 x ops :: plan ops l
theorem plan_map (ops : Array Oper) : ∀ l, plan ops l = l.map fun x => plan1 x ops
  | [] => rfl
  | x :: l => by simp [plan, plan_map ops l]
def planOk1 (N : Nat) (ops : Array Oper) (i : Nat) : Bool :=
  match ops[i]? with
  | none => false
  | some o => dstOk N o.dst && (match o.guard with
    | none => true
    | some (j, _) => match (ops[j]?).bind (·.dst) with
      | some t => Nat.blt t N
      | none => false)
theorem planOk1.fits {N : Nat} {ops : Array Oper} {x : Nat × Nat × Bool × List Nat} (h : planOk1 N ops x.1 = true) : (plan1 x ops).fits N ops := by
  unfold planOk1 at h
  cases ho : ops[x.1]? with
  | none => rw [ho] at h; cases h
  | some o =>
    rw [ho] at h
    simp only [Bool.and_eq_true] at h
    refine ⟨by simp [plan1, ho], by simpa [plan1, ho] using h.1, ?_⟩
    have h2 := h.2
    simp only [plan1, ho, Option.getD_some]
    cases hg : o.guard with
    | none => simp
    | some g =>
      obtain ⟨j, want⟩ := g
      rw [hg] at h2
      dsimp only at h2 ⊢
      cases hd : (ops[j]?).bind (·.dst) with
      | none => rw [hd] at h2; cases h2
      | some t => rw [hd] at h2; exact ⟨t, rfl, by simpa [Nat.blt_eq] using h2, by show ((ops[j]?).bind (·.dst)).map (·, want) = _; rw [hd]; rfl⟩

/-! ### Code -/
abbrev Post := Exit → Env → List Deferred → List HProp → Prop

def lift (N : Nat) (B : Base) (Q : Post) : Exit → Act → World → Prop := fun ex a w => ∃ e S, Rel N a e ∧ Sat B w S ∧ Q ex e a.defers S

def Tri (P : Program) (B : Base) (r : Option Nat) (n N : Nat) (c : Code) (e : Env) (ds : List Deferred) (S : List HProp) (Q : Post) : Prop :=
  ∀ a w, Rel N a e → a.defers = ds → Sat B w S → c.wpIn (Fx r) n P (lift N B Q) a w

def thenP (K : Env → List Deferred → List HProp → Prop) (Q : Post) : Post
  | .normal => K
  | ex => Q ex
def inBlockP (id : Nat) (Q : Post) : Post
  | .exit id' => if id' = id then Q .normal else Q (.exit id')
  | ex => Q ex

section
variable {P : Program} {B : Base} {r : Option Nat} {n N : Nat} {e : Env} {ds : List Deferred} {S : List HProp} {Q : Post}

theorem T_skip (h : Q .normal e ds S) : Tri P B r n N .skip e ds S Q := fun a w hr hd hs => wpIn_skip ⟨e, S, hr, hs, hd ▸ h⟩
theorem T_label {l : Nat} (h : Q .normal e ds S) : Tri P B r n N (.label l) e ds S Q := fun a w hr hd hs => wpIn_label ⟨e, S, hr, hs, hd ▸ h⟩
theorem T_exit {id : Nat} (h : Q (.exit id) e ds S) : Tri P B r n N (.exit id) e ds S Q := fun a w hr hd hs => wpIn_exit ⟨e, S, hr, hs, hd ▸ h⟩
theorem T_goto {id : Nat} (h : Q (.goto id) e ds S) : Tri P B r n N (.goto id) e ds S Q := fun a w hr hd hs => wpIn_goto ⟨e, S, hr, hs, hd ▸ h⟩
theorem T_ret (h : Q .ret e ds S) : Tri P B r n N .ret e ds S Q := fun a w hr hd hs => wpIn_ret ⟨e, S, hr, hs, hd ▸ h⟩
theorem T_seq {x y : Code} (h : Tri P B r n N x e ds S (thenP (fun e ds S => Tri P B r n N y e ds S Q) Q)) : Tri P B r n N (.seq x y) e ds S Q := fun a w hr hd hs =>
  wpIn_seq (wpIn_mono (h a w hr hd hs) fun ex a w hq => by
    obtain ⟨e, S, hr, hs, hq⟩ := hq
    cases ex <;> first | exact hq a w hr rfl hs | exact ⟨e, S, hr, hs, hq⟩)
theorem T_cond {c : Operand} {x y : Code} {t : Bool} (hc : ev e c = .bool t) (ht : t = true → Tri P B r n N x e ds S Q) (hf : t = false → Tri P B r n N y e ds S Q) : Tri P B r n N (.cond c x y) e ds S Q :=
  fun a w hr hd hs => wpIn_cond_split (by rw [hr.eval]; exact hc) (fun h => ht h a w hr hd hs) (fun h => hf h a w hr hd hs)
theorem T_cond_true {c : Operand} {x y : Code} (hc : ev e c = .bool true) (h : Tri P B r n N x e ds S Q) : Tri P B r n N (.cond c x y) e ds S Q :=
  fun a w hr hd hs => wpIn_cond_true (by rw [hr.eval]; exact hc) (h a w hr hd hs)
theorem T_cond_false {c : Operand} {x y : Code} (hc : ev e c = .bool false) (h : Tri P B r n N y e ds S Q) : Tri P B r n N (.cond c x y) e ds S Q :=
  fun a w hr hd hs => wpIn_cond_false (by rw [hr.eval]; exact hc) (h a w hr hd hs)
theorem T_block {id : Nat} {c : Code} (h : Tri P B r n N c e ds S (inBlockP id Q)) : Tri P B r n N (.block id c) e ds S Q := fun a w hr hd hs =>
  wpIn_block (wpIn_mono (h a w hr hd hs) fun ex a w hq => by
    obtain ⟨e, S, hr, hs, hq⟩ := hq
    cases ex with
    | exit id' =>
      simp only [inBlockP] at hq
      simp only [Exit.inBlock]
      split
      · rename_i hid; rw [if_pos hid] at hq; exact ⟨e, S, hr, hs, hq⟩
      · rename_i hid; rw [if_neg hid] at hq; exact ⟨e, S, hr, hs, hq⟩
    | _ => exact ⟨e, S, hr, hs, hq⟩)
theorem T_take {c : Code} {L R : List HProp} (t : Take S L R) (h : Tri P B r n N c e ds (L ++ R) Q) : Tri P B r n N c e ds S Q := fun a w hr hd hs => h a w hr hd (hs.take t)
theorem T_mono {c : Code} {Q' : Post} (h : Tri P B r n N c e ds S Q') (hq : ∀ ex e ds S, Q' ex e ds S → Q ex e ds S) : Tri P B r n N c e ds S Q := fun a w hr hd hs =>
  wpIn_mono (h a w hr hd hs) fun ex a w ⟨e, S, hr, hs, hx⟩ => ⟨e, S, hr, hs, hq _ _ _ _ hx⟩
/-- Worlds that are so hold something more (or something else). -/
theorem T_weaken {c : Code} {T : List HProp} (hST : ∀ h, seps S h → seps T h) (h : Tri P B r n N c e ds T Q) : Tri P B r n N c e ds S Q := fun a w hr hd hs => h a w hr hd (hs.mono hST)
/-- What the assertions say of any world may be used. -/
theorem T_pure {c : Code} {φ : Prop} (hφ : ∀ w, Sat B w S → φ) (h : φ → Tri P B r n N c e ds S Q) : Tri P B r n N c e ds S Q := fun a w hr hd hs => h (hφ w hs) a w hr hd hs
theorem T_pr {c : Code} {φ : Prop} (h : φ → Tri P B r n N c e ds S Q) : Tri P B r n N c e ds (pr φ :: S) Q := fun a w hr hd hs => by
  have hf : φ := by obtain ⟨_, _, h, _, h1, h2, a, _⟩ := hs; exact a
  exact h hf a w hr hd (hs.mono fun _ => seps_tail)

theorem plan_idx (ops : Array Oper) (l : List (Nat × Nat × Bool × List Nat)) : (plan ops l).map (·.idx) = l.map (·.1) := by simp [plan_map, plan1]

/-- The list of a plain region's plan. -/
def inText (k : Nat) : List (Nat × Nat × Bool × List Nat) := (List.range k).map fun i => (i, 3, false, [])

theorem T_region {id : Nat} {ops : Array Oper} (hok : (List.range ops.size).all (planOk1 N ops) = true)
    (h : Wk P B r n (plan ops (inText ops.size)) [] e S (fun e S => Q .normal e ds S)) : Tri P B r n N (.region id ops false) e ds S Q := fun a w hr hd hs => by
  refine wpIn_region ?_
  have := h.plain (N := N) (ops := ops) (a := a) (w := w) (ds := ds) (K := lift N B Q) ?_ hr hd hs (fun e' S' a' w' hq hr' hd' hs' => ⟨e', S', hr', hs', hd' ▸ hq⟩)
  · rw [plan_idx] at this
    simpa [inText, Function.comp_def] using this
  · intro s hs
    simp only [plan_map, inText, List.map_map, List.mem_map] at hs
    obtain ⟨i, hi, rfl⟩ := hs
    exact planOk1.fits (by simpa using (List.all_eq_true.1 hok) i hi)

/-- A loop: what holds at each round's head; something grows less. -/
theorem T_loop {c : Code} (I : Env → List Deferred → List HProp → Nat → Prop) (m : Nat) (h0 : I e ds S m)
    (round : ∀ e ds S m, I e ds S m → Tri P B r n N c e ds S (thenP (fun e' ds' S' => ∃ m', m' < m ∧ I e' ds' S' m') Q)) : Tri P B r n N (.loop c) e ds S Q := fun a w hr hd hs => by
  have key : ∀ m a w, (∃ e S, Rel N a e ∧ Sat B w S ∧ I e a.defers S m) → (Code.loop c).wpIn (Fx r) n P (lift N B Q) a w := by
    intro m a w hI
    refine wpIn_loop (fun a w => ∃ m, ∃ e S, Rel N a e ∧ Sat B w S ∧ I e a.defers S m) (fun a w => Classical.epsilon fun m => (∃ e S, Rel N a e ∧ Sat B w S ∧ I e a.defers S m) ∧ ∀ m', (∃ e S, Rel N a e ∧ Sat B w S ∧ I e a.defers S m') → m ≤ m') ⟨m, hI⟩ ?_
    have least : ∀ (p : Nat → Prop), (∃ k, p k) → ∃ k, p k ∧ ∀ j, p j → k ≤ j := by
      intro p hp
      obtain ⟨k, hk⟩ := hp
      induction k using Nat.strongRecOn with
      | _ k ih =>
        by_cases hx : ∃ j, j < k ∧ p j
        · obtain ⟨j, hj, hpj⟩ := hx; exact ih j hj hpj
        · exact ⟨k, hk, fun j hj => by
            by_cases hlt : j < k
            · exact absurd ⟨j, hlt, hj⟩ hx
            · omega⟩
    rintro a w hm
    have hl := Classical.epsilon_spec (least _ hm)
    obtain ⟨⟨e, S, hr, hs, hI⟩, hmin⟩ := hl
    refine wpIn_mono (round e a.defers S _ hI a w hr rfl hs) ?_
    rintro ex a' w' ⟨e', S', hr', hs', hq⟩
    cases ex with
    | normal =>
      obtain ⟨m', hlt, hI'⟩ := hq
      refine ⟨⟨m', e', S', hr', hs', hI'⟩, ?_⟩
      have hl' := Classical.epsilon_spec (least (fun m => ∃ e S, Rel N a' e ∧ Sat B w' S ∧ I e a'.defers S m) ⟨m', e', S', hr', hs', hI'⟩)
      exact Nat.lt_of_le_of_lt (hl'.2 m' ⟨e', S', hr', hs', hI'⟩) hlt
    | _ => exact ⟨e', S', hr', hs', hq⟩
  exact key m a w ⟨e, S, hr, hs, hd ▸ h0⟩
end

/-! ### Functions -/
def Fn (P : Program) (B : Base) (f : FuncId) (args : List Value) (A : List HProp) (Ps : Value → List HProp → Prop) : Prop :=
  ∀ (fr : List HProp) (w : World), Sat B w (A ++ fr) → Calls P f args.toArray w fun ed w' => ∃ v L, ed = .returned v ∧ Ps v L ∧ Sat B w' (L ++ fr)

/-- The temporaries when a function begins. -/
def envOf (l : List Value) : Env := fun t => l.getD t undef

inductive ResL (S : List HProp) (P : Program) (e : Env) : List ResultVar → List Value → Prop where
  | nil : ResL S P e [] []
  | tmp {t : Tmp} {l : List ResultVar} {vs : List Value} (h : ResL S P e l vs) : ResL S P e (.tmp t :: l) (e t :: vs)
  | cell {a : Tmp} {t : TypeId} {v : Value} {l : List ResultVar} {vs : List Value} (hv : ∀ (B : Base) (w : World), Sat B w S → ∃ x, e a = .pointer (some x) ∧ (loadVar t x).run P w = .ok v w)
      (h : ResL S P e l vs) : ResL S P e (.cell a t :: l) (v :: vs)

def tupled : List Value → Value
  | [v] => v
  | l => .tuple l.toArray

inductive All2 {α β : Type} (R : α → β → Prop) : List α → List β → Prop where
  | nil : All2 R [] []
  | cons {a : α} {b : β} {l : List α} {m : List β} (h : R a b) (t : All2 R l m) : All2 R (a :: l) (b :: m)

theorem mapM_results {P : Program} {w : World} {tmps : Array Value} : ∀ (l : List ResultVar) (vs : List Value),
    (All2 (fun rv v => ((match rv with | .tmp t => pure (tmps.getD t undef) | .cell a t => do loadVar t (← asAddr (tmps.getD a undef)) : Sem Value)).run P w = .ok v w) l vs) →
    (l.mapM fun rv => ((match rv with | .tmp t => pure (tmps.getD t undef) | .cell a t => do loadVar t (← asAddr (tmps.getD a undef)) : Sem Value))).run P w = .ok vs w := by
  intro l vs h
  induction h with
  | nil => rfl
  | cons h _ ih => rw [List.mapM_cons]; simp only [Sem.run_bind, h, Result.andThen_ok, ih, Sem.run_pure]

theorem ResL.run {S : List HProp} {P : Program} {e : Env} {l : List ResultVar} {vs : List Value} (h : ResL S P e l vs) {B : Base} {w : World} (hs : Sat B w S) {tmps : Array Value} (ht : ∀ t, tmps.getD t undef = e t) :
    All2 (fun rv v => ((match rv with | .tmp t => pure (tmps.getD t undef) | .cell a t => do loadVar t (← asAddr (tmps.getD a undef)) : Sem Value)).run P w = .ok v w) l vs := by
  induction h with
  | nil => exact .nil
  | tmp _ ih => exact .cons (by simp [ht]) ih
  | cell hv _ ih =>
    refine .cons ?_ ih
    obtain ⟨x, hx, hr⟩ := hv B w hs
    simp [ht, hx, asAddr, hr]

theorem results_of {S : List HProp} {P : Program} {e : Env} {fn : Func} {vs : List Value} (h : ResL S P e fn.results.toList vs) {B : Base} {w : World} (hs : Sat B w S) {tmps : Array Value} (ht : ∀ t, tmps.getD t undef = e t) :
    (results fn tmps).run P w = .ok (tupled vs) w := by
  have h1 := mapM_results _ _ (h.run hs ht)
  have h2 : (fn.results.mapM fun rv => ((match rv with | .tmp t => pure (tmps.getD t undef) | .cell a t => do loadVar t (← asAddr (tmps.getD a undef)) : Sem Value))).run P w = .ok vs.toArray w := by
    rw [Array.mapM_eq_mapM_toList]
    simp only [Sem.run_map, h1, Result.andThen_ok]
  unfold results
  simp only [Sem.run_bind]
  refine Eq.trans (congrArg (fun x => Result.andThen x _) h2) ?_
  simp only [Result.andThen_ok, Sem.run_pure]
  cases vs with
  | nil => rfl
  | cons v l => cases l with
    | nil => rfl
    | cons u l => simp [tupled]

/-- What a function's body must come to. -/
def bodyQ (P : Program) (fn : Func) (fr : List HProp) (Ps : Value → List HProp → Prop) : Post
  | .normal, e, ds, S | .ret, e, ds, S => ds = [] ∧ ∃ vs L R, ResL S P e fn.results.toList vs ∧ Ps (tupled vs) L ∧ Take S (L ++ fr) R
  | _, _, _, _ => False

theorem Fn_of {P : Program} {B : Base} {f : FuncId} {fn : Func} {c : Code} {args : List Value} {A : List HProp} {Ps : Value → List HProp → Prop} (hf : P.funcs[f]? = some fn) (hb : fn.body = some c)
    (hN : Nat.ble args.length fn.ntmps = true) (h : ∀ fr : HProp, Tri P B none 0 fn.ntmps c (envOf args) [] (A ++ [fr]) (bodyQ P fn [fr] Ps)) : Fn P B f args A Ps := by
  intro fr w hs
  have hN := Nat.le_of_ble_eq_true hN
  refine callsIn_wide (n := 0).1 ?_
  refine callsIn_of_wp (F := Fence.wide) hf hb trivial (wpIn_mono (h (seps fr) { tmps := args.toArray ++ Array.replicate (fn.ntmps - args.toArray.size) undef, defers := [] } w ⟨by simp; omega, fun t => ?_⟩ rfl (hs.mono fun _ => seps_fold)) ?_)
  · simp only [envOf, Array.getD_eq_getD_getElem?, List.getD_eq_getElem?_getD]
    rw [Array.getElem?_append]
    split
    · simp
    · rename_i hge
      rw [show args[t]? = none by simp at hge ⊢; omega]
      cases hx : (Array.replicate (fn.ntmps - args.toArray.size) undef)[t - args.toArray.size]? with
      | none => rfl
      | some v => rw [Array.getElem?_replicate] at hx; split at hx <;> simp_all
  · rintro ex a w' ⟨e, S, hr, hsat, hq⟩
    have fin : bodyQ P fn [seps fr] Ps .ret e a.defers S → a.defers = [] ∧ ∃ v, (results fn a.tmps).run P w' = .ok v w' ∧ ∃ v' L, Ending.returned v = .returned v' ∧ Ps v' L ∧ Sat B w' (L ++ fr) := by
      rintro ⟨hd, vs, L, R, hres, hp, ht⟩
      exact ⟨hd, tupled vs, results_of hres hsat hr.at_, _, L, rfl, hp, (hsat.mono fun _ x => seps_append_left (ht.out x)).mono fun _ => seps_unfold⟩
    cases ex <;> first | exact fin hq | exact hq.elim

theorem Fn.mono {P : Program} {B : Base} {f : FuncId} {args : List Value} {A : List HProp} {Ps Ps' : Value → List HProp → Prop} (h : Fn P B f args A Ps) (hp : ∀ v L, Ps v L → Ps' v L) : Fn P B f args A Ps' :=
  fun fr w hs => (h fr w hs).mono fun e w' ⟨v, L, a, b, c⟩ => ⟨v, L, a, hp _ _ b, c⟩
end Go.Rz
