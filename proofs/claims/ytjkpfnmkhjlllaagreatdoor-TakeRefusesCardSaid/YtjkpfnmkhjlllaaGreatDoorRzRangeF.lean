/- Calls of function values, ranges over functions, scopes. -/
import Derived.Test.YtjkpfnmkhjlllaaGreatDoorRzActs
import Derived.Scope
import Derived.RangeFuncIn
import Derived.RangeFuncRecord
set_option linter.unusedVariables false
set_option linter.unusedSimpArgs false
namespace Go.Rz
open Go.RowKit (Below)
set_option linter.unusedVariables false

/-! ### Scopes without a goto -/
theorem stepR_scope {P : Program} {b : Frame} {a : Act} {k : List Item} {cs : List Frame} {w : World} {c : Code} : step P (lone (b.atR a (.code (.scope c) :: k)) cs w) = .next (lone (b.atR a (.code c :: .inScope c :: k)) cs w) :=
  step_lone_go (by simp [stepG, stepG.exec, Frame.atR])
theorem stepR_inScope {P : Program} {b : Frame} {a : Act} {k : List Item} {cs : List Frame} {w : World} {c : Code} : step P (lone (b.atR a (.inScope c :: k)) cs w) = .next (lone (b.atR a k) cs w) :=
  step_lone_go (by simp [stepG, stepG.exec, Frame.atR])
theorem wpIn_scope_straight {F : Fence} {n : Nat} {P : Program} {Q : Exit → Act → World → Prop} {a : Act} {w : World} {c : Code} (h : c.wpIn F n P (Exit.noGoto Q) a w) : (Code.scope c).wpIn F n P Q a w := by
  intro b k cs hro hb hr
  have h0 : (lone (b.atR a (.code (.scope c) :: k)) cs w).fenced P F := fenced_calm hb hr rfl
  obtain ⟨e, a₁, w₁, hq, harr⟩ := h b (.inScope c :: k) cs hro hb hr
  cases e with
  | normal => exact ⟨.normal, a₁, w₁, hq, .head h0 stepR_scope (StepsIn.trans harr (.one (fenced_calm hb hr rfl) stepR_inScope))⟩
  | exit id =>
    have hx : exitTo id (.inScope c :: k) = exitTo id k := by simp [exitTo]
    exact ⟨_, a₁, w₁, hq, fun k' hk => .head h0 stepR_scope (harr.1 k' (by rw [hx]; exact hk)),
      fun hr' hk => let ⟨k₁, h1, h2⟩ := harr.2 hr' (by rw [hx]; exact hk); ⟨k₁, h1, .head h0 stepR_scope h2⟩⟩
  | goto l => exact hq.elim
  | ret => exact ⟨_, a₁, w₁, hq, .of_steps (.one h0 stepR_scope) harr⟩
  | panic ch => exact ⟨_, a₁, w₁, hq, .of_steps (.one h0 stepR_scope) harr⟩
  | outgrown => exact ⟨_, a₁, w₁, hq, .of_steps (.one h0 stepR_scope) harr⟩

section
variable {P : Program} {B : Base} {r : Option Nat} {n N : Nat} {e : Env} {ds : List Deferred} {S : List HProp} {Q : Post}

def noGotoP (Q : Post) : Post
  | .goto _, _, _, _ => False
  | ex, e, ds, S => Q ex e ds S
theorem T_scope {c : Code} (h : Tri P B r n N c e ds S (noGotoP Q)) : Tri P B r n N (.scope c) e ds S Q := fun a w hr hd hs =>
  wpIn_scope_straight (wpIn_mono (h a w hr hd hs) (by
    rintro ex a' w' ⟨e', S', hr', hs', hq⟩
    cases ex <;> first | exact ⟨e', S', hr', hs', hq⟩ | exact hq.elim))

/-! ### Calls of function values -/
def CallV (P : Program) (B : Base) (f : Value) (args : List Value) (A : List HProp) (Ps : Value → List HProp → Prop) : Prop :=
  ∀ (r : Option Nat) (n : Nat) (e : Env) (o : Oper) (fo : Operand) (as : Array Operand) (ats : Array TypeId), o.op = .call ⟨.value fo, as, ats⟩ → ev e fo = f → as.toList.map (ev e) = args → OpT P B r n o e A Ps

theorem IsFn.callFunc {f : FuncId} (h : IsFn P f) (args : Array Value) (w : World) : (callFunc f args).run P w = .ok (.enter f args) w := by
  obtain ⟨fn, hf, hb, hn⟩ := h.ex
  have : fn.body.isNone = false := by cases hbb : fn.body <;> simp_all
  simp only [Go.callFunc, Sem.run_bind, run_program, Result.andThen_ok, hf, hn, this, Bool.false_eq_true, if_false, Sem.run_pure]

theorem CallV_fn {f : FuncId} {first captured : Array Value} {args : List Value} {A : List HProp} {Ps : Value → List HProp → Prop} (hfn : IsFn P f) (h : Fn P B f (first.toList ++ args ++ captured.toList) A Ps) : CallV P B (.func (.func f) first captured) args A Ps := by
  intro r n e o fo as ats hop hf ha fr w hs a next Q hev hk
  refine ⟨fun _ _ => trivial, ?_⟩
  rw [Oper.semAt_eq _ _ _ (by simp [hop]), execOp_congr o (by simp [hop]) hev]
  have hrun : (execOp (ev e) o).run P w = .ok (.enter f (first.toList ++ args ++ captured.toList).toArray) w := by
    have ha' : as.map (ev e) = args.toArray := by rw [← ha, ← Array.toList_map]
    have hcf := hfn.callFunc (first ++ args.toArray ++ captured) w
    simp only [execOp, hop, resolve, ha', hf, Sem.run_bind, Deferred.ofValue, Sem.run_pure, Result.andThen_ok, invoke]
    rw [hcf]
    congr 2
    apply Array.ext'; simp
  rw [hrun]
  refine ⟨fun h => by simp [Fx, Fence.wide] at h, ?_⟩
  have := (callsIn_wide (n := n - 1)).2 ((h fr w hs).mono (R' := fun
      | .returned v, w'' => next (a.put o.dst v) w''
      | .panicked chain, w'' => Q (.panic chain) a w''
      | .outgrown, _ => LetsOut Q) (by
    rintro ed w' ⟨v, L, rfl, hp, hs'⟩
    exact hk v L w' hp hs'))
  cases r with
  | none => exact this
  | some l => exact CallsIn.inRound l this

theorem CallV.mono {f : Value} {args : List Value} {A : List HProp} {Ps Ps' : Value → List HProp → Prop} (h : CallV P B f args A Ps) (hp : ∀ v L, Ps v L → Ps' v L) : CallV P B f args A Ps' :=
  fun r n e o fo as ats hop hf ha fr w hs a next Q hev hk => h r n e o fo as ats hop hf ha fr w hs a next Q hev fun v L w' hx => hk v L w' (hp v L hx)

/-- With more owned beside. -/
theorem CallV.frame {f : Value} {args : List Value} {A : List HProp} {Ps : Value → List HProp → Prop} (h : CallV P B f args A Ps) (G : List HProp) : CallV P B f args (A ++ G) (fun v L => ∃ L', Ps v L' ∧ L = L' ++ G) :=
  fun r n e o fo as ats hop hf ha fr w hs a next Q hev hk => h r n e o fo as ats hop hf ha (G ++ fr) w (by simpa using hs) a next Q hev fun v L w' hx hs' => hk v (L ++ G) w' ⟨L, hx, rfl⟩ (by simpa using hs')

variable {T : Tab P} {s : St} {rest : List St} {pd : List (Nat × List HProp)} {K : Env → List HProp → Prop}
theorem A_callV (T : Tab P) {fo : Operand} {f : Value} {args : Array Operand} {ats : Array TypeId} {vals : List Value} {A R : List HProp} {φ : Prop} {Ps : Value → List HProp → Prop} (h : φ → CallV P B f vals A Ps) (hφ : φ)
    (k : ∀ v L, Ps v L → WkR T B r n rest pd (updO e s.o.dst v) (L ++ R) K)
    (hop : s.o.op = .call ⟨.value fo, args, ats⟩ := by rfl) (hg : wantedE e s.g = true := by rfl) (hcl : Nat.ble 2 s.cls = true := by rfl)
    (hf : ev e fo = f := by rfl) (ha : args.toList.map (ev e) = vals := by rfl) (ht : Take S A R := by (repeat (first | exact Take.nil | with_reducible apply tk0 | with_reducible apply tk1 | with_reducible apply tk2 | with_reducible apply tk3 | with_reducible apply tk4 | with_reducible apply tk5 | with_reducible apply tk6 | with_reducible apply tk7 | with_reducible apply tk8)); (first | done | fail)) (hl : locksOk pd R s.locks := by exact locks_nil) : Wk P B r n (s :: rest) pd e S K :=
  .anchor A R Ps hg hcl ht (h hφ r n e s.o fo args ats hop hf ha) hl fun v L x => (k v L x).h

/-! ### Ranges over functions -/
def updL (e : Env) : List Nat → List Value → Env
  | p :: ps, v :: vs => updL (upd e p v) ps vs
  | _, _ => e

theorem Rel.zip : ∀ (ps : List Nat) (vs : List Value) {tmps : Array Value} {e : Env}, tmps.size = N → (∀ t, tmps.getD t undef = e t) → (∀ p ∈ ps, p < N) →
    Rel N { tmps := (ps.zip vs).foldl (fun t (x : Nat × Value) => t.setIfInBounds x.1 x.2) tmps, defers := [] } (updL e ps vs)
  | [], vs, tmps, e, hsz, h, _ => by cases vs <;> exact ⟨hsz, h⟩
  | p :: ps, [], tmps, e, hsz, h, _ => ⟨hsz, h⟩
  | p :: ps, v :: vs, tmps, e, hsz, h, hp => by
    simp only [List.zip_cons_cons, List.foldl_cons, updL]
    refine Rel.zip ps vs (by simpa using hsz) (fun t => ?_) (fun q hq => hp q (by simp [hq]))
    have := hp p (by simp)
    simp only [Array.getD_eq_getD_getElem?, Array.getElem?_setIfInBounds]
    unfold upd
    by_cases e1 : p = t
    · subst e1
      simp [hsz, this]
    · have : Nat.beq t p = false := by
        cases hb : Nat.beq t p with
        | false => rfl
        | true => exact absurd (Nat.eq_of_beq_eq_true hb).symm e1
      rw [if_neg e1, this]
      simpa [Array.getD_eq_getD_getElem?] using h t

def Ent (S T : List HProp) : Prop := ∀ h, seps S h → seps T h
/-- A loop's record. -/
def recOf (fn : FuncId) (tmps : Array Value) (ps : Array Tmp) (assign body : Code) (D : Nat) (st : LoopState) (pe : Option Code) : Loop := { state := st, pending := pe, fn, tmps, params := ps, assign, body, defers := D }
def ends (F : HProp) (p : Heap → Prop) : HProp := fun h => F h ∧ p h

/-- How a round's body may be left. -/
def roundQ {ι : Type} (J : ι → List HProp) (Jx : Code → ι → List HProp) (fr : HProp) (s : ι) : Post
  | .normal, _, _, S => Ent S (J s ++ [fr])
  | .ret, _, _, S => Ent S (Jx .ret s ++ [fr])
  | .exit id, _, _, S => Ent S (Jx (.exit id) s ++ [fr])
  | .goto id, _, _, S => Ent S (Jx (.goto id) s ++ [fr])
  | _, _, _, _ => False

/-- A round's end. -/
def stopped {ι : Type} (l : Nat) (rec : LoopState → Option Code → Loop) (Jx : Code → ι → List HProp) (s : ι) : HProp := fun h => ∃ c, seps (objAt l (.loop (rec .done (some c))) :: Jx c s) h

theorem seps_rot {A : HProp} : ∀ {L : List HProp} {h : Heap}, seps (A :: L) h → seps (L ++ [A]) h
  | [], _, H => H
  | C :: L, _, H => seps_cons_mono (fun _ => seps_rot (L := L)) (seps_swap H)
theorem seps_rot' {A : HProp} : ∀ {L : List HProp} {h : Heap}, seps (L ++ [A]) h → seps (A :: L) h
  | [], _, H => H
  | C :: L, _, H => seps_swap (seps_cons_mono (fun _ => seps_rot' (L := L)) H)
theorem seps_mid {A : HProp} : ∀ {L R : List HProp} {h : Heap}, seps (A :: (L ++ R)) h → seps (L ++ A :: R) h
  | [], _, _, H => H
  | C :: L, R, _, H => seps_cons_mono (fun _ => seps_mid (L := L)) (seps_swap H)
theorem seps_mid' {A : HProp} : ∀ {L R : List HProp} {h : Heap}, seps (L ++ A :: R) h → seps (A :: (L ++ R)) h
  | [], _, _, H => H
  | C :: L, R, _, H => seps_swap (seps_cons_mono (fun _ => seps_mid' (L := L)) H)
theorem seps_open {L S : List HProp} {h : Heap} (H : seps (seps L :: S) h) : seps (L ++ S) h :=
  seps_unfold (seps_rot (A := seps S) (seps_unfold (L := [seps S]) (R := L) (seps_swap (seps_fold (L := [seps L]) (R := S) H))))
theorem seps_shut {L S : List HProp} {h : Heap} (H : seps (L ++ S) h) : seps (seps L :: S) h :=
  seps_unfold (L := [seps L]) (R := S) (seps_swap (seps_fold (L := [seps S]) (R := L) (seps_rot' (A := seps S) (seps_fold H))))

theorem seps_swapL {L R : List HProp} : ∀ {M : List HProp} {h : Heap}, seps (L ++ (M ++ R)) h → seps (M ++ (L ++ R)) h
  | [], _, H => H
  | C :: M, _, H => seps_cons_mono (fun _ => seps_swapL (M := M)) (seps_mid' (L := L) H)

def botP : Post := fun _ _ _ _ => False

theorem Sat.turn {w : World} {l : Nat} {o : Obj} {L R : List HProp} (o' : Obj) (ho : o'.isCells = false) (hs : Sat B w (L ++ [seps (objAt l o :: R)])) :
    w.heap[l]? = some o ∧ Sat B (w.putObj l o') (L ++ [seps (objAt l o' :: R)]) ∧ Sat B (w.putObj l o') (objAt l o' :: (L ++ R)) := by
  have h1 : Sat B w (objAt l o :: (L ++ R)) := hs.mono fun h H => seps_mid' (seps_unfold H)
  have h2 := h1.setObj o' ho
  exact ⟨h1.obj.2.1, h2.mono fun h H => seps_fold (seps_mid H), h2⟩

theorem CallV_yield {ι : Type} {l fn D : Nat} {tmps : Array Value} {ps : Array Tmp} {assign body : Code} {e0 : Env} {J : ι → List HProp} {Jx : Code → ι → List HProp} {s s' : ι} {vals : List Value}
    (hN : tmps.size = N) (he : ∀ t, tmps.getD t undef = e0 t) (hps : ∀ p ∈ ps.toList, p < N) (hlen : vals.length = ps.size)
    (hbody : ∀ fr n, Tri P B (some l) n N assign (updL e0 ps.toList vals) [] (J s ++ [fr]) (thenP (fun e ds S => S.dropLast ++ [fr] = S ∧ ∀ fr', Tri P B (some l) n N body e ds (S.dropLast ++ [fr']) (roundQ J Jx fr' s')) botP)) :
    CallV P B (.func (.yield l) #[] #[]) vals (objAt l (.loop (recOf fn tmps ps assign body D .ready none)) :: J s)
      (fun v L => v = .bool true ∧ L = objAt l (.loop (recOf fn tmps ps assign body D .ready none)) :: J s' ∨ v = .bool false ∧ L = [stopped l (recOf fn tmps ps assign body D) Jx s']) := by
  intro r n e o fo as ats hop hf ha fr w hs a next Q hev hk
  refine ⟨fun _ _ => trivial, ?_⟩
  rw [Oper.semAt_eq _ _ _ (by simp [hop]), execOp_congr o (by simp [hop]) hev]
  have h0 : Sat B w (J s ++ [seps (objAt l (.loop (recOf fn tmps ps assign body D .ready none)) :: fr)]) := hs.mono fun h H => seps_fold (seps_mid H)
  have hl := (h0.turn (.loop (recOf fn tmps ps assign body D .ready none)) rfl).1
  have hrun : (execOp (ev e) o).run P w = .ok (.round l fn ((ps.zip vals.toArray).foldl (fun tmps (t, a) => tmps.setIfInBounds t a) tmps) assign body) w := by
    have ha' : as.map (ev e) = vals.toArray := by rw [← ha, ← Array.toList_map]
    have hy := run_yield (P := P) (args := vals.toArray) hl (by simpa [recOf] using hlen)
    simp only [execOp, hop, resolve, ha', hf, Sem.run_bind, Deferred.ofValue, Sem.run_pure, Result.andThen_ok, invoke]
    simpa [recOf] using hy
  rw [hrun]
  refine ⟨fun h => by simp [Fx, Fence.wide] at h, roundIn_of_wpIn (F := Fx r) trivial ?_⟩
  have htm : ((ps.zip vals.toArray).foldl (fun tmps (t, a) => tmps.setIfInBounds t a) tmps) = (ps.toList.zip vals).foldl (fun t (x : Nat × Value) => t.setIfInBounds x.1 x.2) tmps := by
    rw [← Array.foldl_toList]; simp
  rw [htm]
  have hrel := Rel.zip (N := N) ps.toList vals hN he hps
  refine wpIn_mono (hbody _ (n - 1) _ w hrel rfl h0) ?_
  rintro ex a1 w1 ⟨e1, S1, hr1, hs1, hq⟩
  cases ex <;> try exact hq.elim
  obtain ⟨hS, hb⟩ := hq
  rw [← hS] at hs1
  obtain ⟨hl1, hs2, _⟩ := hs1.turn (.loop { recOf fn tmps ps assign body D .ready none with state := .busy }) rfl
  refine ⟨_, run_beginRound hl1 rfl, wpIn_mono (hb _ a1 _ hr1 rfl hs2) ?_⟩
  rintro ex a3 w3 ⟨e3, S3, hr3, hs3, hq⟩
  have stop : ∀ c, Ent S3 (Jx c s' ++ [seps (objAt l (.loop { recOf fn tmps ps assign body D .ready none with state := .busy }) :: fr)]) →
      ∃ v w', (Instr.endRound l (some c)).run P w3 = .ok v w' ∧ next (a.put o.dst v) w' := fun c hR => by
    have hs4 : Sat B w3 (Jx c s' ++ [seps (objAt l (.loop { recOf fn tmps ps assign body D .ready none with state := .busy }) :: fr)]) := hs3.mono hR
    obtain ⟨hl3, _, hs5⟩ := hs4.turn (.loop (recOf fn tmps ps assign body D .done (some c))) rfl
    refine ⟨_, _, run_endRound (some c) hl3, hk _ _ _ (.inr ⟨rfl, rfl⟩) (hs5.mono fun h H => ?_)⟩
    have : seps (seps (objAt l (.loop (recOf fn tmps ps assign body D .done (some c))) :: Jx c s') :: fr) h := seps_shut H
    exact seps_head_mono (fun g hg => ⟨c, hg⟩) this
  cases ex with
  | normal =>
    have hR := hq
    have hs4 : Sat B w3 (J s' ++ [seps (objAt l (.loop { recOf fn tmps ps assign body D .ready none with state := .busy }) :: fr)]) := hs3.mono hR
    obtain ⟨hl3, _, hs5⟩ := hs4.turn (.loop (recOf fn tmps ps assign body D .ready none)) rfl
    exact ⟨_, _, run_endRound none hl3, hk _ _ _ (.inl ⟨rfl, rfl⟩) hs5⟩
  | ret => exact stop _ hq
  | exit id => exact stop _ hq
  | goto id => exact stop _ hq
  | panic ch => exact hq.elim
  | outgrown => exact hq.elim

/-- What a function must be that is ranged over: it begins at s0, yields step by step, and ends where all is done, or where it was stopped. -/
def Iter {ι : Type} (P : Program) (B : Base) (f : FuncId) (first lb : Array Value) (stp : ι → List Value → ι → Prop) (s0 : ι) (A : List HProp) (dn st : ι → List HProp → Prop) : Prop :=
  ∀ (Y : Value) (JJ : ι → List HProp) (X : ι → HProp), (∀ s vals s', stp s vals s' → CallV P B Y vals (JJ s) (fun v L => v = .bool true ∧ L = JJ s' ∨ v = .bool false ∧ L = [X s'])) →
    Fn P B f (first.toList ++ [Y] ++ lb.toList) (A ++ JJ s0) (fun _ L => ∃ A' s, dn s A' ∧ L = A' ++ JJ s ∨ st s A' ∧ L = A' ++ [X s])

def mark (D : Nat) : Deferred := { target := .collected D, args := #[] }

theorem T_rangeFunc {ι : Type} {g : Operand} {ps : Array Tmp} {assign body : Code} {gf : Nat} {first lb : Array Value} {A R : List HProp} {stp : ι → List Value → ι → Prop} {s0 : ι} {dn st : ι → List HProp → Prop} (J : ι → List HProp) (Jx : Code → ι → List HProp)
    (hg : ev e g = .func (.func gf) first lb) (hfn : IsFn P gf) (hps : ps.toList.all (fun p => Nat.blt p N) = true) (hlen : ∀ s vals s', stp s vals s' → vals.length = ps.size)
    (ht : Take S (A ++ J s0) R) (hit : Iter P B gf first lb stp s0 A dn st)
    (hbody : ∀ l fr n s vals s', stp s vals s' → Tri P B (some l) n N assign (updL e ps.toList vals) [] (J s ++ [fr]) (thenP (fun e ds S => S.dropLast ++ [fr] = S ∧ ∀ fr', Tri P B (some l) n N body e ds (S.dropLast ++ [fr']) (roundQ J Jx fr' s')) botP))
    (hdone : ∀ D s A', dn s A' → Q .normal e (mark D :: ds) (objAt D (.deferred (some [])) :: (A' ++ J s ++ R)))
    (hstop : ∀ D s A' c, st s A' → Tri P B none n N c e (mark D :: ds) (objAt D (.deferred (some [])) :: (A' ++ Jx c s ++ R)) Q) :
    Tri P B none n N (.rangeFunc g ps assign body) e ds S Q := by
  intro a w hr hd hs
  subst hd
  refine wpIn_rangeFunc fun fn _ => ?_
  have h1 : Sat B w (A ++ J s0 ++ R) := hs.take ht
  have h2 := h1.allocObj (.deferred (some [])) rfl
  have h3 := h2.allocObj (.loop (recOf fn a.tmps ps assign body w.heap.size .ready none)) rfl
  have hsz : (w.alloc (.deferred (some []))).heap.size = w.heap.size + 1 := by simp
  rw [hsz] at h3
  obtain ⟨W1, hW1⟩ : ∃ W1, (w.alloc (.deferred (some []))).alloc (.loop (recOf fn a.tmps ps assign body w.heap.size .ready none)) = W1 := ⟨_, rfl⟩
  rw [hW1] at h3
  refine ⟨w.heap.size + 1, [mark w.heap.size], W1, { target := .fn (.func gf) lb, args := first ++ #[.func (.yield (w.heap.size + 1)) #[] #[]] }, W1, gf,
    first ++ #[.func (.yield (w.heap.size + 1)) #[] #[]] ++ lb, W1, hW1 ▸ run_enterLoop_outer _ _ _ _ _, ?_, fun f' _ => trivial, ?_, fun h => by simp [Fx, Fence.wide] at h, ?_⟩
  · have hev : a.eval g = .func (.func gf) first lb := by rw [hr.eval, hg]
    have hev2 : a.eval (.const (.func (.yield (w.heap.size + 1)) #[] #[])) = .func (.yield (w.heap.size + 1)) #[] #[] := rfl
    simp only [resolve, hev, Deferred.ofValue, Sem.run_pure]
    simp [hev2]
  · simp only [invoke]; exact hfn.callFunc _ _
  · have hfnc := hit (.func (.yield (w.heap.size + 1)) #[] #[]) (fun s => objAt (w.heap.size + 1) (.loop (recOf fn a.tmps ps assign body w.heap.size .ready none)) :: J s)
      (stopped (w.heap.size + 1) (recOf fn a.tmps ps assign body w.heap.size) Jx)
      (fun s vals s' hst => CallV_yield (N := N) (by exact hr.size) hr.at_ (fun p hp => by have := List.all_eq_true.1 hps p hp; exact Nat.le_of_ble_eq_true this) (hlen _ _ _ hst) (fun fr n => hbody _ fr n s vals s' hst))
    have h4 : Sat B _ (A ++ (objAt (w.heap.size + 1) (.loop (recOf fn a.tmps ps assign body w.heap.size .ready none)) :: J s0) ++ (objAt w.heap.size (.deferred (some [])) :: R)) := h3.mono fun h H => by
      have e1 := seps_cons_mono (fun _ => seps_mid (L := A ++ J s0) (R := R)) H
      rw [List.append_assoc]
      refine seps_mid (L := A) ?_
      rw [List.append_assoc] at e1
      exact e1
    have hc := hfnc _ _ h4
    have harr : (first.toList ++ [Value.func (.yield (w.heap.size + 1)) #[] #[]] ++ lb.toList).toArray = first ++ #[.func (.yield (w.heap.size + 1)) #[] #[]] ++ lb := by apply Array.ext'; simp
    rw [harr] at hc
    refine (callsIn_wide (n := n - 1)).2 (hc.mono ?_)
    rintro ed w2 ⟨v, L, rfl, ⟨A', s, hfin⟩, hs2⟩
    rcases hfin with ⟨hdn, rfl⟩ | ⟨hst, rfl⟩
    · have h5 : Sat B w2 (objAt (w.heap.size + 1) (.loop (recOf fn a.tmps ps assign body w.heap.size .ready none)) :: (A' ++ J s ++ (objAt w.heap.size (.deferred (some [])) :: R))) := hs2.mono fun h H => by
        rw [List.append_assoc] at H ⊢; exact seps_mid' (L := A') H
      refine ⟨none, _, run_endLoop h5.obj.2.1 (by simp [recOf]), ⟨e, _, ⟨hr.size, hr.at_⟩, ?_, hdone w.heap.size s A' hdn⟩⟩
      have h6 := h5.setObj (.loop { recOf fn a.tmps ps assign body w.heap.size .ready none with state := .exhausted }) rfl
      exact h6.mono fun h H => seps_mid' (L := A' ++ J s) (seps_tail H)
    · have h5 : ∃ c, Sat B w2 (objAt (w.heap.size + 1) (.loop (recOf fn a.tmps ps assign body w.heap.size .done (some c))) :: (Jx c s ++ (A' ++ (objAt w.heap.size (.deferred (some [])) :: R)))) := by
        obtain ⟨hbel, hszz, h, hw, hS⟩ := hs2
        have hS1 : seps (stopped (w.heap.size + 1) (recOf fn a.tmps ps assign body w.heap.size) Jx s :: (A' ++ (objAt w.heap.size (.deferred (some [])) :: R))) h := by
          rw [List.append_assoc] at hS; exact seps_mid' (L := A') hS
        obtain ⟨g1, g2, ⟨c, hc⟩, gs, gd, s1, s2⟩ := hS1
        have : seps (seps (objAt (w.heap.size + 1) (.loop (recOf fn a.tmps ps assign body w.heap.size .done (some c))) :: Jx c s) :: (A' ++ (objAt w.heap.size (.deferred (some [])) :: R))) h := ⟨g1, g2, hc, gs, gd, s1, s2⟩
        exact ⟨c, hbel, hszz, h, hw, seps_open this⟩
      obtain ⟨c, h5⟩ := h5
      have h6 := h5.setObj (.loop { recOf fn a.tmps ps assign body w.heap.size .done (some c) with state := .exhausted }) rfl
      refine ⟨some c, _, run_endLoop h5.obj.2.1 (by simp [recOf]), hstop w.heap.size s A' c hst _ _ ⟨hr.size, hr.at_⟩ rfl (h6.mono fun h H => ?_)⟩
      have h7 := seps_tail H
      have h8 : seps (Jx c s ++ A' ++ (objAt w.heap.size (.deferred (some [])) :: R)) h := by rw [List.append_assoc]; exact h7
      refine seps_cons_mono (fun g hg => ?_) (seps_mid' (L := Jx c s ++ A') h8)
      rw [List.append_assoc] at hg ⊢
      exact seps_swapL hg

/-- A function's contract where its body holds ranges over functions. -/
def bodyQM (P : Program) (fn : Func) (fr : List HProp) (Ps : Value → List HProp → Prop) : Post
  | .normal, e, ds, S | .ret, e, ds, S => ∃ (Ds : List Nat) (S' : List HProp), ds = Ds.map mark ∧ Take S (Ds.map (fun D => objAt D (.deferred (some [])))) S' ∧ ∃ vs L R, ResL S' P e fn.results.toList vs ∧ Ps (tupled vs) L ∧ Take S' (L ++ fr) R
  | _, _, _, _ => False

theorem leaves_marks {fn : Func} {tmps : Array Value} {R : Ending → World → Prop} {w1 : World → Prop} : ∀ (Ds : List Nat) (G : List HProp) (w : World), Sat B w (Ds.map (fun D => objAt D (.deferred (some []))) ++ G) →
    (∀ w', Sat B w' G → LeavesInM Fence.wide n P fn tmps R [] .returning w') → LeavesInM Fence.wide n P fn tmps R (Ds.map mark) .returning w
  | [], G, w, hs, h => h w hs
  | D :: Ds, G, w, hs, h => by
    have ho := hs.obj.2.1
    refine ⟨by simp, .inl ⟨D, _, rfl, run_takeDeferred ho, leaves_marks (w1 := w1) Ds G _ ?_ h⟩⟩
    exact (hs.setObj (.deferred none) rfl).mono fun _ => seps_tail

theorem Fn_ofM {f : FuncId} {fn : Func} {c : Code} {args : List Value} {A : List HProp} {Ps : Value → List HProp → Prop} (hf : P.funcs[f]? = some fn) (hb : fn.body = some c)
    (hN : Nat.ble args.length fn.ntmps = true) (h : ∀ fr : HProp, Tri P B none 0 fn.ntmps c (envOf args) [] (A ++ [fr]) (bodyQM P fn [fr] Ps)) : Fn P B f args A Ps := by
  intro fr w hs
  have hN := Nat.le_of_ble_eq_true hN
  refine callsIn_wide (n := 0).1 ?_
  refine callsIn_of_wp_marks (F := Fence.wide) hf hb trivial (wpIn_mono (h (seps fr) { tmps := args.toArray ++ Array.replicate (fn.ntmps - args.toArray.size) undef, defers := [] } w ⟨by simp; omega, fun t => ?_⟩ rfl (hs.mono fun _ => seps_fold)) ?_)
  · simp only [envOf, Array.getD_eq_getD_getElem?, List.getD_eq_getElem?_getD]
    rw [Array.getElem?_append]
    split
    · simp
    · rename_i hge
      rw [show args[t]? = none by simp at hge ⊢; omega]
      cases hx : (Array.replicate (fn.ntmps - args.toArray.size) undef)[t - args.toArray.size]? with
      | none => rfl
      | some v => rw [Array.getElem?_replicate] at hx; split at hx <;> simp_all
  · rintro ex a w' ⟨e, S, hr, hsat, hq⟩
    have fin : bodyQM P fn [seps fr] Ps .ret e a.defers S → LeavesInM Fence.wide 0 P fn a.tmps (fun ed w' => ∃ v L, ed = .returned v ∧ Ps v L ∧ Sat B w' (L ++ fr)) a.defers .returning w' := by
      rintro ⟨Ds, S', hd, htk, vs, L, R, hres, hp, ht⟩
      rw [hd]
      refine leaves_marks (w1 := fun _ => True) Ds S' w' (hsat.take htk) fun w'' hs'' => ?_
      exact ⟨tupled vs, results_of hres hs'' hr.at_, _, L, rfl, hp, (hs''.mono fun _ x => seps_append_left (ht.out x)).mono fun _ => seps_unfold⟩
    cases ex <;> first | exact fin hq | exact hq.elim
end
end Go.Rz
